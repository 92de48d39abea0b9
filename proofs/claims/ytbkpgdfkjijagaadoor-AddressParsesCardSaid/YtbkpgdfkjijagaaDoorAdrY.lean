/- sporranref14.segwit: the walk. -/
import Derived.Test.YtbkpgdfkjijagaaDoorAdrX
namespace Go.Proofs.YtbkpgdfkjijagaaDoor
open Go.RowKit
set_option linter.unusedVariables false

def alph32 : List (BitVec 8) := [113, 112, 122, 114, 121, 57, 120, 56, 103, 102, 50, 116, 118, 100, 119, 48, 115, 51, 106, 110, 53, 52, 107, 104, 99, 101, 54, 109, 117, 97, 55, 108]
def U32 : List UInt8 := [113, 112, 122, 114, 121, 57, 120, 56, 103, 102, 50, 116, 118, 100, 119, 48, 115, 51, 106, 110, 53, 52, 107, 104, 99, 101, 54, 109, 117, 97, 55, 108]
theorem str32 : strB alph32 = ⟨U32.toArray⟩ := by rfl
def dig32 (d : Nat) : BitVec 8 := alph32.getD d 0
def bc1 : List (BitVec 8) := [98, 99, 49]
def wantN (v : Nat) : Nat := if v = 0 then 1 else 734539939
theorem wantN_lt (v : Nat) : wantN v < 1073741824 := by unfold wantN; split <;> decide
def segD (v : Nat) (bs : List (BitVec 8)) : List Nat := v :: fivesP (nats bs)
def segT (v : Nat) (d : List Nat) : Nat := ([3, 3, 0, 2, 3] ++ d ++ [0, 0, 0, 0, 0, 0]).foldl stepP 1 ^^^ wantN v
def segB (v : Nat) (bs : List (BitVec 8)) : List (BitVec 8) := bc1 ++ (segD v bs ++ sixOf (segT v (segD v bs))).map dig32
theorem fives_small (bs : List (BitVec 8)) (h : bs.length ≤ 100) : (fivesP (nats bs)).length ≤ 170 ∧ ∀ d ∈ fivesP (nats bs), d < 32 := by
  obtain ⟨pad, h1, h2, _, h4⟩ := fivesP_ok (nats bs) (nats_lt bs)
  have : (nats bs).length = bs.length := by unfold nats; exact List.length_map _
  exact ⟨by omega, h4⟩
theorem six_bits (T e : Nat) (q : Int) (hq : q = ((T / e : Nat) : Int)) (hT : T < 1073741824) : bits .and .i64 q 31 = ((T / e % 32 : Nat) : Int) := by
  have h1 : T / e ≤ T := Nat.div_le_self _ _
  rw [hq, show (31 : Int) = ((31 : Nat) : Int) from rfl, andI _ 31 (by omega) (by decide), show (31 : Nat) = 2 ^ 5 - 1 by decide, Nat.and_two_pow_sub_one_eq_mod]
theorem six_take (T k : Nat) (hk : k < 6) : (sixOf T).take (k + 1) = (sixOf T).take k ++ [T / 2 ^ (5 * (5 - k)) % 32] := by
  have h : (sixOf T)[k]? = some (T / 2 ^ (5 * (5 - k)) % 32) := by
    unfold sixOf
    rw [List.getElem?_map, List.getElem?_range hk]
    show some ((T >>> (5 * (5 - k))) &&& 31) = _
    rw [show (31 : Nat) = 2 ^ 5 - 1 by decide, Nat.and_two_pow_sub_one_eq_mod, Nat.shiftRight_eq_div_pow]
  rw [List.take_add_one, h]; rfl
theorem row_litZ (w : World) (cs : List Int) (hl : cs.length ≤ 1000) : RowZ (w.alloc (.cells (cs.map zI).toArray 3)) (some ⟨w.heap.size, 0, none⟩) cs := by
  obtain ⟨p, n, c, he, _, _, _, hr⟩ := (own_litZ w 0 cs (Nat.zero_le _) hl).open
  injection he with e1 _ _
  rw [e1]; exact hr
theorem let_cut (r : Nat) (hr : r < 32) (w : World) : (Instr.sliceAt 9 (.string (strB alph32)) (some (.int .i64 (r : Int))) (some (.int .i64 ((r : Int) + 1))) none).run Tryd.prog w = .ok (.string (strB [dig32 r])) w := by
  have key : ∀ r : Fin 32, (strB alph32).extract r.val (r.val + 1) = strB [dig32 r.val] := by decide +kernel
  rw [run_sliceAt_string w _ _ _ _ _ Tryd.underlying9, run_slice_string w _ _ _ _ _ _ Tryd.underlying9 (by omega) (by omega) (by rw [strB_size]; show (r : Int) + 1 ≤ 32; omega)]
  have := key ⟨r, hr⟩
  simp only at this
  rw [← this]
  congr 2

theorem pre_lt : ∀ x ∈ [3, 3, 0, 2, 3], x < 32 := by decide
theorem zero_lt : ∀ x ∈ [0, 0, 0, 0, 0, 0], x < 32 := by decide

set_option maxRecDepth 100000 in
set_option maxHeartbeats 8000000 in
theorem segwit_any (p : Option Addr) (n c : Nat) (bs : List (BitVec 8)) (v : Nat) (w : World) (hr : Row8 w p bs) (hn : bs.length = n) (hb : n ≤ 100) (hv : v < 2) :
    Calls Tryd.prog 56 #[.int .i64 (v : Int), .slice p n c] w fun e w' => e = .returned (.string (strB (segB v bs))) ∧ Below w.heap.size w w' := by
  have HLL := Lib.hid hn
  have HR := Lib.hid hr
  obtain ⟨hF1, hF2⟩ := fives_small bs (by omega)
  obtain ⟨D, hD⟩ : ∃ D, D = segD v bs := ⟨_, rfl⟩
  have HD : Hid (zl D = [(v : Int)] ++ zl (fivesP (nats bs))) := Lib.hid (by rw [hD]; rfl)
  have HDL : Hid (D.length ≤ 171) := Lib.hid (by rw [hD]; unfold segD; rw [List.length_cons]; omega)
  have HD32 : Hid (∀ x ∈ D, x < 32) := Lib.hid (by
    intro x hx; rw [hD] at hx; rcases List.mem_cons.1 hx with rfl | h
    · omega
    · exact hF2 x h)
  have HFL := Lib.hid hF1
  have HSB : Hid (segB v bs = bc1 ++ (D ++ sixOf (segT v D)).map dig32) := Lib.hid (by rw [hD]; rfl)
  obtain ⟨OUT, hOUT⟩ : ∃ o, o = segB v bs := ⟨_, rfl⟩
  rw [← hOUT] at HSB ⊢
  have HWA := Lib.hid (fun W => want_any v W)
  have HPX : Hid (bits .xor .i64 (((([3, 3, 0, 2, 3] ++ D ++ [0, 0, 0, 0, 0, 0]).foldl stepP 1 : Nat)) : Int) ((wantN v : Nat) : Int) = ((segT v D : Nat) : Int)) := Lib.hid (xorI _ _ (by
      have := fold_step_lt ([3, 3, 0, 2, 3] ++ D ++ [0, 0, 0, 0, 0, 0]) 1 (by decide) (by
        intro x hx
        rcases List.mem_append.1 hx with h | h
        · rcases List.mem_append.1 h with h | h
          · exact pre_lt x h
          · exact HD32.out x h
        · exact zero_lt x h)
      omega) (by have := wantN_lt v; omega))
  have HTL : Hid (segT v D < 1073741824) := Lib.hid (by
    unfold segT
    have := fold_step_lt ([3, 3, 0, 2, 3] ++ D ++ [0, 0, 0, 0, 0, 0]) 1 (by decide) (by
        intro x hx
        rcases List.mem_append.1 hx with h | h
        · rcases List.mem_append.1 h with h | h
          · exact pre_lt x h
          · exact HD32.out x h
        · exact zero_lt x h)
    exact Nat.xor_lt_two_pow (n := 30) this (wantN_lt v))
  have hwn : ∀ W, Calls Tryd.prog 77 #[.int .i64 (v : Int)] W fun e w' => e = .returned (.int .i64 ((wantN v : Nat) : Int)) ∧ w' = W := fun W => HWA.out W
  obtain ⟨WN, hWN⟩ : ∃ x, x = wantN v := ⟨_, rfl⟩
  rw [← hWN] at hwn HPX
  have HW := Lib.hid hwn
  obtain ⟨T, hT⟩ : ∃ x, x = segT v D := ⟨_, rfl⟩
  rw [← hT] at HPX HTL HSB
  clear hr hn hF1 hF2 hD hOUT HWA hwn hWN hT
  go_enter Tryd.func56, Tryd.ntmps56
  go_wp2_with fail
  refine (fives_any p n c bs _ (HR.out.fut (below_new _ _)) HLL.out (by omega)).mono ?_
  rintro e w2 ⟨v2, rfl, ho2, hb2⟩
  obtain ⟨q2, n2, c2, rfl, hn2, _, _, hr2⟩ := ho2.open
  have ho1 : OwnZ w2 w.heap.size (.slice (some ⟨w.heap.size, 0, none⟩) 1 1) [(v : Int)] := (own_litZ w w.heap.size [(v : Int)] (Nat.le_refl _) (by show 1 ≤ 1000; decide)).fut hb2
  have hbw2 : Below w.heap.size w w2 := below_fut (below_new _ _) hb2 (Nat.le_refl _)
  have hsz2 := hbw2.size
  have hdl : [(v : Int)].length + (zl (fivesP (nats bs))).length ≤ 1000000 := by rw [zl_len]; have := HFL.out; simp only [List.length_cons, List.length_nil]; omega
  have hn2 := hn2.out
  clear ho2 hb2
  go_upto_region 2 with (
        with_reducible refine wp_appendZ (o := ⟨some 15, _, _, _, _, _⟩) ?_ (.tmp 12) (.tmp 14) ?_ w.heap.size _ [(v : Int)] ?_ ho1 q2 n2 c2 (zl (fivesP (nats bs))) ?_ hn2 hr2 ?_ hsz2 w.heap.size w hbw2 ?_ ?_
        · rfl
        · rfl
        · rfl
        · rfl
        · exact hdl
        · exact Nat.le_refl _
        intro v4 w4 ho4 hb4)
  rw [← HD.out] at ho4
  clear hbw2 hdl hn2 hr2 ho1 hsz2
  have HO4 := Lib.hid ho4
  have hsz4 := hb4.size
  have hb5 := below_new w4 (.cells #[.int .i64 3, .int .i64 3, .int .i64 0, .int .i64 2, .int .i64 3] 3)
  have hsz5 := hb5.size
  obtain ⟨q4, n4, c4, rfl, hn4, _, _, hr4⟩ := (ho4.alloc (.cells #[.int .i64 3, .int .i64 3, .int .i64 0, .int .i64 2, .int .i64 3] 3)).open
  have ho5 : OwnZ (w4.alloc (.cells #[.int .i64 3, .int .i64 3, .int .i64 0, .int .i64 2, .int .i64 3] 3)) w4.heap.size (.slice (some ⟨w4.heap.size, 0, none⟩) 5 5) [3, 3, 0, 2, 3] := own_litZ w4 w4.heap.size [3, 3, 0, 2, 3] (Nat.le_refl _) (by decide)
  have hdl : [(3 : Int), 3, 0, 2, 3].length + (zl D).length ≤ 1000000 := by rw [zl_len]; have := HDL.out; simp only [List.length_cons, List.length_nil]; omega
  have hdl2 : ([(3 : Int), 3, 0, 2, 3] ++ zl D).length + [(0 : Int), 0, 0, 0, 0, 0].length ≤ 1000000 := by rw [List.length_append, zl_len]; have := HDL.out; simp only [List.length_cons, List.length_nil]; omega
  have hn4 := hn4.out
  clear ho4
  go_wp2_with (first
    | (
          with_reducible refine wp_appendZ (o := ⟨some 18, _, _, _, _, _⟩) ?_ (.tmp 16) (.tmp 17) ?_ w4.heap.size _ [3, 3, 0, 2, 3] ?_ ho5 q4 n4 c4 (zl D) ?_ hn4 hr4 ?_ hsz5 w4.heap.size w4 hb5 ?_ ?_
          · rfl
          · rfl
          · rfl
          · rfl
          · exact hdl
          · exact Nat.le_refl _
          intro v6 w6 ho6 hb6)
    | (
          have hz6 : RowZ (w6.alloc (.cells #[.int .i64 0, .int .i64 0, .int .i64 0, .int .i64 0, .int .i64 0, .int .i64 0] 3)) (some ⟨w6.heap.size, 0, none⟩) [0, 0, 0, 0, 0, 0] := row_litZ w6 [0, 0, 0, 0, 0, 0] (by decide)
          have hbz := hb6.alloc hb6.size (.cells #[.int .i64 0, .int .i64 0, .int .i64 0, .int .i64 0, .int .i64 0, .int .i64 0] 3)
          have hsz6 := hbz.size
          have ho6z := ho6.alloc (.cells #[.int .i64 0, .int .i64 0, .int .i64 0, .int .i64 0, .int .i64 0, .int .i64 0] 3)
          with_reducible refine wp_appendZ (o := ⟨some 20, _, _, _, _, _⟩) ?_ (.tmp 18) (.tmp 19) ?_ w4.heap.size _ ([3, 3, 0, 2, 3] ++ zl D) ?_ ho6z (some ⟨w6.heap.size, 0, none⟩) 6 6 [0, 0, 0, 0, 0, 0] ?_ rfl hz6 ?_ hsz6 w4.heap.size w4 hbz ?_ ?_
          · rfl
          · rfl
          · rfl
          · rfl
          · exact hdl2
          · exact Nat.le_refl _
          intro v8 w8 ho8 hb8))
  obtain ⟨q8, n8, c8, rfl, hn8, _, _, hr8⟩ := ho8.open
  have HLz : [(3 : Int), 3, 0, 2, 3] ++ zl D ++ [0, 0, 0, 0, 0, 0] = zl ([3, 3, 0, 2, 3] ++ D ++ [0, 0, 0, 0, 0, 0]) := by rw [zl_app, zl_app]; rfl
  rw [HLz] at hr8 hn8
  have hp8 := polymod_any q8 n8 c8 _ w8 hr8 (by rw [← hn8.out, zl_len]) (by have := hn8.out; rw [zl_len, List.length_append, List.length_append] at this; have := HDL.out; simp only [List.length_cons, List.length_nil] at *; omega) (by
        intro x hx
        rcases List.mem_append.1 hx with h | h
        · rcases List.mem_append.1 h with h | h
          · exact pre_lt x h
          · exact HD32.out x h
        · exact zero_lt x h)
  obtain ⟨PN, hPN⟩ : ∃ x, x = ([3, 3, 0, 2, 3] ++ D ++ [0, 0, 0, 0, 0, 0]).foldl stepP 1 := ⟨_, rfl⟩
  rw [← hPN] at hp8 HPX
  refine hp8.mono ?_
  rintro e w9 ⟨rfl, hb9⟩
  have hb49 : Below w4.heap.size w4 w9 := below_fut hb8 hb9 (Nat.le_refl _)
  have hbw9 : Below w.heap.size w w9 := below_fut hb4 hb49 (Nat.le_refl _)
  have HO9 := Lib.hid (HO4.out.fut hb49)
  clear hb8 hb9 hb49 hp8 hPN hr8 hn8 HLz HO4 hr4 hn4 ho8 hdl hdl2 hb4 hb5 hb6 ho5 ho6
  go_wp2_with fail
  refine (HW.out w9).mono ?_
  rintro e w10 ⟨rfl, rfl⟩
  go_upto_region 3 with fail
  rw [HPX.out]
  have HB9 := Lib.hid hbw9
  clear HPX HW hbw9
  go_wp2_with fail
  go_loopw [5, 25] (fun dv i wx => ∃ k : Nat, k ≤ 6 ∧ i = .int .i64 k ∧ Hid (OwnZ wx w.heap.size dv (zl (D ++ (sixOf T).take k))) ∧ Hid (Below w.heap.size w wx)) (fun _ i _ => 6 - (intOf i).toNat)
  case atStart => exact ⟨0, by omega, rfl, Lib.hid (by rw [List.take_zero, List.append_nil]; exact HO9.out), HB9⟩
  case round =>
    obtain ⟨k, hk, rfl, HO, HB⟩ := hrel
    by_cases hk6 : k < 6
    · rcases (show k = 0 ∨ k = 1 ∨ k = 2 ∨ k = 3 ∨ k = 4 ∨ k = 5 by omega) with rfl | rfl | rfl | rfl | rfl | rfl
      · have HQ := Lib.hid (six_bits T 33554432 ((T : Int) / 33554432) (by omega) HTL.out)
        have HS6 := Lib.hid (six_take T 0 (by decide))
        have hsz2 : w.heap.size ≤ wr.heap.size := HB.out.size
        have hb3 := HB.out.alloc hsz2 (.cells #[.int .i64 (bits .and .i64 ((T : Int) / 33554432) 31)] 3)
        have hsz3 := hb3.size
        have ho3 := HO.out.alloc (.cells #[.int .i64 (bits .and .i64 ((T : Int) / 33554432) 31)] 3)
        have hrow3 := new_oneZ wr (bits .and .i64 ((T : Int) / 33554432) 31)
        have hdl : (zl (D ++ (sixOf T).take 0)).length + 1 ≤ 1000000 := by rw [zl_len, List.length_append, List.length_take]; have := HDL.out; omega
        go_wp2_with (with_reducible refine wp_appendZ (o := ⟨some 36, _, _, _, _, _⟩) ?_ (.tmp 28) (.tmp 35) ?_ w.heap.size _ (zl (D ++ (sixOf T).take 0)) ?_ ho3 (some ⟨wr.heap.size, 0, none⟩) 1 1 [bits .and .i64 ((T : Int) / 33554432) 31] ?_ rfl hrow3 ?_ hsz3 w.heap.size w hb3 ?_ ?_
                     · rfl
                     · rfl
                     · rfl
                     · rfl
                     · exact hdl
                     · exact Nat.le_refl _
                     intro v4 w4 ho4 hb4)
        have ho5 : OwnZ w4 w.heap.size v4 (zl (D ++ (sixOf T).take (0 + 1))) := by have h := ho4; rw [HQ.out] at h; rw [HS6.out, ← List.append_assoc, zl_app]; exact h
        go_roundw
        case rel => exact ⟨0 + 1, by omega, rfl, Lib.hid ho5, Lib.hid hb4⟩
        case measure => decide
      · have HQ := Lib.hid (six_bits T 1048576 ((T : Int) / 1048576) (by omega) HTL.out)
        have HS6 := Lib.hid (six_take T 1 (by decide))
        have hsz2 : w.heap.size ≤ wr.heap.size := HB.out.size
        have hb3 := HB.out.alloc hsz2 (.cells #[.int .i64 (bits .and .i64 ((T : Int) / 1048576) 31)] 3)
        have hsz3 := hb3.size
        have ho3 := HO.out.alloc (.cells #[.int .i64 (bits .and .i64 ((T : Int) / 1048576) 31)] 3)
        have hrow3 := new_oneZ wr (bits .and .i64 ((T : Int) / 1048576) 31)
        have hdl : (zl (D ++ (sixOf T).take 1)).length + 1 ≤ 1000000 := by rw [zl_len, List.length_append, List.length_take]; have := HDL.out; omega
        go_wp2_with (with_reducible refine wp_appendZ (o := ⟨some 36, _, _, _, _, _⟩) ?_ (.tmp 28) (.tmp 35) ?_ w.heap.size _ (zl (D ++ (sixOf T).take 1)) ?_ ho3 (some ⟨wr.heap.size, 0, none⟩) 1 1 [bits .and .i64 ((T : Int) / 1048576) 31] ?_ rfl hrow3 ?_ hsz3 w.heap.size w hb3 ?_ ?_
                     · rfl
                     · rfl
                     · rfl
                     · rfl
                     · exact hdl
                     · exact Nat.le_refl _
                     intro v4 w4 ho4 hb4)
        have ho5 : OwnZ w4 w.heap.size v4 (zl (D ++ (sixOf T).take (1 + 1))) := by have h := ho4; rw [HQ.out] at h; rw [HS6.out, ← List.append_assoc, zl_app]; exact h
        go_roundw
        case rel => exact ⟨1 + 1, by omega, rfl, Lib.hid ho5, Lib.hid hb4⟩
        case measure => decide
      · have HQ := Lib.hid (six_bits T 32768 ((T : Int) / 32768) (by omega) HTL.out)
        have HS6 := Lib.hid (six_take T 2 (by decide))
        have hsz2 : w.heap.size ≤ wr.heap.size := HB.out.size
        have hb3 := HB.out.alloc hsz2 (.cells #[.int .i64 (bits .and .i64 ((T : Int) / 32768) 31)] 3)
        have hsz3 := hb3.size
        have ho3 := HO.out.alloc (.cells #[.int .i64 (bits .and .i64 ((T : Int) / 32768) 31)] 3)
        have hrow3 := new_oneZ wr (bits .and .i64 ((T : Int) / 32768) 31)
        have hdl : (zl (D ++ (sixOf T).take 2)).length + 1 ≤ 1000000 := by rw [zl_len, List.length_append, List.length_take]; have := HDL.out; omega
        go_wp2_with (with_reducible refine wp_appendZ (o := ⟨some 36, _, _, _, _, _⟩) ?_ (.tmp 28) (.tmp 35) ?_ w.heap.size _ (zl (D ++ (sixOf T).take 2)) ?_ ho3 (some ⟨wr.heap.size, 0, none⟩) 1 1 [bits .and .i64 ((T : Int) / 32768) 31] ?_ rfl hrow3 ?_ hsz3 w.heap.size w hb3 ?_ ?_
                     · rfl
                     · rfl
                     · rfl
                     · rfl
                     · exact hdl
                     · exact Nat.le_refl _
                     intro v4 w4 ho4 hb4)
        have ho5 : OwnZ w4 w.heap.size v4 (zl (D ++ (sixOf T).take (2 + 1))) := by have h := ho4; rw [HQ.out] at h; rw [HS6.out, ← List.append_assoc, zl_app]; exact h
        go_roundw
        case rel => exact ⟨2 + 1, by omega, rfl, Lib.hid ho5, Lib.hid hb4⟩
        case measure => decide
      · have HQ := Lib.hid (six_bits T 1024 ((T : Int) / 1024) (by omega) HTL.out)
        have HS6 := Lib.hid (six_take T 3 (by decide))
        have hsz2 : w.heap.size ≤ wr.heap.size := HB.out.size
        have hb3 := HB.out.alloc hsz2 (.cells #[.int .i64 (bits .and .i64 ((T : Int) / 1024) 31)] 3)
        have hsz3 := hb3.size
        have ho3 := HO.out.alloc (.cells #[.int .i64 (bits .and .i64 ((T : Int) / 1024) 31)] 3)
        have hrow3 := new_oneZ wr (bits .and .i64 ((T : Int) / 1024) 31)
        have hdl : (zl (D ++ (sixOf T).take 3)).length + 1 ≤ 1000000 := by rw [zl_len, List.length_append, List.length_take]; have := HDL.out; omega
        go_wp2_with (with_reducible refine wp_appendZ (o := ⟨some 36, _, _, _, _, _⟩) ?_ (.tmp 28) (.tmp 35) ?_ w.heap.size _ (zl (D ++ (sixOf T).take 3)) ?_ ho3 (some ⟨wr.heap.size, 0, none⟩) 1 1 [bits .and .i64 ((T : Int) / 1024) 31] ?_ rfl hrow3 ?_ hsz3 w.heap.size w hb3 ?_ ?_
                     · rfl
                     · rfl
                     · rfl
                     · rfl
                     · exact hdl
                     · exact Nat.le_refl _
                     intro v4 w4 ho4 hb4)
        have ho5 : OwnZ w4 w.heap.size v4 (zl (D ++ (sixOf T).take (3 + 1))) := by have h := ho4; rw [HQ.out] at h; rw [HS6.out, ← List.append_assoc, zl_app]; exact h
        go_roundw
        case rel => exact ⟨3 + 1, by omega, rfl, Lib.hid ho5, Lib.hid hb4⟩
        case measure => decide
      · have HQ := Lib.hid (six_bits T 32 ((T : Int) / 32) (by omega) HTL.out)
        have HS6 := Lib.hid (six_take T 4 (by decide))
        have hsz2 : w.heap.size ≤ wr.heap.size := HB.out.size
        have hb3 := HB.out.alloc hsz2 (.cells #[.int .i64 (bits .and .i64 ((T : Int) / 32) 31)] 3)
        have hsz3 := hb3.size
        have ho3 := HO.out.alloc (.cells #[.int .i64 (bits .and .i64 ((T : Int) / 32) 31)] 3)
        have hrow3 := new_oneZ wr (bits .and .i64 ((T : Int) / 32) 31)
        have hdl : (zl (D ++ (sixOf T).take 4)).length + 1 ≤ 1000000 := by rw [zl_len, List.length_append, List.length_take]; have := HDL.out; omega
        go_wp2_with (with_reducible refine wp_appendZ (o := ⟨some 36, _, _, _, _, _⟩) ?_ (.tmp 28) (.tmp 35) ?_ w.heap.size _ (zl (D ++ (sixOf T).take 4)) ?_ ho3 (some ⟨wr.heap.size, 0, none⟩) 1 1 [bits .and .i64 ((T : Int) / 32) 31] ?_ rfl hrow3 ?_ hsz3 w.heap.size w hb3 ?_ ?_
                     · rfl
                     · rfl
                     · rfl
                     · rfl
                     · exact hdl
                     · exact Nat.le_refl _
                     intro v4 w4 ho4 hb4)
        have ho5 : OwnZ w4 w.heap.size v4 (zl (D ++ (sixOf T).take (4 + 1))) := by have h := ho4; rw [HQ.out] at h; rw [HS6.out, ← List.append_assoc, zl_app]; exact h
        go_roundw
        case rel => exact ⟨4 + 1, by omega, rfl, Lib.hid ho5, Lib.hid hb4⟩
        case measure => decide
      · have HQ := Lib.hid (six_bits T 1 (T : Int) (by omega) HTL.out)
        have HS6 := Lib.hid (six_take T 5 (by decide))
        have hsz2 : w.heap.size ≤ wr.heap.size := HB.out.size
        have hb3 := HB.out.alloc hsz2 (.cells #[.int .i64 (bits .and .i64 (T : Int) 31)] 3)
        have hsz3 := hb3.size
        have ho3 := HO.out.alloc (.cells #[.int .i64 (bits .and .i64 (T : Int) 31)] 3)
        have hrow3 := new_oneZ wr (bits .and .i64 (T : Int) 31)
        have hdl : (zl (D ++ (sixOf T).take 5)).length + 1 ≤ 1000000 := by rw [zl_len, List.length_append, List.length_take]; have := HDL.out; omega
        go_wp2_with (with_reducible refine wp_appendZ (o := ⟨some 36, _, _, _, _, _⟩) ?_ (.tmp 28) (.tmp 35) ?_ w.heap.size _ (zl (D ++ (sixOf T).take 5)) ?_ ho3 (some ⟨wr.heap.size, 0, none⟩) 1 1 [bits .and .i64 (T : Int) 31] ?_ rfl hrow3 ?_ hsz3 w.heap.size w hb3 ?_ ?_
                     · rfl
                     · rfl
                     · rfl
                     · rfl
                     · exact hdl
                     · exact Nat.le_refl _
                     intro v4 w4 ho4 hb4)
        have ho5 : OwnZ w4 w.heap.size v4 (zl (D ++ (sixOf T).take (5 + 1))) := by have h := ho4; rw [HQ.out] at h; rw [HS6.out, ← List.append_assoc, zl_app]; exact h
        go_roundw
        case rel => exact ⟨5 + 1, by omega, rfl, Lib.hid ho5, Lib.hid hb4⟩
        case measure => decide
    · obtain rfl : k = 6 := by omega
      have HS6 : Hid ((sixOf T).take 6 = sixOf T) := Lib.hid (List.take_of_length_le (by rw [sixOf_len]; decide))
      rw [HS6.out] at HO
      have HE32 : Hid (∀ x ∈ D ++ sixOf T, x < 32) := Lib.hid (by
        intro x hx
        rcases List.mem_append.1 hx with h | h
        · exact HD32.out x h
        · exact sixOf_lt T x h)
      have HEL : Hid ((D ++ sixOf T).length ≤ 200) := Lib.hid (by rw [List.length_append, sixOf_len]; have := HDL.out; omega)
      obtain ⟨E, hE⟩ : ∃ E, E = D ++ sixOf T := ⟨_, rfl⟩
      rw [← hE] at HO HE32 HEL HSB
      obtain ⟨q, m, cc, rfl, hm, hmc, hcm, hrz⟩ := HO.out.open
      have hm2 : E.length = m := by rw [← hm.out, zl_len]
      have HRZ := Lib.hid hrz
      have HM := Lib.hid hm2
      have hm200 : m ≤ 200 := by rw [← hm2]; exact HEL.out
      clear hE hm hm2 hrz HO HS6
      go_wp2_with fail
      go_loop [8, 40] (fun sv i => ∃ (k : Nat) (tl : List (BitVec 8)), k ≤ m ∧ i = .int .i64 k ∧ sv = .string (strB tl) ∧ Hid (tl = bc1 ++ (E.take k).map dig32)) (fun _ i => m - (intOf i).toNat)
      case atStart => exact ⟨0, bc1, by omega, rfl, rfl, Lib.hid rfl⟩
      case round =>
        obtain ⟨k, tl, hk, rfl, rfl, HTLE⟩ := hrel
        by_cases hkm : k < m
        · have hlt : (k : Int) < (m : Int) := by omega
          obtain ⟨x, hx⟩ : ∃ x, E[k]? = some x := ⟨_, List.getElem?_eq_getElem (by rw [HM.out]; omega)⟩
          have hx32 := HE32.out x (List.mem_of_getElem? hx)
          obtain ⟨b, o, rfl, _, hcl⟩ := HRZ.out (fun e => by have := zl_at hx; rw [e] at this; cases this)
          have hcell := hcl k _ (zl_at hx)
          have hdc := fun W => let_cut x hx32 W
          rw [str32] at hdc
          unfold U32 at hdc
          have hsa := fun W => str_add tl [dig32 x] (by have := congrArg List.length HTLE.out; simp only [bc1, List.length_append, List.length_map, List.length_take, List.length_cons, List.length_nil] at this ⊢; omega) W
          have HNX : Hid (tl ++ [dig32 x] = bc1 ++ (E.take (k + 1)).map dig32) := Lib.hid (by rw [List.take_add_one, hx, HTLE.out, List.map_append, ← List.append_assoc]; rfl)
          obtain ⟨DG, hDG⟩ : ∃ D, D = strB [dig32 x] := ⟨_, rfl⟩
          obtain ⟨TL, hTLs⟩ : ∃ D, D = strB tl := ⟨_, rfl⟩
          rw [← hDG, ← hTLs] at hsa
          rw [← hDG] at hdc
          rw [← hTLs]
          clear hDG hTLs hx hcl
          go_wp2_with fail
          go_round
          case rel => exact ⟨k + 1, tl ++ [dig32 x], by omega, by go_num, rfl, HNX⟩
          case measure => simp [intOf]; omega
        · have hlt : ¬ (k : Int) < (m : Int) := by omega
          have HE : Hid (tl = OUT) := Lib.hid (by rw [HTLE.out, HSB.out, List.take_of_length_le (by rw [HM.out]; omega)])
          obtain ⟨TL, hTLs⟩ : ∃ D, D = strB tl := ⟨_, rfl⟩
          rw [← hTLs]
          have HTS := Lib.hid hTLs
          clear hTLs
          go_wp2_with fail
          go_ret
          exact ⟨by rw [HTS.out, HE.out]; rfl, HB.out⟩
end Go.Proofs.YtbkpgdfkjijagaaDoor
