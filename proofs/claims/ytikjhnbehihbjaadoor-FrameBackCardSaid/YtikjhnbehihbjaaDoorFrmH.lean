/- frame.num, bytes.TrimRight at one nought, frame.Reader's head and take: the walks. -/
import Derived.Test.YtikjhnbehihbjaaDoorFrmP
import Derived.Test.YtikjhnbehihbjaaDoorGB
namespace Go.Proofs.YtikjhnbehihbjaaDoor
open Go.RowKit
set_option linter.unusedVariables false

set_option maxRecDepth 100000 in
set_option maxHeartbeats 2000000 in
theorem frmNum_any (p : Option Addr) (n c : Nat) (bs : List (BitVec 8)) (w : World) (hr : Row8 w p bs) (hn : bs.length = n) (h4 : 4 ≤ n) :
    Calls Tryd.prog 38 #[.slice p n c] w fun e w' => e = .returned (.int .u32 (iv32 (num32 bs))) ∧ ∃ k, w' = w.drewN k := by
  obtain ⟨bb, of, rfl, _, hrow⟩ := hr (fun e => by rw [e] at hn; simp at hn; omega)
  have key : ∀ i, i < 4 → ∃ x, bs[i]? = some x ∧ w.cell? ⟨bb, of + i, none⟩ = some (.int .u8 (iv8 x)) := fun i hi => by
    refine ⟨bs[i]'(by omega), List.getElem?_eq_getElem _, ?_⟩
    exact hrow _ _ (List.getElem?_eq_getElem _)
  obtain ⟨x0, y0, c0⟩ := key 0 (by omega)
  obtain ⟨x1, y1, c1⟩ := key 1 (by omega)
  obtain ⟨x2, y2, c2⟩ := key 2 (by omega)
  obtain ⟨x3, y3, c3⟩ := key 3 (by omega)
  have hnum : Hid (num32 bs = ((x0.setWidth 32 ||| x1.setWidth 32 <<< 8) ||| x2.setWidth 32 <<< 16) ||| x3.setWidth 32 <<< 24) := Lib.hid (by
    rw [num_or, num32_four bs x0 x1 x2 x3 y0 y1 y2 y3])
  have s1 := shl32 (x1.setWidth 32) 8 256 (by rfl)
  have s2 := shl32 (x2.setWidth 32) 16 65536 (by rfl)
  have s3 := shl32 (x3.setWidth 32) 24 16777216 (by rfl)
  have w0 := ext8_32 x0
  have w1 := ext8_32 x1
  have w2 := ext8_32 x2
  have w3 := ext8_32 x3
  have o1 := or32 (x0.setWidth 32) (x1.setWidth 32 <<< 8)
  have o2 := or32 (x0.setWidth 32 ||| x1.setWidth 32 <<< 8) (x2.setWidth 32 <<< 16)
  have o3 := or32 ((x0.setWidth 32 ||| x1.setWidth 32 <<< 8) ||| x2.setWidth 32 <<< 16) (x3.setWidth 32 <<< 24)
  rw [Nat.add_zero] at c0
  have b0 : 0 < n := by omega
  have b1 : (1 : Int) < (n : Int) := by omega
  have b2 : (2 : Int) < (n : Int) := by omega
  have b3 : (3 : Int) < (n : Int) := by omega
  clear key hrow hr y0 y1 y2 y3 hn h4
  go_enter Tryd.func38, Tryd.ntmps38
  go_wp2_with fail
  go_quiet (fail)
  go_wp2
  go_ret
  refine ⟨ret_int ?_, _, rfl⟩
  rw [hnum.out]

set_option maxRecDepth 100000 in
set_option maxHeartbeats 2000000 in
theorem trimByte_any (p : Option Addr) (n c : Nat) (bs : List (BitVec 8)) (w : World) (hr : Row8 w p bs) (hn : bs.length = n) (hnc : n ≤ c) (hc : c ≤ 9223372036854775807) :
    Calls Tryd.prog 47 #[.slice p n c, .int .u8 0] w fun e w' => e = .returned (.slice p (trimN bs n) c) ∧ w' = w := by
  have HN := Lib.hid hn
  have HR := Lib.hid hr
  have HT : Hid (∃ t, t = trimN bs n ∧ t ≤ n) := Lib.hid ⟨_, rfl, trimN_le bs n⟩
  obtain ⟨t, ht, htn⟩ := HT.out
  rw [← ht]
  have HTT := Lib.hid ht
  clear hn hr ht HT
  go_enter Tryd.func47, Tryd.ntmps47
  go_wp2_with fail
  go_loop [0] (fun s => ∃ k : Nat, k ≤ n ∧ s = .slice p k c ∧ Hid (t = trimN bs k)) (fun s => match s with | .slice _ k _ => k | _ => 0)
  case atStart => exact ⟨n, Nat.le_refl _, rfl, HTT⟩
  case round =>
    obtain ⟨k, hk, rfl, hkt⟩ := hrel
    by_cases h0 : k = 0
    · subst h0
      have HE : Hid (t = 0) := Lib.hid (by rw [hkt.out]; rfl)
      go_wp2_with fail
      go_ret
      exact ⟨by rw [HE.out]; rfl, rfl⟩
    · have hkp : 0 < k := by omega
      have hkp' : (0 : Int) < (k : Int) := by omega
      obtain ⟨j, hj⟩ : ∃ j, k = j + 1 := ⟨k - 1, by omega⟩
      subst hj
      obtain ⟨bb, of, hp, hlt, hcell⟩ := HR.out (by intro e; have := HN.out; rw [e] at this; simp at this; omega)
      subst hp
      obtain ⟨x, hx⟩ : ∃ x, bs[j]? = some x := ⟨_, List.getElem?_eq_getElem (by rw [HN.out]; omega)⟩
      have hc1 : w.cell? ⟨bb, of + j, none⟩ = some (.int .u8 (iv8 x)) := hcell j x hx
      have hj0 : (0 : Int) ≤ (j : Int) := by omega
      have hjn : (j : Int) < (j : Int) + 1 := by omega
      have hjb : (j : Int) + 1 ≤ 9223372036854775807 := by omega
      by_cases hz : x = 0#8
      · have hz0 : (iv8 x == 0) = true := by rw [hz]; rfl
        have HE : Hid (t = trimN bs j) := Lib.hid (by rw [hkt.out, trimN, if_pos (by rw [hx, hz])])
        clear hcell hx hz
        go_wp2_with fail
        go_round
        case rel => exact ⟨j, by omega, by simp, HE⟩
        case measure => simp
      · have hz0 : (iv8 x == 0) = false := by
          rw [beq_eq_false_iff_ne]
          intro e
          exact hz (iv8_inj.1 (e.trans (by rfl)))
        have HE : Hid (t = j + 1) := Lib.hid (by rw [hkt.out, trimN, if_neg (by rw [hx]; intro e; injection e with e; exact hz e)])
        clear hcell hx hz
        go_wp2_with fail
        go_ret
        exact ⟨by rw [HE.out]; rfl, rfl⟩

set_option maxRecDepth 100000 in
set_option maxHeartbeats 2000000 in
theorem trimRight_any (p : Option Addr) (n c : Nat) (bs : List (BitVec 8)) (w : World) (hr : Row8 w p bs) (hn : bs.length = n) (hnc : n ≤ c) (hc : c ≤ 9223372036854775807) (h0 : 0 < n) :
    Calls Tryd.prog 37 #[.slice p n c, .string ⟨#[0]⟩] w fun e w' => e = .returned (.slice p (trimN bs n) c) ∧ w' = w := by
  have HN := Lib.hid hn
  have HR := Lib.hid hr
  have h0i : (0 : Int) < (n : Int) := by omega
  have h0n : n ≠ 0 := by omega
  have ht := trimByte_any p n c bs w hr hn hnc hc
  generalize trimN bs n = t at ht ⊢
  clear hn hr
  go_enter Tryd.func37, Tryd.ntmps37
  go_wp2_with fail
  refine ht.mono ?_
  rintro e w' ⟨rfl, rfl⟩
  go_wp2_with fail
  go_ret
  exact ⟨rfl, rfl⟩

/-- what head hands back -/
def headV (x : List (BitVec 8) × Nat × Int) : Value := .tuple #[.string (strB x.1), .int .i64 (x.2.1 : Int), .int .i64 x.2.2]
set_option maxRecDepth 100000 in
set_option maxHeartbeats 4000000 in
theorem head_any (g : Nat) (p : Option Addr) (n c : Nat) (m x : Value) (bs : List (BitVec 8)) (w : World) (hB : Blk w g 48 #[.slice p n c, m, x]) (hr : Row8 w p bs) (hn : bs.length = n) (hnc : n ≤ c) (hc : c ≤ 9223372036854775807) (h24 : 24 ≤ n) :
    Calls Tryd.prog 27 #[.pointer (some ⟨g, 0, none⟩)] w fun e w' => e = .returned (headV (frmHead bs)) ∧ ∃ k, w' = w.drewN k := by
  obtain ⟨bb, of, rfl, hlt, hrow⟩ := hr (fun e => by rw [e] at hn; simp at hn; omega)
  have HR : Hid (Row8 w (some ⟨bb, of, none⟩) bs) := Lib.hid (fun _ => ⟨bb, of, rfl, hlt, hrow⟩)
  have HN := Lib.hid hn
  have c0 := hB.cell 0
  simp only [List.getElem?_toArray, List.getElem?_cons_zero] at c0
  have r4 : Row8 w (some ⟨bb, of + 4, none⟩) ((bs.drop 4).take 12) := (HR.out.frm 4).take 12
  have l4 : ((bs.drop 4).take 12).length = 12 := by simp; omega
  have b4 : (16 : Int) ≤ (c : Int) := by omega
  have b5 : (16 : Int) ≤ (n : Int) := by omega
  have b6 : ¬ (c = 4) := by omega
  have b7 : ¬ (c = 16) := by omega
  have h1 := trimRight_any (some ⟨bb, of + 4, none⟩) 12 (c - 4) _ w r4 l4 (by omega) (by omega) (by omega)
  obtain ⟨t, ht⟩ : ∃ t, t = trimN ((bs.drop 4).take 12) 12 := ⟨_, rfl⟩
  rw [← ht] at h1
  have HT := Lib.hid ht
  clear hn hr hrow hB ht
  go_enter Tryd.func27, Tryd.ntmps27
  go_wp2_with fail
  refine h1.mono ?_
  rintro e w' ⟨rfl, hw⟩
  replace hw := hw.symm
  subst hw
  go_wp2_with fail
  refine (frmNum_any _ _ _ (bs.drop 16) _ (HR.out.frm 16) (by rw [List.length_drop, HN.out]) (by omega)).mono ?_
  rintro e w' ⟨rfl, k1, rfl⟩
  have hNb := iv32_hi (num32 (bs.drop 16))
  have hNl := iv32_lo (num32 (bs.drop 16))
  have HH : Hid (frmHead bs = if num32 bs = 3652501241#32 ∧ cmdOk (((bs.drop 4).take 12).take t) = true then (if 200000 < (num32 (bs.drop 16)).toNat then ([], 0, 91) else (((bs.drop 4).take 12).take t, 24 + (num32 (bs.drop 16)).toNat, 0)) else ([], 0, 90)) := Lib.hid (by
    unfold frmHead frmName frmLen trim0
    rw [l4, HT.out])
  have HI : Hid (iv32 (num32 (bs.drop 16)) = ((num32 (bs.drop 16)).toNat : Int)) := Lib.hid rfl
  obtain ⟨N, hN⟩ : ∃ N, N = iv32 (num32 (bs.drop 16)) := ⟨_, rfl⟩
  obtain ⟨N', hN'⟩ : ∃ N, N = (num32 (bs.drop 16)).toNat := ⟨_, rfl⟩
  have ht12 : t ≤ 12 := by rw [HT.out]; exact trimN_le _ _
  obtain ⟨nm, hnm⟩ : ∃ nm, nm = ((bs.drop 4).take 12).take t := ⟨_, rfl⟩
  have hnml : nm.length = t := by rw [hnm, List.length_take, l4]; omega
  have r5 : Row8 w (some ⟨bb, of + 4, none⟩) nm := by rw [hnm]; exact r4.take t
  rw [← hN] at hNb hNl HI ⊢
  rw [← hN'] at HI HH
  rw [← hnm] at HH
  have R5 := Lib.hid r5
  have HL5 := Lib.hid hnml
  clear hN hN' hnm HT r4 l4 h1 r5 hnml
  go_wp2_with fail
  refine (frmNum_any _ _ _ bs _ (HR.out.fut (below_draws w k1)) HN.out (by omega)).mono ?_
  rintro e w' ⟨rfl, k2, rfl⟩
  by_cases hm : num32 bs = 3652501241#32
  · have hm1 : (iv32 (num32 bs) == 3652501241) = true := by rw [hm]; rfl
    have hm2 : (iv32 (num32 bs) != 3652501241) = false := by rw [hm]; rfl
    have HM := Lib.hid hm
    generalize iv32 (num32 bs) = M at hm1 hm2 ⊢
    clear hm
    go_wp2_with fail
    refine (isCommand_any _ _ _ nm _ (R5.out.fut (below_draws w (k1 + k2))) HL5.out (by omega)).mono ?_
    rintro e w' ⟨rfl, hw⟩
    replace hw := hw.symm
    subst hw
    cases hq : cmdOk nm with
    | false =>
      have HE : Hid (frmHead bs = ([], 0, 90)) := Lib.hid (by rw [HH.out, if_neg (by rw [hq]; simp)])
      clear hq
      go_wp2_with fail
      go_ret3
      exact ⟨by rw [HE.out]; rfl, k1 + k2, rfl⟩
    | true =>
      by_cases hg : 200000 < N'
      · have HE : Hid (frmHead bs = ([], 0, 91)) := Lib.hid (by rw [HH.out, if_pos ⟨HM.out, hq⟩, if_pos hg])
        have hg1 : (200000 : Int) < N := by rw [HI.out]; omega
        clear hq
        go_wp2_with fail
        go_ret3
        exact ⟨by rw [HE.out]; rfl, k1 + k2, rfl⟩
      · have HE : Hid (frmHead bs = (nm, 24 + N', 0)) := Lib.hid (by rw [HH.out, if_pos ⟨HM.out, hq⟩, if_neg hg])
        have hg1 : ¬ (200000 : Int) < N := by rw [HI.out]; omega
        have hg2 : N ≤ 200000 := by omega
        have hcv := (R5.out.fut (below_draws w (k1 + k2))).convert t (c - 4) HL5.out
        clear hq
        go_wp2_with fail
        go_ret3
        exact ⟨by rw [HE.out]; unfold headV; simp only [HI.out]; rfl, k1 + k2, rfl⟩
  · have hm1 : (iv32 (num32 bs) == 3652501241) = false := by rw [beq_eq_false_iff_ne]; intro e; exact hm (iv32_inj.1 (e.trans (by rfl)))
    have hm2 : (iv32 (num32 bs) != 3652501241) = true := by rw [bne, hm1]; rfl
    have HE : Hid (frmHead bs = ([], 0, 90)) := Lib.hid (by rw [HH.out, if_neg (fun h => hm h.1)])
    generalize iv32 (num32 bs) = M at hm1 hm2 ⊢
    clear hm
    go_wp2_with fail
    go_ret3
    exact ⟨by rw [HE.out]; rfl, k1 + k2, rfl⟩

def TakePost (w : World) (g : Nat) (v m x : Value) (bs : List (BitVec 8)) (e : Ending) (w' : World) : Prop :=
  ∃ v', e = .returned v' ∧ Own8 w' w.heap.size v' bs ∧ Blk w' g 48 #[v, m, x] ∧ Stays (· = g) w w'
set_option maxRecDepth 100000 in
set_option maxHeartbeats 4000000 in
theorem take_any (g : Nat) (p : Option Addr) (n c k : Nat) (m x : Value) (bs : List (BitVec 8)) (w : World) (hB : Blk w g 48 #[.slice p n c, m, x]) (hr : Row8 w p bs) (hn : bs.length = n) (hnc : n ≤ c) (hc : c ≤ 9223372036854775807) (hp : p = none → c = 0) (hk : k ≤ n) (hk2 : k ≤ 140737488355328) :
    Calls Tryd.prog 28 #[.pointer (some ⟨g, 0, none⟩), .int .i64 (k : Int)] w (TakePost w g (.slice (cut8 p c k) (n - k) (c - k)) m x (bs.take k)) := by
  have HN := Lib.hid hn
  have HR := Lib.hid hr
  have HB := Lib.hid hB
  have HP := Lib.hid hp
  have c0 := hB.cell 0
  simp only [List.getElem?_toArray, List.getElem?_cons_zero] at c0
  have hk1 : (k : Int) ≤ (c : Int) := by omega
  have hcut := fun w => slice_cut8 w p n c k hk
  generalize cut8 p c k = q, n - k = nk, c - k = ck at hcut ⊢
  clear hn hr hB hp
  go_enter Tryd.func28, Tryd.ntmps28
  go_wp2_with fail
  refine (clone_any p k c (bs.take k) _ (HR.out.take k) (by rw [List.length_take, HN.out]; omega) hk2 (fun h => by have := HP.out h; omega)).mono ?_
  rintro e w1 ⟨v1, rfl, ho1, hb1⟩
  have HB1 := Lib.hid (HB.out.fut hb1)
  have c1 := HB1.out.cell 0
  have f1 := HB1.out.frozen 0
  simp only [List.getElem?_toArray, List.getElem?_cons_zero] at c1
  have HO1 := Lib.hid ho1
  clear ho1
  go_wp2_with fail
  go_ret
  exact ⟨v1, rfl, HO1.out.setFar (a := ⟨g, 0, none⟩) (fun e => by have := (World.ownsRow.lt HO1.out g e).1; have := HB.out.lt; omega) _, HB1.out.set 0 _, Stays.setCell (S := (· = g)) (a := ⟨g, 0, none⟩) (Stays.of_below hb1 (Nat.le_refl _) _) (fun _ => rfl) _⟩

theorem built_reader1 : Tryd.prog.built 48 [(1, .bool true)] = some #[.slice none 0 0, .bool true, .int .i64 0] := by kernel_rfl
set_option maxRecDepth 100000 in
theorem new_any09 (w : World) : Calls Tryd.prog 13 #[] w fun e w' => e = .returned (.pointer (some ⟨w.heap.size, 0, none⟩)) ∧ Blk w' w.heap.size 48 #[.slice none 0 0, .bool true, .int .i64 0] ∧ Below w.heap.size w w' := by
  have hbt := built_reader1
  go_enter Tryd.func13, Tryd.ntmps13
  go_wp2_with ((with_reducible refine wp_build (o := ⟨some 1, _, _, _, _, _⟩) ?_ 48 #[(1, .const (.bool true))] ?_ [(1, .bool true)] ?_ #[.slice none 0 0, .bool true, .int .i64 0] hbt ?_
                · rfl
                · rfl
                · rfl))
  go_ret
  exact ⟨rfl, Blk.new w _ _, below_new w _⟩
end Go.Proofs.YtikjhnbehihbjaaDoor
