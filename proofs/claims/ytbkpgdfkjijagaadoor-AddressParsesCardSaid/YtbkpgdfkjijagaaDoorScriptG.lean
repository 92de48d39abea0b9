/- sporranref13: around, Class. -/
import Derived.Test.YtbkpgdfkjijagaaDoorScriptE
import Derived.Test.YtbkpgdfkjijagaaDoorStr
namespace Go.Proofs.YtbkpgdfkjijagaaDoor
open Go.RowKit

theorem results_tmp4 {fn : Func} {t u v x : Tmp} (h : fn.results = #[.tmp t, .tmp u, .tmp v, .tmp x]) (tmps : Array Value) (P : Program) (w : World) :
    (results fn tmps).run P w = .ok (.tuple #[tmps.getD t undef, tmps.getD u undef, tmps.getD v undef, tmps.getD x undef]) w := by simp [results, h]

def strR (P : List Nat) : ByteArray := strB (bytesOfR P)
def aroundV (k : Nat) : Value := .tuple #[.string (strR (kindPre k)), .string (strR (kindPost k)), .int .i64 (kindLen k : Nat), .bool true]
theorem around1 (w : World) : Calls Tryd.prog 53 #[.int .i64 1] w fun e w' => e = .returned (aroundV 1) ∧ w' = w := by
  go_enter Tryd.func53, Tryd.ntmps53
  go_wp2
  refine bodyPost_ret (results_tmp4 rfl _ _ _) rfl ⟨by rfl, rfl⟩
theorem around2 (w : World) : Calls Tryd.prog 53 #[.int .i64 2] w fun e w' => e = .returned (aroundV 2) ∧ w' = w := by
  go_enter Tryd.func53, Tryd.ntmps53
  go_wp2
  refine bodyPost_ret (results_tmp4 rfl _ _ _) rfl ⟨by rfl, rfl⟩
theorem around3 (w : World) : Calls Tryd.prog 53 #[.int .i64 3] w fun e w' => e = .returned (aroundV 3) ∧ w' = w := by
  go_enter Tryd.func53, Tryd.ntmps53
  go_wp2
  refine bodyPost_ret (results_tmp4 rfl _ _ _) rfl ⟨by rfl, rfl⟩
theorem around4 (w : World) : Calls Tryd.prog 53 #[.int .i64 4] w fun e w' => e = .returned (aroundV 4) ∧ w' = w := by
  go_enter Tryd.func53, Tryd.ntmps53
  go_wp2
  refine bodyPost_ret (results_tmp4 rfl _ _ _) rfl ⟨by rfl, rfl⟩
theorem around5 (w : World) : Calls Tryd.prog 53 #[.int .i64 5] w fun e w' => e = .returned (aroundV 5) ∧ w' = w := by
  go_enter Tryd.func53, Tryd.ntmps53
  go_wp2
  refine bodyPost_ret (results_tmp4 rfl _ _ _) rfl ⟨by rfl, rfl⟩
theorem around_kind (k : Nat) (h1 : 1 ≤ k) (h5 : k ≤ 5) (w : World) : Calls Tryd.prog 53 #[.int .i64 (k : Int)] w fun e w' => e = .returned (aroundV k) ∧ w' = w := by
  rcases (show k = 1 ∨ k = 2 ∨ k = 3 ∨ k = 4 ∨ k = 5 by omega) with rfl | rfl | rfl | rfl | rfl
  · exact around1 w
  · exact around2 w
  · exact around3 w
  · exact around4 w
  · exact around5 w

theorem Row8.window {w : World} {b of : Nat} {bs : List (BitVec 8)} (h : Row8 w (some ⟨b, of, none⟩) bs) (j : Nat) : Row8 w (some ⟨b, of + j, none⟩) (bs.drop j) := fun hn => by
  obtain ⟨b', of', e, hb, hc⟩ := h (fun e => hn (by rw [e]; simp))
  injection e with e
  injection e with e1 e2 _
  subst e1
  subst e2
  refine ⟨b, of + j, rfl, hb, fun i x hx => ?_⟩
  rw [List.getElem?_drop] at hx
  rw [Nat.add_assoc]
  exact hc _ x hx
theorem kindLen_pos (k : Nat) (h1 : 1 ≤ k) (h5 : k ≤ 5) : 0 < kindLen k := by
  rcases (show k = 1 ∨ k = 2 ∨ k = 3 ∨ k = 4 ∨ k = 5 by omega) with rfl | rfl | rfl | rfl | rfl <;> decide

theorem own_empty (w : World) (B : Nat) (hB : B ≤ w.heap.size) : Own8 (w.alloc (.cells #[] 5)) B (.slice (some ⟨w.heap.size, 0, none⟩) 0 0) [] :=
  ⟨rfl, .inr ⟨w.heap.size, 0, #[], rfl, hB, Blk.new w _ _, Nat.le_refl _, by unfold maxLen; omega, rfl, rfl⟩⟩

set_option maxRecDepth 100000 in
set_option maxHeartbeats 2000000 in
theorem refClass_any (p : Option Addr) (n c : Nat) (bs : List (BitVec 8)) (w : World) (hr : Row8 w p bs) (hn : bs.length = n) (hl : n ≤ c) (hb : n ≤ 140737488355000) (hcm : c ≤ 9223372036854775807) :
    Calls Tryd.prog 54 #[.slice p n c] w (ClassPost w (cls bs)) := by
  have HN := Lib.hid hn
  clear hn
  go_enter Tryd.func54, Tryd.ntmps54
  go_wp2
  go_loopw [4] (fun i wr => ∃ k : Nat, 1 ≤ k ∧ k ≤ 6 ∧ i = .int .i64 k ∧ Hid (cls bs = clsFrom bs (6 - k)) ∧ Below w.heap.size w wr) (fun i _ => 6 - (intOf i).toNat)
  case atStart => exact ⟨1, by omega, by omega, rfl, rfl, Below.refl _ _⟩
  case round =>
    obtain ⟨k, hk1, hk6, rfl, hcl, hbel⟩ := hrel
    by_cases hlt : k ≤ 5
    · have hst : clsFrom bs (6 - k) = if isKind k bs then (k, (bs.drop (kindPre k).length).take (kindLen k)) else clsFrom bs (5 - k) := by
        rw [show 6 - k = (5 - k) + 1 by omega]
        simp only [clsFrom]
        rw [show 5 - (5 - k) = k by omega, mt_kind]
        by_cases h : isKind k bs <;> simp [h]
      rw [hst] at hcl
      have hal := around_len k
      have hkl : kindLen k ≤ 32 := by unfold kindLen; split <;> omega
      go_wp2_with fail
      refine (around_kind k hk1 hlt _).mono ?_
      rintro e w1 ⟨rfl, hw1⟩
      replace hw1 := hw1.symm
      subst hw1
      unfold aroundV
      obtain ⟨A, hA⟩ : ∃ A, A = strR (kindPre k) := ⟨_, rfl⟩
      obtain ⟨Z, hZ⟩ : ∃ Z, Z = strR (kindPost k) := ⟨_, rfl⟩
      obtain ⟨a, ha⟩ : ∃ a, a = (kindPre k).length := ⟨_, rfl⟩
      obtain ⟨z, hz⟩ : ∃ z, z = (kindPost k).length := ⟨_, rfl⟩
      obtain ⟨l, hll⟩ : ∃ l, l = kindLen k := ⟨_, rfl⟩
      have hAs : A.size = a := by rw [hA, ha]; unfold strR; rw [strB_size]; simp [bytesOfR]
      have hZs : Z.size = z := by rw [hZ, hz]; unfold strR; rw [strB_size]; simp [bytesOfR]
      rw [← hA, ← hZ, ← hll]
      rw [← ha, ← hz] at hal
      rw [← hll] at hkl
      have hik : isKind k bs ↔ (bs.take a = bytesOfR (kindPre k) ∧ l ≤ (bs.drop a).length ∧ (bs.drop a).drop l = bytesOfR (kindPost k)) := by rw [ha, hll]; rfl
      rw [← ha, ← hll] at hcl
      have HA := Lib.hid hA
      have HZ := Lib.hid hZ
      have HIK := Lib.hid hik
      have Ha := Lib.hid ha
      have Hz := Lib.hid hz
      have Hl := Lib.hid hll
      clear hA hZ hik ha hz hll hst
      by_cases hlen : n = a + l + z
      · obtain ⟨bb, of, rfl, hbl, hcell⟩ := hr (fun e => by
          have h1 := HN.out
          have h2 := Ha.out
          have h3 := kindLen_pos k hk1 hlt
          have h4 := Hl.out
          rw [e] at h1; simp at h1; omega)
        have hrw := hr.below hbel (Nat.le_refl _)
        have hla : (bs.take a).length = a := by have := HN.out; simp; omega
        have hlz : (bs.drop (a + l)).length = n - (a + l) := by have := HN.out; simp; omega
        have hca := fun c' => (hrw.take a).convert a c' hla
        have hcz := fun c' => (hrw.window (a + l)).convert (n - (a + l)) c' hlz
        have hcz0 : ∀ c', n = a + l → (convert 22 9 (.slice (some ⟨bb, of, none⟩) 0 c')).run Tryd.prog wr = .ok (.string (strB (bs.drop (a + l)))) wr := fun c' he => by
          have e : bs.drop (a + l) = [] := List.drop_eq_nil_of_le (by have := HN.out; omega)
          rw [e]; exact (Row8.nil wr _).convert 0 c' rfl
        have hrc := (hrw.window a).take l
        have hqa := strB_eq (bs.take a) (bytesOfR (kindPre k))
        have hqz := strB_eq (bs.drop (a + l)) (bytesOfR (kindPost k))
        rw [show strB (bytesOfR (kindPre k)) = A from HA.out.symm] at hqa
        rw [show strB (bytesOfR (kindPost k)) = Z from HZ.out.symm] at hqz
        have hlb : ((n : Int) == (a : Int) + (l : Int) + (z : Int)) = true := by simp; omega
        have hik2 : isKind k bs ↔ (bs.take a = bytesOfR (kindPre k) ∧ bs.drop (a + l) = bytesOfR (kindPost k)) := by
          rw [HIK.out, List.drop_drop]
          have := HN.out
          exact ⟨fun h => ⟨h.1, h.2.2⟩, fun h => ⟨h.1, by simp; omega, h.2⟩⟩
        have HI2 := Lib.hid hik2
        have hle1 : (a : Int) + (l : Int) ≤ (n : Int) := by omega
        have hlm : ((bs.drop a).take l).length = l := by have := HN.out; simp; omega
        have HLM := Lib.hid hlm
        have hle2 : (a : Int) ≤ (n : Int) := by omega
        have hle3 : (l : Int) ≤ (n : Int) - (a : Int) := by omega
        have HLEN := Lib.hid hlen
        clear hik2 hrw hla hlz hcell hlm hr hlen
        have hlpos : 0 < l := by have := Hl.out; have := kindLen_pos k hk1 hlt; omega
        rcases (show (c = a + l ∧ n = a + l) ∨ (c ≠ a + l ∧ c ≠ a) by have := Hl.out; have := kindLen_pos k hk1 hlt; omega) with ⟨hc1, hc2⟩ | ⟨hc1, hc2⟩
        case' inl =>
          have hcz := fun c' => hcz0 c' hc2
          clear hcz0 hlb
          subst hc1
          subst hc2
          obtain rfl : z = 0 := by have := HLEN.out; omega
          have hlb : (((a + l : Nat) : Int) == (a : Int) + (l : Int)) = true := by simp
        case' inr => clear hcz0
        all_goals
          by_cases hp : bs.take a = bytesOfR (kindPre k)
          · rw [decide_eq_true hp] at hqa
            by_cases hs : bs.drop (a + l) = bytesOfR (kindPost k)
            · rw [decide_eq_true hs] at hqz
              rw [if_pos (HI2.out.2 ⟨hp, hs⟩)] at hcl
              clear hp hs
              have hsz := hbel.size
              have hrc2 := hrc.below ((Below.refl wr.heap.size wr).alloc (Nat.le_refl _) (.cells #[] 5)) (Nat.le_refl _)
              have HRC := Lib.hid hrc2
              clear hrc hrc2
              go_wp2_with (with_reducible refine wp_append8 (o := ⟨some 60, _, _, _, _, _⟩) ?_ (.tmp 51) (.tmp 59) ?_ w.heap.size _ [] ?_ (own_empty wr w.heap.size hsz) (some ⟨bb, of + a, none⟩) (a + l - a) ?_ ((bs.drop a).take l) ?_ (by rw [HLM.out]; omega) HRC.out ?_ ?_ w.heap.size w ?_ ?_ ?_
                           · rfl
                           · rfl
                           · rfl
                           · first | exact (c - a) | exact l
                           · rfl
                           · rw [HLM.out]; simp only [List.length_nil]; omega
                           · simp only [World.size_alloc]; omega
                           · exact hbel.alloc hsz _
                           · exact Nat.le_refl _
                           intro v3 w3 ho3 hb3 _ _)
              go_ret2
              rw [hcl.out]
              exact ⟨v3, rfl, ho3, hb3⟩
            · rw [decide_eq_false hs] at hqz
              rw [if_neg (fun h => hs (HI2.out.1 h).2)] at hcl
              clear hp hs hrc
              go_wp2
              go_roundw
              case rel => exact ⟨k + 1, by omega, by omega, by go_num, by rw [show 6 - (k + 1) = 5 - k by omega]; exact hcl, hbel⟩
              case measure => simp [intOf]; omega
          · rw [decide_eq_false hp] at hqa
            rw [if_neg (fun h => hp (HI2.out.1 h).1)] at hcl
            clear hp hcz hqz hrc
            go_wp2
            go_roundw
            case rel => exact ⟨k + 1, by omega, by omega, by go_num, by rw [show 6 - (k + 1) = 5 - k by omega]; exact hcl, hbel⟩
            case measure => simp [intOf]; omega
      · have hni : ¬ isKind k bs := by
          rw [HIK.out]
          rintro ⟨h1, h2, h3⟩
          have e1 := congrArg List.length h1
          have e3 := congrArg List.length h3
          have := HN.out
          have := Hz.out
          have := Ha.out
          simp [bytesOfR] at e1 e3 h2
          omega
        rw [if_neg hni] at hcl
        have hlb : ((n : Int) == (a : Int) + (l : Int) + (z : Int)) = false := by simp; omega
        clear hni hlen
        go_wp2
        go_roundw
        case rel => exact ⟨k + 1, by omega, by omega, by go_num, by rw [show 6 - (k + 1) = 5 - k by omega]; exact hcl, hbel⟩
        case measure => simp [intOf]; omega
    · obtain rfl : k = 6 := by omega
      clear hlt
      have hsz := hbel.size
      by_cases hn0 : n = 0
      · subst hn0
        have hbe : bs = [] := List.eq_nil_of_length_eq_zero HN.out
        subst hbe
        go_wp2
        go_ret2
        rw [hcl.out]
        exact ⟨_, rfl, Own8.nil _ _, hbel⟩
      · obtain ⟨b, r, rfl⟩ : ∃ b r, bs = b :: r := by
          cases bs with
          | nil => exact absurd HN.out.symm hn0
          | cons b r => exact ⟨b, r, rfl⟩
        have hrl : r.length = n - 1 := by have := HN.out; simp at this; omega
        obtain ⟨bb, of, rfl, hbl, hcell⟩ := hr (by simp)
        have hx : wr.cell? ⟨bb, of, none⟩ = some (.int .u8 (iv8 b)) := (hbel.cell (p := ⟨bb, of, none⟩) hbl).trans (hcell 0 b rfl)
        have hdr := ((hr.drop (k := 1) (c := c) (by rw [HN.out]; exact hl)).below hbel (Nat.le_refl _)).below ((Below.refl wr.heap.size wr).alloc (Nat.le_refl _) (.cells #[] 5)) (Nat.le_refl _)
        rw [List.drop_one, List.tail_cons] at hdr
        have hpos : (0 : Int) < (n : Int) := by omega
        have HRL := Lib.hid hrl
        clear hcell hrl hr
        by_cases h6 : b = 106#8
        · have h6b : (iv8 b == 106) = true := by rw [h6]; rfl
          have HC : Hid (cls (b :: r) = (6, r)) := Lib.hid (by rw [hcl.out]; simp [clsFrom, clsData, h6])
          clear h6 hcl
          by_cases hc1 : c = 1
          · rw [if_pos hc1] at hdr
            go_wp2_with (with_reducible refine wp_append8 (o := ⟨some 73, _, _, _, _, _⟩) ?_ (.tmp 70) (.tmp 72) ?_ w.heap.size _ [] ?_ (own_empty wr w.heap.size hsz) _ (n - 1) ?_ r ?_ HRL.out hdr ?_ ?_ w.heap.size w ?_ ?_ ?_
                         · rfl
                         · rfl
                         · rfl
                         · exact 0
                         · rfl
                         · rw [HRL.out]; simp only [List.length_nil]; omega
                         · simp only [World.size_alloc]; omega
                         · exact hbel.alloc hsz _
                         · exact Nat.le_refl _
                         intro v3 w3 ho3 hb3 _ _)
            go_ret2
            rw [HC.out]
            exact ⟨v3, rfl, ho3, hb3⟩
          · rw [if_neg hc1] at hdr
            go_wp2_with (with_reducible refine wp_append8 (o := ⟨some 73, _, _, _, _, _⟩) ?_ (.tmp 70) (.tmp 72) ?_ w.heap.size _ [] ?_ (own_empty wr w.heap.size hsz) _ (n - 1) ?_ r ?_ HRL.out hdr ?_ ?_ w.heap.size w ?_ ?_ ?_
                         · rfl
                         · rfl
                         · rfl
                         · exact (c - 1)
                         · rfl
                         · rw [HRL.out]; simp only [List.length_nil]; omega
                         · simp only [World.size_alloc]; omega
                         · exact hbel.alloc hsz _
                         · exact Nat.le_refl _
                         intro v3 w3 ho3 hb3 _ _)
            go_ret2
            rw [HC.out]
            exact ⟨v3, rfl, ho3, hb3⟩
        · have h6b : (iv8 b == 106) = false := by rw [beq_eq_false_iff_ne]; intro e; exact h6 (iv8_inj.1 (e.trans (by rfl)))
          have HC : Hid (cls (b :: r) = (0, [])) := Lib.hid (by rw [hcl.out]; simp [clsFrom, clsData, h6])
          clear h6 hcl
          go_wp2
          go_ret2
          rw [HC.out]
          exact ⟨_, rfl, Own8.nil _ _, hbel⟩
end Go.Proofs.YtbkpgdfkjijagaaDoor
