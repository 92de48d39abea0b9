/- sporranref13.Make, sporranlaw13.ScriptMakes: the walks. -/
import Derived.Test.YtbkpgdfkjijagaaDoorScriptH
import Derived.Test.YtbkpgdfkjijagaaDoorSl8
import Derived.Test.YtbkpgdfkjijagaaDoorScriptF
namespace Go.Proofs.YtbkpgdfkjijagaaDoor
open Go.RowKit

/-- the bytes that are made, and whether there are any -/
def LeadPost (w : World) (o : Option (List (BitVec 8))) (e : Ending) (w' : World) : Prop :=
  Below w.heap.size w w' ∧ ∃ p c, e = .returned (.tuple #[.slice p (o.getD []).length c, .bool o.isSome]) ∧ Row8 w' p (o.getD []) ∧ (o.getD []).length ≤ c ∧ c ≤ maxLen
theorem LeadPost.of {w w' : World} {o : Option (List (BitVec 8))} {e : Ending} (h : MakePost w o e w') : LeadPost w o e w' := by
  obtain ⟨hb, h⟩ := h
  cases o with
  | none => exact ⟨hb, none, 0, h, Row8.nil _ _, Nat.le_refl _, Nat.zero_le _⟩
  | some t =>
    obtain ⟨v, he, hown⟩ := h
    obtain ⟨p, c, rfl, h1, h2, hr⟩ := hown.row
    exact ⟨hb, p, c, he, hr, h1, h2⟩
theorem Sl8.row2 {w : World} {B : Nat} {v : Value} {bs : List (BitVec 8)} (h : Sl8 w B v bs) : ∃ p c, v = .slice p bs.length c ∧ bs.length ≤ c ∧ c ≤ maxLen ∧ Row8 w p bs := by
  obtain ⟨g, cap, rfl, _, hg, hl, hm, hc, _⟩ := h
  refine ⟨_, _, rfl, hl, hm, fun _ => ⟨g, 0, rfl, hg, fun i x hx => ?_⟩⟩
  rw [Nat.zero_add]
  exact hc i _ (by rw [List.getElem?_map, hx]; rfl)
theorem LeadPost.some {w w' : World} {B : Nat} {t : List (BitVec 8)} {v : Value} {o : Option (List (BitVec 8))} (ho : Hid (o = some t)) (h : Sl8 w' B v t) (hb : Below w.heap.size w w') : LeadPost w o (.returned (.tuple #[v, .bool true])) w' := by
  obtain ⟨p, c, rfl, h1, h2, hr⟩ := h.row2
  rw [ho.out]
  exact ⟨hb, p, c, rfl, hr, h1, h2⟩
theorem LeadPost.none {w w' : World} {o : Option (List (BitVec 8))} (ho : Hid (o = none)) (hb : Below w.heap.size w w') : LeadPost w o (.returned (.tuple #[.slice none 0 0, .bool false])) w' := by
  rw [ho.out]
  exact ⟨hb, Option.none, 0, rfl, Row8.nil _ _, Nat.le_refl _, Nat.zero_le _⟩

theorem around_none (k : Int) (h1 : (k == 1) = false) (h2 : (k == 2) = false) (h3 : (k == 3) = false) (h4 : (k == 4) = false) (h5 : (k == 5) = false) (w : World) :
    Calls Tryd.prog 53 #[.int .i64 k] w fun e w' => e = .returned (.tuple #[.string (strR []), .string (strR []), .int .i64 0, .bool false]) ∧ w' = w := by
  go_enter Tryd.func53, Tryd.ntmps53
  go_wp2
  refine bodyPost_ret (results_tmp4 rfl _ _ _) rfl ⟨by rfl, rfl⟩


set_option maxRecDepth 100000 in
set_option maxHeartbeats 2000000 in
theorem refMake_data (p : Option Addr) (n c : Nat) (bs : List (BitVec 8)) (w : World) (hr : Row8 w p bs) (hn : bs.length = n) (hb : n ≤ 140737488355000) :
    Calls Tryd.prog 27 #[.int .i64 6, .slice p n c] w (LeadPost w (made 6 bs)) := by
  have hown : Own8 (w.alloc (.cells #[.int .u8 106] 5)) w.heap.size (.slice (some ⟨w.heap.size, 0, none⟩) 1 1) [106#8] :=
    ⟨rfl, .inr ⟨w.heap.size, 1, #[.int .u8 106], rfl, Nat.le_refl _, Blk.new w _ _, Nat.le_refl _, by unfold maxLen; omega, rfl, rfl⟩⟩
  go_enter Tryd.func27, Tryd.ntmps27
  go_wp2_with (with_reducible refine wp_append8 (o := ⟨some 14, _, _, _, _, _⟩) ?_ (.tmp 12) (.tmp 13) ?_ w.heap.size _ [106#8] ?_ hown p n c bs ?_ ?_ ?_ ?_ ?_ w.heap.size w ?_ ?_ ?_
               · rfl
               · rfl
               · rfl
               · rfl
               · exact hn
               · exact hr.below ((Below.refl w.heap.size w).alloc (Nat.le_refl _) _) (Nat.le_refl _)
               · simp only [List.length_cons, List.length_nil]; omega
               · simp only [World.size_alloc]; omega
               · exact (Below.refl w.heap.size w).alloc (Nat.le_refl _) _
               · exact Nat.le_refl _
               intro v1 w1 ho1 hb1 _ _)
  go_ret2
  exact LeadPost.of ⟨hb1, v1, rfl, ho1⟩

set_option maxRecDepth 100000 in
set_option maxHeartbeats 2000000 in
theorem refMake_other (k : Int) (h : ¬ (1 ≤ k ∧ k ≤ 6)) (p : Option Addr) (n c : Nat) (bs : List (BitVec 8)) (w : World) :
    Calls Tryd.prog 27 #[.int .i64 k, .slice p n c] w (LeadPost w (made k bs)) := by
  have h6 : (k == 6) = false := by simp; omega
  have HO : Hid (made k bs = none) := Lib.hid (by
    have hk0 : kindOf k = 0 := by unfold kindOf; rw [if_neg (by omega)]
    unfold made
    rw [if_neg (by omega), if_pos hk0])
  go_enter Tryd.func27, Tryd.ntmps27
  go_wp2_with fail
  refine (around_none k (by simp; omega) (by simp; omega) (by simp; omega) (by simp; omega) (by simp; omega) _).mono ?_
  rintro e w1 ⟨rfl, hw1⟩
  replace hw1 := hw1.symm
  subst hw1
  go_wp2
  go_ret2
  exact LeadPost.none HO (Below.refl _ _)

set_option maxRecDepth 100000 in
set_option maxHeartbeats 2000000 in
theorem refMake_kind (k : Nat) (h1 : 1 ≤ k) (h5 : k ≤ 5) (p : Option Addr) (n c : Nat) (bs : List (BitVec 8)) (w : World) (hr : Row8 w p bs) (hn : bs.length = n) (hb : n ≤ 140737488355000) :
    Calls Tryd.prog 27 #[.int .i64 (k : Int), .slice p n c] w (LeadPost w (made (k : Int) bs)) := by
  have h6 : ((k : Int) == 6) = false := by simp; omega
  have HMK := Lib.hid (made_kind k h1 h5 bs)
  have hal := around_len k
  have hkl := kindLen_pos k h1 h5
  have HN := Lib.hid hn
  clear hn
  go_enter Tryd.func27, Tryd.ntmps27
  go_wp2_with fail
  refine (around_kind k h1 h5 _).mono ?_
  rintro e w1 ⟨rfl, hw1⟩
  replace hw1 := hw1.symm
  subst hw1
  unfold aroundV strR
  have hmk := HMK.out
  clear HMK
  obtain ⟨A, hA⟩ : ∃ A, A = bytesOfR (kindPre k) := ⟨_, rfl⟩
  obtain ⟨Z, hZ⟩ : ∃ Z, Z = bytesOfR (kindPost k) := ⟨_, rfl⟩
  obtain ⟨l, hl⟩ : ∃ l, l = kindLen k := ⟨_, rfl⟩
  have haz : A.length + Z.length ≤ 5 := by rw [hA, hZ]; simpa [bytesOfR] using hal
  rw [← hA, ← hZ, ← hl] at hmk
  rw [← hl] at hkl
  rw [← hA, ← hZ, ← hl]
  clear hA hZ hl hal
  by_cases hlen : n = l
  · subst hlen
    rw [if_pos HN.out] at hmk
    have HM := Lib.hid hmk
    have hne : bs ≠ [] := fun e => by have := HN.out; rw [e] at this; simp at this; omega
    clear hmk
    go_wp2_with (first
      | (with_reducible refine wp_sl8n (o := ⟨some 31, _, _, _, _, _⟩) ?_ (.tmp 30) ?_ w.heap.size A ?_ ?_ ?_ ?_
         · rfl
         · rfl
         · rfl
         · omega
         · exact Nat.le_refl _
         intro v1 w1 hs1 hb1)
      | (with_reducible refine wp_sl8 (o := ⟨some 33, _, _, _, _, _⟩) ?_ (.tmp 31) (.tmp 32) ?_ w.heap.size v1 A ?_ hs1 p n c bs ?_ HN.out ?_ hne ?_ ?_ ?_
         · rfl
         · rfl
         · rfl
         · rfl
         · exact hr.below hb1 (Nat.le_refl _)
         · rw [HN.out]; omega
         · exact hb1.size
         intro v2 w2 hs2 hb2)
      | (with_reducible refine wp_sl8s (o := ⟨some 35, _, _, _, _, _⟩) ?_ (.tmp 33) (.tmp 34) ?_ w.heap.size v2 (A ++ bs) ?_ hs2 Z ?_ ?_ ?_ ?_
         · rfl
         · rfl
         · rfl
         · rfl
         · rw [List.length_append, HN.out]; omega
         · exact Nat.le_trans hb1.size hb2.size
         intro v3 w3 hs3 hb3))
    go_ret2
    rw [List.append_assoc] at hs3
    exact LeadPost.some HM hs3 (hb1.trans (hb2.trans hb3))
  · rw [if_neg (fun e => hlen (HN.out.symm.trans e))] at hmk
    have HM := Lib.hid hmk
    have hlb : ((n : Int) != (l : Int)) = true := by simp; omega
    clear hmk hlen
    go_wp2
    go_ret2
    exact LeadPost.none HM (Below.refl _ _)

theorem refMake_any (k : Int) (p : Option Addr) (n c : Nat) (bs : List (BitVec 8)) (w : World) (hr : Row8 w p bs) (hn : bs.length = n) (hb : n ≤ 140737488355000) :
    Calls Tryd.prog 27 #[.int .i64 k, .slice p n c] w (LeadPost w (made k bs)) := by
  by_cases h6 : k = 6
  · subst h6; exact refMake_data p n c bs w hr hn hb
  · by_cases h : 1 ≤ k ∧ k ≤ 6
    · obtain ⟨j, rfl⟩ : ∃ j : Nat, k = (j : Int) := ⟨k.toNat, by omega⟩
      exact refMake_kind j (by omega) (by omega) p n c bs w hr hn hb
    · exact refMake_other k h p n c bs w

end Go.Proofs.YtbkpgdfkjijagaaDoor
