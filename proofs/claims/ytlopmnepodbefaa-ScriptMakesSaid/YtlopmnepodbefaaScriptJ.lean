/- sporranref13.Make, sporranlaw13.ScriptMakes: the walks. -/
import Derived.Test.YtlopmnepodbefaaScriptI
import Derived.Test.YtlopmnepodbefaaScriptF
namespace Go.Proofs.Ytlopmnepodbefaa
open Go.RowKit

/-- the bytes that are made, and whether there are any -/
def LeadPost (w : World) (o : Option (List (BitVec 8))) (e : Ending) (w' : World) : Prop :=
  Below w.heap.size w w' ∧ ∃ p c, e = .returned (.tuple #[.slice p (o.getD []).length c, .bool o.isSome]) ∧ Row8 w' p (o.getD [])
theorem LeadPost.of {w w' : World} {o : Option (List (BitVec 8))} {e : Ending} (h : MakePost w o e w') : LeadPost w o e w' := by
  obtain ⟨hb, h⟩ := h
  cases o with
  | none => exact ⟨hb, none, 0, h, Row8.nil _ _⟩
  | some t =>
    obtain ⟨v, he, hown⟩ := h
    obtain ⟨p, c, rfl, _, _, hr⟩ := hown.row
    exact ⟨hb, p, c, he, hr⟩
theorem LeadPost.some {w w' : World} {B : Nat} {t : List (BitVec 8)} {v : Value} {o : Option (List (BitVec 8))} (ho : Hid (o = some t)) (h : Sl8 w' B v t) (hb : Below w.heap.size w w') : LeadPost w o (.returned (.tuple #[v, .bool true])) w' := by
  obtain ⟨p, c, rfl, _, hr⟩ := h.row
  rw [ho.out]
  exact ⟨hb, p, c, rfl, hr⟩
theorem LeadPost.none {w w' : World} {o : Option (List (BitVec 8))} (ho : Hid (o = none)) (hb : Below w.heap.size w w') : LeadPost w o (.returned (.tuple #[.slice none 0 0, .bool false])) w' := by
  rw [ho.out]
  exact ⟨hb, Option.none, 0, rfl, Row8.nil _ _⟩

theorem around_none (k : Int) (h1 : (k == 1) = false) (h2 : (k == 2) = false) (h3 : (k == 3) = false) (h4 : (k == 4) = false) (h5 : (k == 5) = false) (w : World) :
    Calls Try.prog 28 #[.int .i64 k] w fun e w' => e = .returned (.tuple #[.string (strR []), .string (strR []), .int .i64 0, .bool false]) ∧ w' = w := by
  go_enter Try.func28, Try.ntmps28
  go_wp2
  refine bodyPost_ret (results_tmp4 rfl _ _ _) rfl ⟨by rfl, rfl⟩

theorem wp_sl8 {ops : Array Oper} {rest : List Oper} {o : Oper} {a : Act} {Q : Exit → Act → World → Prop} {w : World} (hgd : o.guard = none) (s x : Operand)
    (ho : o.op = .call { callee := .builtin .append, args := #[s, x], argTypes := #[30, 30] }) (B : Nat) (v : Value) (as1 : List (BitVec 8)) (hs : a.eval s = v) (hown : Sl8 w B v as1)
    (p : Option Addr) (m c : Nat) (bs : List (BitVec 8)) (hx : a.eval x = .slice p m c) (hm : bs.length = m) (hr : Row8 w p bs) (hne : bs ≠ [])
    (hlen : as1.length + bs.length ≤ 140737488355328) (hB : B ≤ w.heap.size)
    (h : ∀ v' w', Sl8 w' B v' (as1 ++ bs) → Below B w w' → wpList Try.prog ops Q rest (a.put o.dst v') w') : wpList Try.prog ops Q (o :: rest) a w := by
  subst hm
  obtain ⟨v', w', hrun, h2, h3⟩ := run_sl8 w o.type B v as1 hown p c bs hr hne hlen hB
  refine wpList_plain hgd fun K hK => ?_
  unfold Oper.wp execOp
  simp only [ho, resolve, invoke, builtin, Sem.run_bind, Sem.run_pure, Result.andThen_ok, List.map_toArray, List.map_cons, List.map_nil, hs, hx, hrun]
  exact hK _ _ (h v' w' h2 h3)
theorem wp_sl8s {ops : Array Oper} {rest : List Oper} {o : Oper} {a : Act} {Q : Exit → Act → World → Prop} {w : World} (hgd : o.guard = none) (s x : Operand)
    (ho : o.op = .call { callee := .builtin .append, args := #[s, x], argTypes := #[30, 9] }) (B : Nat) (v : Value) (as1 : List (BitVec 8)) (hs : a.eval s = v) (hown : Sl8 w B v as1)
    (bs : List (BitVec 8)) (hx : a.eval x = .string (strB bs)) (hlen : as1.length + bs.length ≤ 140737488355328) (hB : B ≤ w.heap.size)
    (h : ∀ v' w', Sl8 w' B v' (as1 ++ bs) → Below B w w' → wpList Try.prog ops Q rest (a.put o.dst v') w') : wpList Try.prog ops Q (o :: rest) a w := by
  obtain ⟨v', w', hrun, h2, h3⟩ := run_sl8_string w o.type B v as1 hown bs hlen hB
  refine wpList_plain hgd fun K hK => ?_
  unfold Oper.wp execOp
  simp only [ho, resolve, invoke, builtin, Sem.run_bind, Sem.run_pure, Result.andThen_ok, List.map_toArray, List.map_cons, List.map_nil, hs, hx, hrun]
  exact hK _ _ (h v' w' h2 h3)
theorem wp_sl8n {ops : Array Oper} {rest : List Oper} {o : Oper} {a : Act} {Q : Exit → Act → World → Prop} {w : World} (hgd : o.guard = none) (x : Operand)
    (ho : o.op = .convert 9 30 x) (B : Nat) (bs : List (BitVec 8)) (hx : a.eval x = .string (strB bs)) (hlen : bs.length ≤ 140737488355328) (hB : B ≤ w.heap.size)
    (h : ∀ v' w', Sl8 w' B v' bs → Below B w w' → wpList Try.prog ops Q rest (a.put o.dst v') w') : wpList Try.prog ops Q (o :: rest) a w := by
  obtain ⟨v', w', hrun, h2, h3⟩ := run_sl8_new w B bs hlen hB
  refine wpList_plain hgd fun K hK => ?_
  unfold Oper.wp execOp
  simp only [ho, Sem.run_bind, Sem.run_pure, Result.andThen_ok, hx, hrun]
  exact hK _ _ (h v' w' h2 h3)

set_option maxRecDepth 100000 in
set_option maxHeartbeats 2000000 in
theorem refMake_data (p : Option Addr) (n c : Nat) (bs : List (BitVec 8)) (w : World) (hr : Row8 w p bs) (hn : bs.length = n) (hb : n ≤ 140737488355000) :
    Calls Try.prog 24 #[.int .i64 6, .slice p n c] w (LeadPost w (made 6 bs)) := by
  have hown : Own8 (w.alloc (.cells #[.int .u8 106] 5)) w.heap.size (.slice (some ⟨w.heap.size, 0, none⟩) 1 1) [106#8] :=
    ⟨rfl, .inr ⟨w.heap.size, 1, #[.int .u8 106], rfl, Nat.le_refl _, Blk.new w _ _, Nat.le_refl _, by unfold maxLen; omega, rfl, rfl⟩⟩
  go_enter Try.func24, Try.ntmps24
  go_wp2_with (with_reducible refine wp_append8 (o := ⟨some 14, _, _, _, _, _⟩) ?_ (.tmp 12) (.tmp 13) ?_ w.heap.size _ [106#8] ?_ hown p n c bs ?_ ?_ ?_ ?_ ?_ w.heap.size w ?_ ?_ ?_
               · rfl
               · rfl
               · rfl
               · rfl
               · exact hn
               · exact hr.below ((Below.refl w.heap.size w).alloc (Nat.le_refl _) _) (Nat.le_refl _)
               · simp only [List.length_cons, List.length_nil]; omega
               · simp only [World.size_alloc]; omega
               · exact (Below.refl w.heap.size w).alloc (Nat.le_refl _) _
               · exact Nat.le_refl _
               intro v1 w1 ho1 hb1 _ _)
  go_ret2
  exact LeadPost.of ⟨hb1, v1, rfl, ho1⟩

set_option maxRecDepth 100000 in
set_option maxHeartbeats 2000000 in
theorem refMake_other (k : Int) (h : ¬ (1 ≤ k ∧ k ≤ 6)) (p : Option Addr) (n c : Nat) (bs : List (BitVec 8)) (w : World) :
    Calls Try.prog 24 #[.int .i64 k, .slice p n c] w (LeadPost w (made k bs)) := by
  have h6 : (k == 6) = false := by simp; omega
  have HO : Hid (made k bs = none) := Lib.hid (by
    have hk0 : kindOf k = 0 := by unfold kindOf; rw [if_neg (by omega)]
    unfold made
    rw [if_neg (by omega), if_pos hk0])
  go_enter Try.func24, Try.ntmps24
  go_wp2_with fail
  refine (around_none k (by simp; omega) (by simp; omega) (by simp; omega) (by simp; omega) (by simp; omega) _).mono ?_
  rintro e w1 ⟨rfl, hw1⟩
  replace hw1 := hw1.symm
  subst hw1
  go_wp2
  go_ret2
  exact LeadPost.none HO (Below.refl _ _)

set_option maxRecDepth 100000 in
set_option maxHeartbeats 2000000 in
theorem refMake_kind (k : Nat) (h1 : 1 ≤ k) (h5 : k ≤ 5) (p : Option Addr) (n c : Nat) (bs : List (BitVec 8)) (w : World) (hr : Row8 w p bs) (hn : bs.length = n) (hb : n ≤ 140737488355000) :
    Calls Try.prog 24 #[.int .i64 (k : Int), .slice p n c] w (LeadPost w (made (k : Int) bs)) := by
  have h6 : ((k : Int) == 6) = false := by simp; omega
  have HMK := Lib.hid (made_kind k h1 h5 bs)
  have hal := around_len k
  have hkl := kindLen_pos k h1 h5
  have HN := Lib.hid hn
  clear hn
  go_enter Try.func24, Try.ntmps24
  go_wp2_with fail
  refine (around_kind k h1 h5 _).mono ?_
  rintro e w1 ⟨rfl, hw1⟩
  replace hw1 := hw1.symm
  subst hw1
  unfold aroundV strR
  have hmk := HMK.out
  clear HMK
  obtain ⟨A, hA⟩ : ∃ A, A = bytesOfR (kindPre k) := ⟨_, rfl⟩
  obtain ⟨Z, hZ⟩ : ∃ Z, Z = bytesOfR (kindPost k) := ⟨_, rfl⟩
  obtain ⟨l, hl⟩ : ∃ l, l = kindLen k := ⟨_, rfl⟩
  have haz : A.length + Z.length ≤ 5 := by rw [hA, hZ]; simpa [bytesOfR] using hal
  rw [← hA, ← hZ, ← hl] at hmk
  rw [← hl] at hkl
  rw [← hA, ← hZ, ← hl]
  clear hA hZ hl hal
  by_cases hlen : n = l
  · subst hlen
    rw [if_pos HN.out] at hmk
    have HM := Lib.hid hmk
    have hne : bs ≠ [] := fun e => by have := HN.out; rw [e] at this; simp at this; omega
    clear hmk
    go_wp2_with (first
      | (with_reducible refine wp_sl8n (o := ⟨some 31, _, _, _, _, _⟩) ?_ (.tmp 30) ?_ w.heap.size A ?_ ?_ ?_ ?_
         · rfl
         · rfl
         · rfl
         · omega
         · exact Nat.le_refl _
         intro v1 w1 hs1 hb1)
      | (with_reducible refine wp_sl8 (o := ⟨some 33, _, _, _, _, _⟩) ?_ (.tmp 31) (.tmp 32) ?_ w.heap.size v1 A ?_ hs1 p n c bs ?_ HN.out ?_ hne ?_ ?_ ?_
         · rfl
         · rfl
         · rfl
         · rfl
         · exact hr.below hb1 (Nat.le_refl _)
         · rw [HN.out]; omega
         · exact hb1.size
         intro v2 w2 hs2 hb2)
      | (with_reducible refine wp_sl8s (o := ⟨some 35, _, _, _, _, _⟩) ?_ (.tmp 33) (.tmp 34) ?_ w.heap.size v2 (A ++ bs) ?_ hs2 Z ?_ ?_ ?_ ?_
         · rfl
         · rfl
         · rfl
         · rfl
         · rw [List.length_append, HN.out]; omega
         · exact Nat.le_trans hb1.size hb2.size
         intro v3 w3 hs3 hb3))
    go_ret2
    rw [List.append_assoc] at hs3
    exact LeadPost.some HM hs3 (hb1.trans (hb2.trans hb3))
  · rw [if_neg (fun e => hlen (HN.out.symm.trans e))] at hmk
    have HM := Lib.hid hmk
    have hlb : ((n : Int) != (l : Int)) = true := by simp; omega
    clear hmk hlen
    go_wp2
    go_ret2
    exact LeadPost.none HM (Below.refl _ _)

theorem refMake_any (k : Int) (p : Option Addr) (n c : Nat) (bs : List (BitVec 8)) (w : World) (hr : Row8 w p bs) (hn : bs.length = n) (hb : n ≤ 140737488355000) :
    Calls Try.prog 24 #[.int .i64 k, .slice p n c] w (LeadPost w (made k bs)) := by
  by_cases h6 : k = 6
  · subst h6; exact refMake_data p n c bs w hr hn hb
  · by_cases h : 1 ≤ k ∧ k ≤ 6
    · obtain ⟨j, rfl⟩ : ∃ j : Nat, k = (j : Int) := ⟨k.toNat, by omega⟩
      exact refMake_kind j (by omega) (by omega) p n c bs w hr hn hb
    · exact refMake_other k h p n c bs w

set_option maxRecDepth 100000 in
set_option maxHeartbeats 2000000 in
theorem scriptMakes_walk (x : Int) (p : Option Addr) (n c : Nat) (bs : List (BitVec 8)) (w : World) (_hx0 : -9223372036854775808 ≤ x) (_hx1 : x ≤ 9223372036854775807)
    (hn : bs.length = n) (hl : n ≤ c) (hb : c ≤ 140737488351232) (hr : Row8 w p bs) (_hp : p = none → c = 0) :
    Calls Try.prog 10 #[.int .i64 x, .slice p n c] w fun e w' => e = .returned (.bool true) ∧ Below w.heap.size w w' := by
  have HN := Lib.hid hn
  clear hn
  go_enter Try.func10, Try.ntmps10
  go_wp2_with fail
  refine (make_any x p n c bs _ hr HN.out hl (by omega) (by omega)).mono ?_
  rintro e w1 hm1
  obtain ⟨hb1, p1, c1, rfl, hr1⟩ := LeadPost.of hm1
  clear hm1
  obtain ⟨t, ht⟩ : ∃ t, t = (made x bs).getD [] := ⟨_, rfl⟩
  obtain ⟨ok, hok⟩ : ∃ ok, ok = (made x bs).isSome := ⟨_, rfl⟩
  have HT := Lib.hid ht
  have HO := Lib.hid hok
  rw [← ht] at hr1 ⊢
  rw [← hok]
  clear ht hok
  go_wp2_with fail
  refine (refMake_any x p n c bs w1 (hr.below hb1 (Nat.le_refl _)) HN.out (by omega)).mono ?_
  rintro e w2 ⟨hb2, p2, c2, rfl, hr2⟩
  rw [← HT.out] at hr2 ⊢
  rw [← HO.out]
  have hr12 := hr1.below hb2 (Nat.le_refl _)
  have hb02 := hb1.trans (hb2.mono hb1.size)
  clear hr1 hb1 hb2 HT HO
  go_wp2_with fail
  refine (equal_any p1 p2 _ c1 _ c2 t t w2 hr12 hr2 rfl rfl).mono ?_
  rintro e w3 ⟨rfl, hw3⟩
  replace hw3 := hw3.symm
  subst hw3
  rw [decide_eq_true rfl]
  clear hr12 hr2
  go_wp2_with fail
  refine (awake_any _).mono ?_
  rintro e w4 ⟨rfl, hb4⟩
  go_wp2
  go_ret
  exact ⟨rfl, hb02.trans (hb4.mono hb02.size)⟩
end Go.Proofs.Ytlopmnepodbefaa
