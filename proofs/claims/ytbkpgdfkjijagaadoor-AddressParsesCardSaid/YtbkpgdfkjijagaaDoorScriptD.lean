/- sporran/script: Make. -/
import Derived.Test.YtbkpgdfkjijagaaDoorScriptC
import Derived.Deep.RegionLaw
namespace Go.Proofs.YtbkpgdfkjijagaaDoor
open Go.RowKit

/-- how many elements a slice has -/
def lenOf (v : Value) : Nat := match v with | .slice _ n _ => n | _ => 0
theorem Own8.len {w : World} {B : Nat} {v : Value} {bs : List (BitVec 8)} (h : Own8 w B v bs) : lenOf v = bs.length := by
  obtain ⟨p, c, rfl, _⟩ := h.row; rfl
theorem len_down {w' : World} {B : Nat} {v v' : Value} {bs bs' : List (BitVec 8)} {n : Nat} (h : Hid (lenOf v = bs.length)) (h' : Own8 w' B v' bs') (hl : bs'.length = bs.length + 1) (hn : bs.length < n) : n - lenOf v' < n - lenOf v := by
  rw [h.out, h'.len]; omega
/-! ### plain: a script made of a pattern's runes -/
def mk : List Nat → List (BitVec 8) → Option (List (BitVec 8))
  | [], [] => some []
  | [], _ :: _ => none
  | r :: R, b => if r = 120 then (match b with | [] => none | x :: b' => (mk R b').map (x :: ·)) else (mk R b).map (BitVec.ofNat 8 r :: ·)
def MkAt (R : List Nat) (bs : List (BitVec 8)) (k j : Nat) (A : List (BitVec 8)) : Prop :=
  A.length = k ∧ j ≤ bs.length ∧ mk R bs = (mk (R.drop k) (bs.drop j)).map (A ++ ·)
theorem MkAt.start (R : List Nat) (bs : List (BitVec 8)) : MkAt R bs 0 0 [] := ⟨rfl, Nat.zero_le _, by simp⟩
theorem MkAt.fixed {R : List Nat} {bs : List (BitVec 8)} {k j : Nat} {A : List (BitVec 8)} (h : MkAt R bs k j A) (hk : k < R.length) (hr : R[k] ≠ 120) : MkAt R bs (k + 1) j (A ++ [BitVec.ofNat 8 R[k]]) := by
  refine ⟨by simp [h.1], h.2.1, ?_⟩
  rw [h.2.2, List.drop_eq_getElem_cons hk]
  simp [mk, hr, Function.comp_def]
theorem MkAt.takes {R : List Nat} {bs : List (BitVec 8)} {k j : Nat} {A : List (BitVec 8)} (h : MkAt R bs k j A) (hk : k < R.length) (hr : R[k] = 120) (hj : j < bs.length) : MkAt R bs (k + 1) (j + 1) (A ++ [bs[j]]) := by
  refine ⟨by simp [h.1], by omega, ?_⟩
  rw [h.2.2, List.drop_eq_getElem_cons hk, List.drop_eq_getElem_cons hj]
  simp [mk, hr, Function.comp_def]
theorem MkAt.short {R : List Nat} {bs : List (BitVec 8)} {k j : Nat} {A : List (BitVec 8)} (h : MkAt R bs k j A) (hk : k < R.length) (hr : R[k] = 120) (hj : bs.length = j) : mk R bs = none := by
  have h1 : bs.drop j = [] := List.drop_eq_nil_of_le (by omega)
  rw [h.2.2, List.drop_eq_getElem_cons hk, h1]; simp [mk, hr]
theorem MkAt.whole {R : List Nat} {bs : List (BitVec 8)} {j : Nat} {A : List (BitVec 8)} (h : MkAt R bs R.length j A) (hj : bs.length = j) : mk R bs = some A := by
  have h1 : bs.drop j = [] := List.drop_eq_nil_of_le (by omega)
  rw [h.2.2, List.drop_eq_nil_of_le (Nat.le_refl R.length), h1]; simp [mk]
theorem MkAt.long {R : List Nat} {bs : List (BitVec 8)} {j : Nat} {A : List (BitVec 8)} (h : MkAt R bs R.length j A) (hj : j < bs.length) : mk R bs = none := by
  rw [h.2.2, List.drop_eq_nil_of_le (Nat.le_refl R.length), List.drop_eq_getElem_cons hj]; rfl

/-- the script of a kind, if there is one -/
def made (k : Int) (bs : List (BitVec 8)) : Option (List (BitVec 8)) :=
  if k = 6 then some (106#8 :: bs) else if kindOf k = 0 then none else mk (kindR (kindOf k)) bs
def MakePost (w : World) (o : Option (List (BitVec 8))) (e : Ending) (w' : World) : Prop :=
  Below w.heap.size w w' ∧ match o with
    | none => e = .returned (.tuple #[.slice none 0 0, .bool false])
    | some t => ∃ v, e = .returned (.tuple #[v, .bool true]) ∧ Own8 w' w.heap.size v t

theorem made_none {kd : Int} {bs : List (BitVec 8)} {R : List Nat} {w w' : World} (HM : Hid (made kd bs = if kindOf kd = 0 then none else mk (kindR (kindOf kd)) bs)) (HR : Hid (R = if kindOf kd = 0 then [] else kindR (kindOf kd)))
    (h : Hid (mk R bs = none)) (hb : Below w.heap.size w w') : MakePost w (made kd bs) (.returned (.tuple #[.slice none 0 0, .bool false])) w' := by
  have : made kd bs = none := by
    rw [HM.out]
    by_cases h0 : kindOf kd = 0
    · rw [if_pos h0]
    · rw [if_neg h0]; rw [HR.out, if_neg h0] at h; exact h.out
  unfold MakePost
  rw [this]
  exact ⟨hb, rfl⟩

theorem made_zero {kd : Int} {bs : List (BitVec 8)} {w w' : World} (HM : Hid (made kd bs = if kindOf kd = 0 then none else mk (kindR (kindOf kd)) bs)) (HZ : Hid (kindOf kd = 0)) (hb : Below w.heap.size w w') :
    MakePost w (made kd bs) (.returned (.tuple #[.slice none 0 0, .bool false])) w' := by
  have : made kd bs = none := by rw [HM.out, if_pos HZ.out]
  unfold MakePost
  rw [this]
  exact ⟨hb, rfl⟩
theorem made_some {kd : Int} {bs A : List (BitVec 8)} {R : List Nat} {w w' : World} {v : Value} (HM : Hid (made kd bs = if kindOf kd = 0 then none else mk (kindR (kindOf kd)) bs)) (HR : Hid (R = if kindOf kd = 0 then [] else kindR (kindOf kd)))
    (HZ : Hid (kindOf kd ≠ 0)) (h : Hid (mk R bs = some A)) (ho : Own8 w' w.heap.size v A) (hb : Below w.heap.size w w') : MakePost w (made kd bs) (.returned (.tuple #[v, .bool true])) w' := by
  have : made kd bs = some A := by
    rw [HM.out, if_neg HZ.out]
    rw [HR.out, if_neg HZ.out] at h; exact h.out
  unfold MakePost
  rw [this]
  exact ⟨hb, v, rfl, ho⟩
theorem kindR_pos (k : Nat) (h1 : 1 ≤ k) (h5 : k ≤ 5) : 0 < (kindR k).length := by
  rcases (show k = 1 ∨ k = 2 ∨ k = 3 ∨ k = 4 ∨ k = 5 by omega) with rfl | rfl | rfl | rfl | rfl <;> simp [kindR, kindPre, kindPost, kindLen]

set_option maxRecDepth 100000 in
set_option maxHeartbeats 2000000 in
theorem make_data (p : Option Addr) (n c : Nat) (bs : List (BitVec 8)) (w : World) (hr : Row8 w p bs) (hn : bs.length = n) (hb : n ≤ 140737488355000) :
    Calls Tryd.prog 48 #[.int .i64 6, .slice p n c] w (MakePost w (made 6 bs)) := by
  have hown : Own8 (w.alloc (.cells #[.int .u8 106] 5)) w.heap.size (.slice (some ⟨w.heap.size, 0, none⟩) 1 1) [106#8] :=
    ⟨rfl, .inr ⟨w.heap.size, 1, #[.int .u8 106], rfl, Nat.le_refl _, Blk.new w _ _, Nat.le_refl _, by unfold maxLen; omega, rfl, rfl⟩⟩
  go_enter Tryd.func48, Tryd.ntmps48
  go_wp2_with (with_reducible refine wp_append8 (o := ⟨some 14, _, _, _, _, _⟩) ?_ (.tmp 12) (.tmp 13) ?_ w.heap.size _ [106#8] ?_ hown p n c bs ?_ ?_ ?_ ?_ ?_ w.heap.size w ?_ ?_ ?_
               · rfl
               · rfl
               · rfl
               · rfl
               · exact hn
               · exact hr.below ((Below.refl w.heap.size w).alloc (Nat.le_refl _) _) (Nat.le_refl _)
               · simp only [List.length_cons, List.length_nil]; omega
               · simp only [World.size_alloc]; omega
               · exact (Below.refl w.heap.size w).alloc (Nat.le_refl _) _
               · exact Nat.le_refl _
               intro v1 w1 ho1 hb1 _ _)
  go_ret2
  exact ⟨hb1, v1, rfl, ho1⟩

set_option maxRecDepth 100000 in
set_option maxHeartbeats 2000000 in
theorem make_other (kd : Int) (hk6 : (kd == 6) = false) (p : Option Addr) (n c : Nat) (bs : List (BitVec 8)) (w : World) (hr : Row8 w p bs) (hn : bs.length = n) (hl : n ≤ c) (hcm : c ≤ 9223372036854775807) :
    Calls Tryd.prog 48 #[.int .i64 kd, .slice p n c] w (MakePost w (made kd bs)) := by
  have HN := Lib.hid hn
  have HM : Hid (made kd bs = if kindOf kd = 0 then none else mk (kindR (kindOf kd)) bs) := Lib.hid (by unfold made; rw [if_neg (by simpa using hk6)])
  clear hn
  go_enter Tryd.func48, Tryd.ntmps48
  go_wp2_with fail
  refine (pattern_any kd _).mono ?_
  rintro e w1 ⟨rfl, hw1⟩
  replace hw1 := hw1.symm
  subst hw1
  obtain ⟨R, S, hP, hRS, hRl⟩ : ∃ (R : List Nat) (S : ByteArray), Pat S R ∧ patS (kindOf kd) = S ∧ R = (if kindOf kd = 0 then [] else kindR (kindOf kd)) := by
    by_cases h0 : kindOf kd = 0
    · exact ⟨[], patS 0, pat_of (by kernel_rfl), by rw [h0], by rw [if_pos h0]⟩
    · refine ⟨kindR (kindOf kd), _, pat_any _ (by omega) ?_, rfl, by rw [if_neg h0]⟩
      unfold kindOf; split <;> omega
  rw [hRS]
  have hR1000 : R.length ≤ 1000 := by
    rw [hRl]
    by_cases h0 : kindOf kd = 0
    · rw [if_pos h0]; simp
    · rw [if_neg h0]; exact kindR_len _
  have HRL := Lib.hid hRl
  clear hRS hRl
  go_wp2
  go_loopw [6, 7] (fun v l wr => ∃ (k j m c' : Nat) (A : List (BitVec 8)) (q : Option Addr), k ≤ R.length ∧ Own8 wr w.heap.size v A ∧ MkAt R bs k j A ∧ Hid (m + j = bs.length) ∧ m ≤ c' ∧ c' ≤ 9223372036854775807 ∧ l = .slice q m c' ∧ Row8 w q (bs.drop j) ∧ Hid (wr.heap[w.heap.size]? = some (.stringIter S (posAt S k))) ∧ Below w.heap.size w wr)
    (fun v _ _ => R.length - lenOf v)
  case atStart => exact ⟨0, 0, n, c, [], p, by omega, Own8.nil _ _, MkAt.start R bs, Lib.hid (by rw [HN.out]; omega), hl, hcm, rfl, hr, World.iter_heap w S 0, (Below.refl _ _).alloc (Nat.le_refl _) _⟩
  case round =>
    obtain ⟨k, j, m, c', A, q, hk, hown, hmk, hmj, hmc, hcb, rfl, hrow, hit, hbel⟩ := hrel
    by_cases hlt : k < R.length
    · obtain ⟨w2, hnx, hit2, hbt, hot, hz2⟩ := iter_step (P := Tryd.prog) hP hlt hit.out
      have hsm := hP.small k hlt
      have hbel2 := hbt _ _ hbel (Nat.le_refl _)
      have hown2 := hot _ _ _ hown
      have HIT := Lib.hid hit2
      have HLN := Lib.hid hown.len
      clear hbt hot hit2 hbel hown hit hz2
      obtain ⟨r, hrd⟩ : ∃ r, r = R[k] := ⟨_, rfl⟩
      rw [← hrd] at hnx hsm
      have HR := Lib.hid hrd
      clear hrd
      have hAk := hmk.1
      have HA := Lib.hid hAk
      clear hAk
      by_cases hr120 : r = 120
      · have hrb : ((r : Int) != 120) = false := by simp; omega
        by_cases hm0 : m = 0
        · subst hm0
          have hne := hmk.short hlt (by rw [← HR.out]; exact hr120) (by have := hmj.out; omega)
          have HN2 := Lib.hid hne
          clear hmk hr120 hne
          go_wp2
          go_ret2
          exact made_none HM HRL HN2 hbel2
        · obtain ⟨x, xs, hdx⟩ : ∃ x xs, bs.drop j = x :: xs := by
            cases hd : bs.drop j with
            | nil => have := hmj.out; have := congrArg List.length hd; simp at this; omega
            | cons x xs => exact ⟨x, xs, rfl⟩
          have hjb : j < bs.length := by have := hmj.out; omega
          have hxj : bs[j] = x := by rw [List.drop_eq_getElem_cons hjb] at hdx; injection hdx
          have hmk2 := hmk.takes hlt (by rw [← HR.out]; exact hr120) hjb
          rw [hxj] at hmk2
          obtain ⟨bb, of, rfl, hbl, hcell⟩ := hrow (by rw [hdx]; simp)
          have hx : w2.cell? ⟨bb, of, none⟩ = some (.int .u8 (iv8 x)) := (hbel2.cell (p := ⟨bb, of, none⟩) hbl).trans (hcell 0 x (by rw [hdx]; rfl))
          have hdr := hrow.drop (k := 1) (c := c') (by have := hmj.out; simp; omega)
          rw [List.drop_drop] at hdr
          have hpos : (0 : Int) < (m : Int) := by omega
          have hposN : 0 < m := by omega
          have h1m : (1 : Int) ≤ (m : Int) := by omega
          have hpos0 : ((m : Int) == 0) = false := by simp; omega
          clear hcell hmk hr120 hxj hdx hrow
          have hjb2 := Lib.hid hjb
          clear hjb
          by_cases hc1 : c' = 1
          all_goals
            first | rw [if_pos hc1] at hdr | rw [if_neg hc1] at hdr
            go_wp2
            go_region_law (first
              | (refine step_append8 (o := ⟨some 37, _, _, _, _, _⟩) rfl (.tmp 32) (.tmp 36) rfl w.heap.size u6 A rfl (hown2.alloc _).drew (some ⟨w2.heap.size, 0, none⟩) 1 1 [x] rfl rfl (fun _ => ⟨_, _, rfl, by simp, fun i y hy => match i, hy with | 0, hy => by injection hy with hy; subst hy; exact ((Blk.new w2 _ _).drew).cell 0⟩) (by have := HA.out; simp only [List.length_cons, List.length_nil]; omega) (by have := hbel2.size; simp; omega) w.heap.size w (hbel2.alloc hbel2.size _).drew (Nat.le_refl _) ?_
                 intro v3 w3 ho3 hb3 hg3 _
                 have HI3 := Lib.hid (iter_grown (hown2.alloc _).drew hg3 (iter_alloc HIT.out _))
                 clear hg3)
              | fail)
            go_wp2
            go_roundw
            case rel =>
              (repeat apply Exists.intro)
              refine ⟨?_, rfl⟩
              refine ⟨k + 1, j + 1, m - 1, c' - 1, _, _, by omega, ho3, hmk2, Lib.hid (by have := hmj.out; omega), by omega, by omega, ?_, hdr, HI3, hb3⟩
              first | rfl | (subst hc1; rfl) | simp [Addr.add_lit]
            case measure => exact len_down HLN ho3 (by simp) (by rw [HA.out]; exact hlt)
      · have hrb : ((r : Int) != 120) = true := by simp; omega
        have hmk2 := hmk.fixed hlt (by rw [← HR.out]; exact hr120)
        rw [← HR.out] at hmk2
        have hr255 : (r : Int) ≤ 255 := by omega
        clear hmk hr120
        go_wp2_with (with_reducible refine wp_append8 (o := ⟨some 28, _, _, _, _, _⟩) ?_ (.tmp 24) (.tmp 27) ?_ w.heap.size u6 A ?_ (hown2.alloc _) (some ⟨w2.heap.size, 0, none⟩) 1 1 [BitVec.ofNat 8 r] ?_ ?_ ?_ ?_ ?_ w.heap.size w ?_ ?_ ?_
                     · rfl
                     · rfl
                     · rfl
                     · rfl
                     · rfl
                     · exact fun _ => ⟨_, _, rfl, by simp, fun i y hy => match i, hy with | 0, hy => by injection hy with hy; subst hy; rw [u8, ← iv8_lit r hsm]; exact (Blk.new w2 _ _).cell 0⟩
                     · have := HA.out; simp only [List.length_cons, List.length_nil]; omega
                     · have := hbel2.size; simp only [World.size_alloc]; omega
                     · exact hbel2.alloc hbel2.size _
                     · exact Nat.le_refl _
                     intro v3 w3 ho3 hb3 hg3 _
                     have HI3 := Lib.hid (iter_grown (hown2.alloc _) hg3 (iter_alloc HIT.out _))
                     clear hown2 hbel2 HIT hg3)
        go_roundw
        case rel => exact ⟨k + 1, j, m, c', _, q, by omega, ho3, hmk2, hmj, hmc, hcb, rfl, hrow, HI3, hb3⟩
        case measure => exact len_down HLN ho3 (by simp) (by rw [HA.out]; exact hlt)
    · obtain rfl : k = R.length := by omega
      have hnx := fun ty => Lib.run_next_end_at (P := Tryd.prog) wr w.heap.size S _ ty hit.out hP.ends
      have hlv := hown.len
      have hA := hmk.1
      obtain ⟨p1, c1, rfl, hl1, hm1, hr1⟩ := hown.row
      by_cases hA0 : A = []
      · subst hA0
        have hk0 : kindOf kd = 0 := by
          by_cases h0 : kindOf kd = 0
          · exact h0
          · have h1 := HRL.out
            rw [if_neg h0] at h1
            have h2 : (kindR (kindOf kd)).length = 0 := by rw [← h1, ← hA]; rfl
            have h3 := kindR_pos (kindOf kd) (by omega) (by unfold kindOf; split <;> omega)
            omega
        have HZ := Lib.hid hk0
        clear hk0 hA hlv
        go_wp2
        go_ret2
        exact made_zero HM HZ hbel
      · have hAl : 0 < A.length := List.length_pos_iff.2 hA0
        have hA0b : ((A.length : Int) == 0) = false := by simp; omega
        have hk0 : kindOf kd ≠ 0 := fun h0 => by
          have h1 := HRL.out
          rw [if_pos h0] at h1
          rw [h1] at hA; simp at hA; exact hA0 hA
        have HZ : Hid (kindOf kd ≠ 0) := hk0
        have HA := Lib.hid hA
        have HOW := Lib.hid hown
        by_cases hm0 : m = 0
        · have hw := hmk.whole (by have := hmj.out; omega)
          have HW := Lib.hid hw
          have hm0b : ¬ (0 : Int) < (m : Int) := by omega
          clear hk0 hA hlv hA0 hw hmk
          go_wp2
          go_ret2
          exact made_some HM HRL HZ HW HOW.out hbel
        · have hw := hmk.long (by have := hmj.out; omega)
          have HW := Lib.hid hw
          have hm0b : (0 : Int) < (m : Int) := by omega
          clear hk0 hA hlv hA0 hw hmk
          go_wp2
          go_ret2
          exact made_none HM HRL HW hbel

theorem make_any (k : Int) (p : Option Addr) (n c : Nat) (bs : List (BitVec 8)) (w : World) (hr : Row8 w p bs) (hn : bs.length = n) (hl : n ≤ c) (hb : n ≤ 140737488355000) (hcm : c ≤ 9223372036854775807) :
    Calls Tryd.prog 48 #[.int .i64 k, .slice p n c] w (MakePost w (made k bs)) := by
  by_cases h : k = 6
  · subst h; exact make_data p n c bs w hr hn hb
  · exact make_other k (by simpa using h) p n c bs w hr hn hl hcm
end Go.Proofs.YtbkpgdfkjijagaaDoor
