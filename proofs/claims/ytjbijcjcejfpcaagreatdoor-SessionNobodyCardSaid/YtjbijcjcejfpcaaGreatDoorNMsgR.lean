/- message's reader, which keeps its first error: take.  -/
import Derived.Test.YtjbijcjcejfpcaaGreatDoorNGE
import Derived.Test.YtjbijcjcejfpcaaGreatDoorNMsgW
namespace Go.Proofs.YtjbijcjcejfpcaaGreatDoor
open Go Go.RowKit
set_option linter.unusedVariables false
def MRd (T D B g : Nat) (w : World) (er : Int) (s : Bs) : Prop := ∃ v, Blk w g T #[v, .int .i64 er] ∧ Dat D g w v s ∧ s.length ≤ 140737488355328 ∧ g < B ∧ B ≤ w.heap.size
theorem MRd.stays {T D B g : Nat} {w w' : World} {er : Int} {s : Bs} {S : Nat → Prop} (h : MRd T D B g w er s) (hs : Stays S w w') (hS : Rw D g w S) (hg : ¬ S g) : MRd T D B g w' er s := by
  obtain ⟨v, h1, h2, h3, h4, h5⟩ := h
  exact ⟨v, h1.stays hs hg, h2.stays hs hS, h3, h4, Nat.le_trans h5 hs.size⟩
theorem MRd.fut {T D B g : Nat} {w w' : World} {er : Int} {s : Bs} (h : MRd T D B g w er s) (hb : Below w.heap.size w w') : MRd T D B g w' er s :=
  h.stays (Stays.of_below hb (Nat.le_refl _) (fun _ => False)) (fun _ h => h.elim) id
theorem MRd.move {T D B g : Nat} {w : World} {v v' : Value} {er : Int} {s' : Bs} (h : Blk w g T #[v, .int .i64 er]) (hd : Dat D g w v' s') (hl : s'.length ≤ 140737488355328) (hg : g < B) (hB : B ≤ w.heap.size) : MRd T D B g (w.setCell ⟨g, 0, none⟩ v') er s' := by
  refine ⟨v', ?_, hd.stays (Stays.set w g 0 v') (fun k hk => .inl hk), hl, hg, by simpa using hB⟩
  have := h.set 0 v'
  simpa using this
theorem MRd.mark {T D B g : Nat} {w : World} {v : Value} {er k : Int} {s : Bs} (h : Blk w g T #[v, .int .i64 er]) (hd : Dat D g w v s) (hl : s.length ≤ 140737488355328) (hg : g < B) (hB : B ≤ w.heap.size) : MRd T D B g (w.setCell ⟨g, 1, none⟩ (.int .i64 k)) k s := by
  refine ⟨v, ?_, hd.stays (Stays.set w g 1 (.int .i64 k)) (fun k hk => .inl hk), hl, hg, by simpa using hB⟩
  have := h.set 1 (.int .i64 k)
  simpa using this
theorem Dat.ownD {D B g : Nat} {w : World} {v : Value} {s : Bs} (h : Own8 w B v s) (hg : g < B) : Dat D g w v s := ⟨h.sl, fun h0 k hk => by
  obtain ⟨h1, h2⟩ := (Dat.own h hg).2 h0 k hk
  rcases h.2 with ⟨rfl, _⟩ | ⟨q, cap, cur, rfl, hB, hh, _⟩
  · cases hk
  · injection hk with hk
    subst hk
    exact ⟨h1, .inr ⟨cur, hh⟩⟩⟩
def MkP {α : Type} (T D B g : Nat) (w : World) (p : Pz α) (er : Int) (s : Bs) (V : World → α → Value → Prop) (e : Ending) (w' : World) : Prop :=
  ∃ v a er' r, e = .returned v ∧ V w' a v ∧ Hid (MRd T D B g w' er' r) ∧ Hid (Stays (· = g) w w') ∧ Hid (Step p er s a er' r)
set_option maxRecDepth 100000 in
set_option maxHeartbeats 4000000 in
theorem mTake_any (D B g k : Nat) (hk : k ≤ 1000) (w : World) (er : Int) (s : Bs) (h : MRd 122 D B g w er s) :
    Calls Tryz.prog 84 #[.pointer (some ⟨g, 0, none⟩), .int .i64 (k : Int)] w (MkP 122 D B g w (takeZ k) er s fun w' a v => Dat D g w' v a ∧ a.length = k) := by
  obtain ⟨v, h1, h2, h3, h4, h5⟩ := h
  obtain ⟨p, n, c, rfl, hn, hnc, hcm, hr, hp⟩ := h2.open
  obtain ⟨c0, c1, f0, f1⟩ := cell2 h1
  have HD := Lib.hid h2
  have H1 := Lib.hid h1
  have HN := Lib.hid hn
  have HS := Lib.hid h3
  by_cases he : er = 0
  · subst he
    by_cases hkn : n < k
    · have hz : takeZ k s = .error 50 := takeZ_short (by omega)
      have HZ := Lib.hid hz
      have hlt : (n : Int) < (k : Int) := by omega
      have hmk := fun w => make8z w k (by omega)
      have c1' := (cell2 (by simpa using h1.set 1 (.int .i64 50) : Blk (w.setCell ⟨g, 1, none⟩ (.int .i64 50)) g 122 #[.slice p n c, .int .i64 50])).2.1
      clear hz h2 hr hp h1 hn h3
      go_enter Tryz.func84, Tryz.ntmps84
      go_wp2
      go_ret
      have hm : MRd 122 D B g (w.setCell ⟨g, 1, none⟩ (.int .i64 50)) 50 s := MRd.mark H1.out HD.out HS.out h4 h5
      have hb := below_new (w.setCell ⟨g, 1, none⟩ (.int .i64 50)) (.cells (Array.replicate k (u8 0#8)) 5)
      have ho := own_z (w.setCell ⟨g, 1, none⟩ (.int .i64 50)) B k (by simpa using h5) (by omega)
      rw [show (w.setCell ⟨g, 1, none⟩ (.int .i64 50)).heap.size = w.heap.size by simp] at ho
      refine ⟨_, List.replicate k 0#8, 50, s, rfl, ⟨Dat.ownD ho h4, by simp⟩, Lib.hid (hm.fut hb), Lib.hid ((Stays.set w g 1 _).trans (Stays.of_below hb (Nat.le_refl _) (· = g)) fun k _ h => h), Lib.hid (Step.err HZ.out (by decide))⟩
    · have hz : takeZ k s = .ok (s.take k, s.drop k) := by unfold takeZ; rw [if_neg (by omega)]
      have HZ := Lib.hid hz
      have hlt : ¬ (n : Int) < (k : Int) := by omega
      have s1 := slice_hm8 w p n c k (by omega) hnc
      have s2 := slice_cut8 w p n c k (by omega)
      have HT := Lib.hid (h2.take (k := k) (by omega) hp)
      have HC := Lib.hid (h2.cut (k := k) (by omega))
      clear hz h2 hr hp h1 hn h3
      go_enter Tryz.func84, Tryz.ntmps84
      go_wp2
      go_ret
      exact ⟨_, s.take k, 0, s.drop k, rfl, ⟨HT.out.stays (Stays.set w g 0 _) (fun k hk => .inl hk), by rw [List.length_take]; have := HN.out; omega⟩, Lib.hid (MRd.move H1.out HC.out (by rw [List.length_drop]; have := HS.out; omega) h4 h5), Lib.hid (Stays.set w g 0 _), Lib.hid (Step.ok HZ.out)⟩
  · have hb1 : (er == 0) = false := by rw [beq_eq_false_iff_ne]; exact he
    have HE := Lib.hid he
    have hmk := fun w => make8z w k (by omega)
    clear h2 hr hp h1 hn h3 he
    go_enter Tryz.func84, Tryz.ntmps84
    go_wp2
    go_ret
    have hb := below_new w (.cells (Array.replicate k (u8 0#8)) 5)
    exact ⟨_, List.replicate k 0#8, er, s, rfl, ⟨Dat.ownD (own_z _ B k h5 (by omega)) h4, by simp⟩, Lib.hid (MRd.fut ⟨_, H1.out, HD.out, HS.out, h4, h5⟩ hb), Lib.hid (Stays.of_below hb (Nat.le_refl _) _), Lib.hid (Step.bad HE.out)⟩
set_option maxRecDepth 100000 in
set_option maxHeartbeats 4000000 in
theorem mNum_any (D B g k : Nat) (hk : k ≤ 8) (w : World) (er : Int) (s : Bs) (h : MRd 122 D B g w er s) :
    Calls Tryz.prog 78 #[.pointer (some ⟨g, 0, none⟩), .int .i64 (k : Int)] w (MkP 122 D B g w (numZ k) er s fun w' a v => v = .int .u64 (iv64 a)) := by
  have hcall := mTake_any D B g k (by omega) w er s h
  clear h
  go_enter Tryz.func78, Tryz.ntmps78
  go_wp2_with fail
  refine hcall.mono ?_
  rintro e w1 ⟨v, a, er', r, rfl, ⟨hd, hl⟩, HR, HS, HT⟩
  obtain ⟨p, n, c, rfl, hn, hnc, hcm, hr, hp⟩ := hd.open
  have hkn : k = n := by omega
  subst hkn
  have HN := Lib.hid hn
  clear hd hn hl hcall hp
  obtain ⟨n, hnk⟩ : ∃ n, n = k := ⟨_, rfl⟩
  subst hnk
  go_wp2_with fail
  go_loopw [5, 14] (fun s i wr => ∃ k : Nat, k ≤ n ∧ i = .int .i64 k ∧ s = .int .u64 (iv64 (numTo a k)) ∧ wr = w1) (fun _ i _ => n - (intOf i).toNat)
  case atStart => exact ⟨0, by omega, rfl, rfl, rfl⟩
  case round =>
    obtain ⟨k, hk2, rfl, rfl, hwr⟩ := hrel
    replace hwr := hwr.symm
    subst hwr
    by_cases hkn : k < n
    · obtain ⟨bb, of, rfl, _, hcell⟩ := hr (fun e => by have := HN.out; rw [e] at this; simp at this; omega)
      obtain ⟨b, hb⟩ : ∃ b, a[k]? = some b := ⟨a[k]'(by rw [HN.out]; exact hkn), List.getElem?_eq_getElem _⟩
      have hx : w1.cell? ⟨bb, of + k, none⟩ = some (.int .u8 (iv8 b)) := hcell k b hb
      have hlt : (k : Int) < (n : Int) := by omega
      have hb2 : 8 * (k : Int) ≤ 56 := by omega
      have hb1 : (0 : Int) ≤ 8 * (k : Int) := by omega
      have hst := num_step a k b hb
      clear hcell hr
      go_wp2
      go_roundw
      case rel => exact ⟨k + 1, by omega, by go_num, rfl, trivial⟩
      case measure => simp [intOf]; omega
    · obtain rfl : k = n := by omega
      go_wp2
      go_ret
      exact ⟨_, numTo a k, er', r, rfl, rfl, HR, HS, Lib.hid (HT.out.bind (Step.ret _ _ _))⟩
theorem textM_eq (most : Nat) (s : Bs) : textM most s = if (textP s most).2.2 = 0 then .ok ((textP s most).1, (textP s most).2.1) else .error (textP s most).2.2 := by
  have hv : iv64 (cutP s).1 = ((cutP s).1.toNat : Int) := rfl
  have hc : ((most : Int) < 0 ∧ 0 < iv64 (cutP s).1 ∨ 0 ≤ (most : Int) ∧ (most : Int) < iv64 (cutP s).1) ↔ most < (cutP s).1.toNat := by omega
  have hd : (((cutP s).2.1.length : Int) < iv64 (cutP s).1) ↔ (cutP s).2.1.length < (cutP s).1.toNat := by omega
  unfold textM Pz.bind cntZ textP takeZ
  simp only [hc, hd]
  by_cases h1 : (cutP s).2.2 = 0
  · by_cases h2 : most < (cutP s).1.toNat
    · simp [h1, h2]
    · by_cases h3 : (cutP s).2.1.length < (cutP s).1.toNat
      · simp [h1, h2, h3]
      · simp [h1, h2, h3]
  · simp [h1]
theorem textP_short (s : Bs) (most : Int) : (textP s most).2.1.length ≤ s.length ∧ (textP s most).1.length ≤ s.length := by
  have := cutP_short s
  unfold textP
  split
  · simp
  · split
    · simp
    · split
      · simp
      · simp; omega
theorem MRd.both {T D B g : Nat} {w : World} {v v' : Value} {er k : Int} {s' : Bs} (h : Blk w g T #[v, .int .i64 er]) (hd : Dat D g w v' s') (hl : s'.length ≤ 140737488355328) (hg : g < B) (hB : B ≤ w.heap.size) : MRd T D B g ((w.setCell ⟨g, 0, none⟩ v').setCell ⟨g, 1, none⟩ (.int .i64 k)) k s' := by
  have h1 : Blk (w.setCell ⟨g, 0, none⟩ v') g T #[v', .int .i64 er] := by have := h.set 0 v'; simpa using this
  exact MRd.mark h1 (hd.stays (Stays.set w g 0 v') (fun k hk => .inl hk)) hl hg (by simpa using hB)
set_option maxRecDepth 100000 in
set_option maxHeartbeats 4000000 in
theorem mText_any (D B g most : Nat) (hmost : most ≤ 1000000) (w : World) (er : Int) (s : Bs) (h : MRd 122 D B g w er s) :
    Calls Tryz.prog 86 #[.pointer (some ⟨g, 0, none⟩), .int .i64 (most : Int)] w (MkP 122 D B g w (textM most) er s fun w' a v => Own8 w' B v a) := by
  obtain ⟨v, h1, h2, h3, h4, h5⟩ := h
  obtain ⟨p, n, c, rfl, hn, hnc, hcm, hr, hp⟩ := h2.open
  obtain ⟨c0, c1, f0, f1⟩ := cell2 h1
  have HD := Lib.hid h2
  have H1 := Lib.hid h1
  have HS := Lib.hid h3
  by_cases he : er = 0
  case neg =>
    have hb1 : (er == 0) = false := by rw [beq_eq_false_iff_ne]; exact he
    have HE := Lib.hid he
    clear h2 hr hp h1 hn h3 he
    go_enter Tryz.func86, Tryz.ntmps86
    go_wp2
    go_ret
    exact ⟨_, [], er, s, rfl, own_none _ _, Lib.hid ⟨_, H1.out, HD.out, HS.out, h4, h5⟩, Lib.hid (Stays.refl _ _), Lib.hid (Step.bad HE.out)⟩
  subst he
  have hcall := readText_any p n c s (most : Int) w hr hn hnc (by omega) (by omega) (by omega) (by omega)
  have hz := textM_eq most s
  have hle := (textP_short s most).1
  obtain ⟨x, hx⟩ : ∃ x, x = textP s most := ⟨_, rfl⟩
  rw [← hx] at hcall hz hle
  obtain ⟨a, r, k⟩ := x
  simp only at hz hle
  unfold ReadPost at hcall
  simp only at hcall
  have HZ := Lib.hid hz
  have HLE := Lib.hid hle
  clear hx hz hle h1 h2 hr hn hp
  go_enter Tryz.func86, Tryz.ntmps86
  go_wp2_with fail
  refine hcall.mono ?_
  rintro e w1 ⟨v1, v2, rfl, ho1, ho2, hb2⟩
  have hg1 := H1.out.fut hb2
  obtain ⟨d0, d1, g0, g1⟩ := cell2 hg1
  obtain ⟨q2, m2, c2, rfl, _⟩ := Own8.open ho2
  obtain ⟨q1, m1, c1', rfl, _⟩ := Own8.open ho1
  have HO1 : Hid (Own8 w1 B (.slice q1 m1 c1') a) := Lib.hid (ownsRow_mono ho1 h5)
  have HO2 : Hid (Own8 w1 B (.slice q2 m2 c2) r) := Lib.hid (ownsRow_mono ho2 h5)
  have HG1 := Lib.hid hg1
  have HB := Lib.hid hb2
  have hsz := HB.out.size
  clear ho1 ho2 hcall hg1 hb2
  go_wp2_with fail
  go_ret
  have hm : MRd 122 D B g ((w1.setCell ⟨g, 0, none⟩ (.slice q2 m2 c2)).setCell ⟨g, 1, none⟩ (.int .i64 k)) k r := MRd.both HG1.out (Dat.ownD HO2.out h4) (by have := HLE.out; have := HS.out; omega) h4 (by omega)
  have hst : Stays (· = g) w1 ((w1.setCell ⟨g, 0, none⟩ (.slice q2 m2 c2)).setCell ⟨g, 1, none⟩ (.int .i64 k)) := (Stays.set w1 g 0 _).trans (Stays.set _ g 1 _) fun k _ h => h
  refine ⟨_, a, k, r, rfl, HO1.out.sep hst (Sep.low fun k hk => by have : k = g := hk; omega), Lib.hid hm, Lib.hid ((Stays.of_below HB.out (Nat.le_refl _) (· = g)).trans hst fun k _ h => h), Lib.hid ?_⟩
  unfold Step
  rw [if_pos rfl, HZ.out]
  by_cases hk : k = 0
  · rw [if_pos hk]; exact ⟨hk, rfl, rfl⟩
  · rw [if_neg hk]; exact ⟨rfl, hk⟩
def CntG {β : Type} (R : Except Int (β × Bs)) (er : Int) (y : Except Int (β × Bs)) : Prop := if er = 0 then R = y else R = .error er
theorem CntG.step {α : Type} {R : Except Int (List α × Bs)} {xs : List α} {p : Pz α} {m : Nat} {s r : Bs} {a : α} {er' : Int} (h : CntG R 0 (contM xs p (m + 1) s)) (h2 : Step p 0 s a er' r) : CntG R er' (contM (xs ++ [a]) p m r) := by
  unfold CntG at h ⊢
  rw [if_pos rfl] at h
  unfold Step at h2
  rw [if_pos rfl] at h2
  cases hp : p s with
  | error k =>
    rw [hp] at h2
    rw [if_neg (by rw [h2.1]; exact h2.2), h, contM_bad hp, h2.1]
  | ok x =>
    obtain ⟨a', r'⟩ := x
    rw [hp] at h2
    obtain ⟨h3, rfl, rfl⟩ := h2
    rw [if_pos h3, h, contM_ok hp]
theorem CntG.done {α : Type} {p : Pz α} {n : Nat} {s0 s : Bs} {xs : List α} {er : Int} {m : Nat} (h : CntG (manyZ p n s0) er (contM xs p m s)) (hm : m = 0 ∨ er ≠ 0) : Step (manyZ p n) 0 s0 xs er s := by
  unfold CntG at h
  unfold Step
  rw [if_pos rfl]
  by_cases he : er = 0
  · rw [if_pos he] at h
    rcases hm with hm | hm
    · subst hm
      rw [contM_end] at h
      rw [h]
      exact ⟨he, rfl, rfl⟩
    · exact absurd he hm
  · rw [if_neg he] at h
    rw [h]
    exact ⟨rfl, he⟩
end Go.Proofs.YtjbijcjcejfpcaaGreatDoor
