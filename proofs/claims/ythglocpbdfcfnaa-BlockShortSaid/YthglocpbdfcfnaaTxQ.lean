/- sporranref07's reader, which keeps its first error: take, low, count, text. -/
import Derived.Test.YthglocpbdfcfnaaTxT
import Derived.Deep.MidRow
namespace Go.Proofs.Ythglocpbdfcfnaa
open Go Go.RowKit
set_option linter.unusedVariables false

/-- a reader's step: without an error as the parser says; with one it stays -/
def Step {α : Type} (p : Pz α) (er : Int) (s : Bs) (a : α) (er' : Int) (r : Bs) : Prop :=
  if er = 0 then (match p s with
    | .ok (a', r') => er' = 0 ∧ a = a' ∧ r = r'
    | .error k => er' = k ∧ k ≠ 0) else er' = er
theorem Step.ret {α : Type} (a : α) (er : Int) (s : Bs) : Step (Pz.ret a) er s a er s := by
  unfold Step
  split
  · rename_i h; exact ⟨h, rfl, rfl⟩
  · rfl
theorem Step.bind {α β : Type} {p : Pz α} {f : α → Pz β} {er er1 er2 : Int} {s s1 s2 : Bs} {a : α} {b : β} (h : Step p er s a er1 s1) (h2 : Step (f a) er1 s1 b er2 s2) : Step (p.bind f) er s b er2 s2 := by
  unfold Step at h h2 ⊢
  by_cases he : er = 0
  · rw [if_pos he] at h ⊢
    cases hp : p s with
    | error k =>
      rw [hp] at h
      simp only at h
      rw [if_neg (by rw [h.1]; exact h.2)] at h2
      rw [Pz.bind_err hp]
      exact ⟨h2.trans h.1, h.2⟩
    | ok x =>
      obtain ⟨a', r'⟩ := x
      rw [hp] at h
      simp only at h
      obtain ⟨h3, rfl, rfl⟩ := h
      rw [if_pos h3] at h2
      rw [Pz.bind_ok hp]
      exact h2
  · rw [if_neg he] at h ⊢
    rw [if_neg (by rw [h]; exact he)] at h2
    rw [h2, h]
theorem Step.ok {α : Type} {p : Pz α} {s r : Bs} {a : α} (h : p s = .ok (a, r)) : Step p 0 s a 0 r := by unfold Step; rw [if_pos rfl, h]; exact ⟨rfl, rfl, rfl⟩
theorem Step.err {α : Type} {p : Pz α} {s r : Bs} {a : α} {k : Int} (h : p s = .error k) (hk : k ≠ 0) : Step p 0 s a k r := by unfold Step; rw [if_pos rfl, h]; exact ⟨rfl, hk⟩
theorem Step.bad {α : Type} {p : Pz α} {s r : Bs} {a : α} {er : Int} (h : er ≠ 0) : Step p er s a er r := by unfold Step; rw [if_neg h]

def RsAt (B g : Nat) (w : World) (er : Int) (s : Bs) : Prop := ∃ v, Blk w g 79 #[v, .int .i64 er] ∧ Dat B g w v s ∧ s.length ≤ 140737488355328 ∧ g < B ∧ B ≤ w.heap.size
theorem RsAt.stays {B g : Nat} {w w' : World} {er : Int} {s : Bs} {S : Nat → Prop} (h : RsAt B g w er s) (hs : Stays S w w') (hS : Rw B g w S) (hg : ¬ S g) : RsAt B g w' er s := by
  obtain ⟨v, h1, h2, h3, h4, h5⟩ := h
  exact ⟨v, h1.stays hs hg, h2.stays hs hS, h3, h4, Nat.le_trans h5 hs.size⟩
theorem RsAt.fut {B g : Nat} {w w' : World} {er : Int} {s : Bs} (h : RsAt B g w er s) (hb : Below w.heap.size w w') : RsAt B g w' er s :=
  h.stays (Stays.of_below hb (Nat.le_refl _) (fun _ => False)) (fun _ h => h.elim) id
theorem RsAt.move {B g : Nat} {w : World} {v v' : Value} {er : Int} {s' : Bs} (h : Blk w g 79 #[v, .int .i64 er]) (hd : Dat B g w v' s') (hl : s'.length ≤ 140737488355328) (hg : g < B) (hB : B ≤ w.heap.size) : RsAt B g (w.setCell ⟨g, 0, none⟩ v') er s' := by
  refine ⟨v', ?_, hd.stays (Stays.set w g 0 v') (fun k hk => .inl hk), hl, hg, by simpa using hB⟩
  have := h.set 0 v'
  simpa using this
theorem RsAt.mark {B g : Nat} {w : World} {v : Value} {er k : Int} {s : Bs} (h : Blk w g 79 #[v, .int .i64 er]) (hd : Dat B g w v s) (hl : s.length ≤ 140737488355328) (hg : g < B) (hB : B ≤ w.heap.size) : RsAt B g (w.setCell ⟨g, 1, none⟩ (.int .i64 k)) k s := by
  refine ⟨v, ?_, hd.stays (Stays.set w g 1 (.int .i64 k)) (fun k hk => .inl hk), hl, hg, by simpa using hB⟩
  have := h.set 1 (.int .i64 k)
  simpa using this
def SkP {α : Type} (B g : Nat) (w : World) (p : Pz α) (er : Int) (s : Bs) (V : World → α → Value → Prop) (e : Ending) (w' : World) : Prop :=
  ∃ v a er' r, e = .returned v ∧ V w' a v ∧ Hid (RsAt B g w' er' r) ∧ Hid (Stays (· = g) w w') ∧ Hid (Step p er s a er' r)

theorem zs_eq (j : Nat) : ((List.replicate j 0#8).map u8).toArray = Array.replicate j (u8 0#8) := by simp
theorem make8z (w : World) (j : Nat) (h : j ≤ 140737488355328) : (Instr.makeSlice 27 (.int .i64 (j : Int)) (.int .i64 (j : Int))).run Try.prog w = .ok (.slice (some ⟨w.heap.size, 0, none⟩) j j) (w.alloc (.cells (Array.replicate j (u8 0#8)) 5)) := by
  obtain ⟨i0, hi, hz0, hz1, hz2⟩ := info_parts u8info
  have hr := run_make (P := Try.prog) w 27 5 i0 (.int .u8 0) Try.underlying27 hi hz0 .i64 .i64 (j : Int) (j : Int) (by omega) (Int.le_refl _) (by rw [hz2]; omega) (by omega)
  rw [hr, Int.toNat_natCast, hz1, Nat.mul_one]
  have e : madeCells (Value.int IntKind.u8 0).cells j = Array.replicate j (u8 0#8) := by
    unfold madeCells
    refine Array.ext (by simp) fun i h1 h2 => ?_
    simp [Value.cells, u8, iv8, Nat.mod_one]
  rw [e]
theorem own_z (w : World) (B j : Nat) (hB : B ≤ w.heap.size) (hj : j ≤ 140737488355328) : Own8 (w.alloc (.cells (Array.replicate j (u8 0#8)) 5)) B (.slice (some ⟨w.heap.size, 0, none⟩) j j) (List.replicate j 0#8) := by
  rw [← zs_eq]
  refine ⟨by simp, .inr ⟨w.heap.size, j, _, by simp, hB, Blk.new w _ _, by simp, by unfold maxLen; omega, by simp, ?_⟩⟩
  simp
theorem slice_h8q (w : World) (p : Option Addr) (m c k : Nat) (h2 : k ≤ c) :
    (Instr.sliceAt 27 (.slice p m c) none (some (.int .i64 (k : Int))) none).run Try.prog w = .ok (.slice p k c) w := by
  have hu : Try.prog.underlying 27 = some (.slice (Try.prog.elem 27)) := by kernel_rfl
  have hs : (sizeOf (Try.prog.elem 27)).run Try.prog w = .ok 1 w := by kernel_rfl
  rw [run_sliceAt_slice w _ _ _ _ _ hu, run_slice_h w _ _ _ _ hu _ _ (by omega) (by omega)]
  rw [hs]
  have e : p.map (fun x => x.add 0) = p := by
    cases p with
    | none => rfl
    | some a => rw [Option.map_some, addr_add0]
  simp [Result.andThen, sliced, e]
theorem Dat.takec {B g : Nat} {w : World} {p : Option Addr} {n c k : Nat} {s : Bs} (h : Dat B g w (.slice p n c) s) (hk : k ≤ n) : Dat B g w (.slice p k c) (s.take k) := by
  obtain ⟨⟨p', n', c', e, h1, h2, h3, h4, h5⟩, h6⟩ := h
  injection e with e1 e2 e3
  subst e1 e2 e3
  exact ⟨⟨p, k, c, rfl, by rw [List.length_take]; omega, by omega, h3, h4.take k, h5⟩, fun h0 j hj => h6 (fun e => h0 (by rw [e, List.take_nil])) j (by rw [own_slice] at hj ⊢; exact hj)⟩
theorem cell2 {w : World} {g : Nat} {t : TypeId} {a b : Value} (h : Blk w g t #[a, b]) : w.cell? ⟨g, 0, none⟩ = some a ∧ w.cell? ⟨g, 1, none⟩ = some b ∧ w.frozen? ⟨g, 0, none⟩ = false ∧ w.frozen? ⟨g, 1, none⟩ = false := by
  refine ⟨?_, ?_, h.frozen 0, h.frozen 1⟩
  · have := h.cell 0; simpa using this
  · have := h.cell 1; simpa using this

set_option maxRecDepth 100000 in
set_option maxHeartbeats 4000000 in
theorem rsTake_any (B g k : Nat) (hk : k ≤ 1000) (w : World) (er : Int) (s : Bs) (h : RsAt B g w er s) :
    Calls Try.prog 38 #[.pointer (some ⟨g, 0, none⟩), .int .i64 (k : Int)] w (SkP B g w (takeZ k) er s fun w' a v => Dat B g w' v a ∧ a.length = k) := by
  obtain ⟨v, h1, h2, h3, h4, h5⟩ := h
  obtain ⟨p, n, c, rfl, hn, hnc, hcm, hr, hp⟩ := h2.open
  obtain ⟨c0, c1, f0, f1⟩ := cell2 h1
  have HD := Lib.hid h2
  have H1 := Lib.hid h1
  have HN := Lib.hid hn
  have HS := Lib.hid h3
  by_cases he : er = 0
  · subst he
    by_cases hkn : n < k
    · have hz : takeZ k s = .error 50 := takeZ_short (by omega)
      have HZ := Lib.hid hz
      have hlt : (n : Int) < (k : Int) := by omega
      have hmk := fun w => make8z w k (by omega)
      have c1' := (cell2 (by simpa using h1.set 1 (.int .i64 50) : Blk (w.setCell ⟨g, 1, none⟩ (.int .i64 50)) g 79 #[.slice p n c, .int .i64 50])).2.1
      clear hz h2 hr hp h1 hn h3
      go_enter Try.func38, Try.ntmps38
      go_wp2
      go_ret
      have hm : RsAt B g (w.setCell ⟨g, 1, none⟩ (.int .i64 50)) 50 s := RsAt.mark H1.out HD.out HS.out h4 h5
      have hb := below_new (w.setCell ⟨g, 1, none⟩ (.int .i64 50)) (.cells (Array.replicate k (u8 0#8)) 5)
      have ho := own_z (w.setCell ⟨g, 1, none⟩ (.int .i64 50)) B k (by simpa using h5) (by omega)
      rw [show (w.setCell ⟨g, 1, none⟩ (.int .i64 50)).heap.size = w.heap.size by simp] at ho
      refine ⟨_, List.replicate k 0#8, 50, s, rfl, ⟨Dat.own ho h4, by simp⟩, Lib.hid (hm.fut hb), Lib.hid ((Stays.set w g 1 _).trans (Stays.of_below hb (Nat.le_refl _) (· = g)) fun k _ h => h), Lib.hid (Step.err HZ.out (by decide))⟩
    · have hz : takeZ k s = .ok (s.take k, s.drop k) := by unfold takeZ; rw [if_neg (by omega)]
      have HZ := Lib.hid hz
      have hlt : ¬ (n : Int) < (k : Int) := by omega
      have s1 := slice_h8q w p n c k (by omega)
      have s2 := slice_cut8 w p n c k (by omega)
      have HT := Lib.hid (h2.takec (k := k) (by omega))
      have HC := Lib.hid (h2.cut (k := k) (by omega))
      clear hz h2 hr hp h1 hn h3
      go_enter Try.func38, Try.ntmps38
      go_wp2
      go_ret
      exact ⟨_, s.take k, 0, s.drop k, rfl, ⟨HT.out.stays (Stays.set w g 0 _) (fun k hk => .inl hk), by rw [List.length_take]; have := HN.out; omega⟩, Lib.hid (RsAt.move H1.out HC.out (by rw [List.length_drop]; have := HS.out; omega) h4 h5), Lib.hid (Stays.set w g 0 _), Lib.hid (Step.ok HZ.out)⟩
  · have hb1 : (er == 0) = false := by rw [beq_eq_false_iff_ne]; exact he
    have HE := Lib.hid he
    have hmk := fun w => make8z w k (by omega)
    clear h2 hr hp h1 hn h3 he
    go_enter Try.func38, Try.ntmps38
    go_wp2
    go_ret
    have hb := below_new w (.cells (Array.replicate k (u8 0#8)) 5)
    exact ⟨_, List.replicate k 0#8, er, s, rfl, ⟨Dat.own (own_z _ B k h5 (by omega)) h4, by simp⟩, Lib.hid (RsAt.fut ⟨_, H1.out, HD.out, HS.out, h4, h5⟩ hb), Lib.hid (Stays.of_below hb (Nat.le_refl _) _), Lib.hid (Step.bad HE.out)⟩

set_option maxRecDepth 100000 in
set_option maxHeartbeats 4000000 in
theorem rsLow_any (B g k : Nat) (hk : k ≤ 8) (w : World) (er : Int) (s : Bs) (h : RsAt B g w er s) :
    Calls Try.prog 37 #[.pointer (some ⟨g, 0, none⟩), .int .i64 (k : Int)] w (SkP B g w (numZ k) er s fun w' a v => v = .int .u64 (iv64 a)) := by
  have hcall := rsTake_any B g k (by omega) w er s h
  clear h
  go_enter Try.func37, Try.ntmps37
  go_wp2_with fail
  refine hcall.mono ?_
  rintro e w1 ⟨v, a, er', r, rfl, ⟨hd, hl⟩, HR, HS, HT⟩
  obtain ⟨p, n, c, rfl, hn, hnc, hcm, hr, hp⟩ := hd.open
  have hnum := number_any p n c a w1 hr hn (by omega)
  have hkn : k = n := by omega
  subst hkn
  clear hd hn hr hp hl hcall
  go_wp2_with fail
  refine hnum.mono ?_
  rintro e w2 ⟨rfl, hw⟩
  replace hw := hw.symm
  subst hw
  go_wp2_with fail
  go_ret
  exact ⟨_, numTo a k, er', r, rfl, rfl, HR, HS, Lib.hid (HT.out.bind (Step.ret _ _ _))⟩

set_option maxRecDepth 100000 in
set_option maxHeartbeats 4000000 in
theorem rsCount_any (B g most : Nat) (hm : most ≤ 2000) (w : World) (er : Int) (s : Bs) (h : RsAt B g w er s) :
    Calls Try.prog 39 #[.pointer (some ⟨g, 0, none⟩), .int .i64 (most : Int)] w (SkP B g w (cntZ most) er s fun w' a v => v = .int .i64 (a : Int) ∧ a ≤ most) := by
  obtain ⟨v, h1, h2, h3, h4, h5⟩ := h
  obtain ⟨p, n, c, rfl, hn, hnc, hcm, hr, hp⟩ := h2.open
  obtain ⟨c0, c1, f0, f1⟩ := cell2 h1
  have HD := Lib.hid h2
  have H1 := Lib.hid h1
  have HS := Lib.hid h3
  by_cases he : er = 0
  case neg =>
    have hb1 : (er == 0) = false := by rw [beq_eq_false_iff_ne]; exact he
    have HE := Lib.hid he
    clear h2 hr hp h1 hn h3 he
    go_enter Try.func39, Try.ntmps39
    go_wp2
    go_ret
    exact ⟨_, 0, er, s, rfl, ⟨rfl, Nat.zero_le _⟩, Lib.hid ⟨_, H1.out, HD.out, HS.out, h4, h5⟩, Lib.hid (Stays.refl _ _), Lib.hid (Step.bad HE.out)⟩
  subst he
  have hcall := refDecode_any p n c s w hr hn hnc (by omega)
  have hle := cutP_short s
  have hz : ∀ x : BitVec 64 × Bs × Int, x = cutP s → cntZ most s = if x.2.2 ≠ 0 then .error x.2.2 else if most < x.1.toNat then .error 4 else .ok (x.1.toNat, x.2.1) := fun x hx => by rw [hx]; rfl
  obtain ⟨x, hx⟩ : ∃ x, x = cutP s := ⟨_, rfl⟩
  rw [← hx] at hcall hle
  replace hz := hz x hx
  obtain ⟨cn, r, k⟩ := x
  simp only at hz hle
  unfold DecPost at hcall
  simp only at hcall
  have HZ := Lib.hid hz
  have HLE := Lib.hid hle
  have hcn : iv64 cn = (cn.toNat : Int) := rfl
  rw [hcn] at hcall
  have hc64 := cn.isLt
  obtain ⟨m, hm'⟩ : ∃ m, m = cn.toNat := ⟨_, rfl⟩
  rw [← hm'] at hcall hc64 HZ
  clear hx hz hle h1 h2 hr hn hp hcn hm'
  by_cases hk : k = 0
  case neg =>
    have hb1 : (k == 0) = false := by rw [beq_eq_false_iff_ne]; exact hk
    have HK := Lib.hid hk
    clear hk
    go_enter Try.func39, Try.ntmps39
    go_wp2_with fail
    refine hcall.mono ?_
    rintro e w1 ⟨v2, rfl, ho2, hb2⟩
    have hg1 := H1.out.fut hb2
    obtain ⟨d0, d1, g0, g1⟩ := cell2 hg1
    have HG1 := Lib.hid hg1
    have HB := Lib.hid hb2
    clear ho2 hcall hg1 hb2
    go_wp2_with fail
    go_ret
    have hsz := HB.out.size
    exact ⟨_, 0, k, s, rfl, ⟨rfl, Nat.zero_le _⟩, Lib.hid (RsAt.mark HG1.out (HD.out.stays (Stays.of_below HB.out (Nat.le_refl _) (fun _ => False)) (fun _ h => h.elim)) HS.out h4 (by omega)), Lib.hid ((Stays.of_below HB.out (Nat.le_refl _) (· = g)).trans (Stays.set w1 g 1 _) fun k _ h => h), Lib.hid (Step.err (by rw [HZ.out, if_pos HK.out]) HK.out)⟩
  subst hk
  by_cases hbig : most < m
  · have hlt : (most : Int) < (m : Int) := by omega
    have HBG := Lib.hid hbig
    clear hbig
    go_enter Try.func39, Try.ntmps39
    go_wp2_with fail
    refine hcall.mono ?_
    rintro e w1 ⟨v2, rfl, ho2, hb2⟩
    have hg1 := H1.out.fut hb2
    obtain ⟨d0, d1, g0, g1⟩ := cell2 hg1
    have HG1 := Lib.hid hg1
    have HB := Lib.hid hb2
    clear ho2 hcall hg1 hb2
    go_wp2_with fail
    go_ret
    have hsz := HB.out.size
    exact ⟨_, 0, 4, s, rfl, ⟨rfl, Nat.zero_le _⟩, Lib.hid (RsAt.mark HG1.out (HD.out.stays (Stays.of_below HB.out (Nat.le_refl _) (fun _ => False)) (fun _ h => h.elim)) HS.out h4 (by omega)), Lib.hid ((Stays.of_below HB.out (Nat.le_refl _) (· = g)).trans (Stays.set w1 g 1 _) fun k _ h => h), Lib.hid (Step.err (by rw [HZ.out, if_neg (by decide), if_pos HBG.out]) (by decide))⟩
  · have hlt : ¬ (most : Int) < (m : Int) := by omega
    have HBG := Lib.hid hbig
    have hm3 : m ≤ 2000 := by omega
    clear hbig
    go_enter Try.func39, Try.ntmps39
    go_wp2_with fail
    refine hcall.mono ?_
    rintro e w1 ⟨v2, rfl, ho2, hb2⟩
    have hg1 := H1.out.fut hb2
    obtain ⟨d0, d1, g0, g1⟩ := cell2 hg1
    obtain ⟨q2, m2, c2, rfl, _⟩ := Own8.open ho2
    have HO2 : Hid (Own8 w1 B (.slice q2 m2 c2) r) := Lib.hid (ownsRow_mono ho2 h5)
    have HG1 := Lib.hid hg1
    have HB := Lib.hid hb2
    clear ho2 hcall hg1 hb2
    go_wp2_with fail
    go_ret
    have hsz := HB.out.size
    refine ⟨_, m, 0, r, ?_, ⟨rfl, by have := HBG.out; omega⟩, Lib.hid (RsAt.move HG1.out (Dat.own HO2.out h4) (by have := HLE.out; have := HS.out; omega) h4 (by omega)), Lib.hid ((Stays.of_below HB.out (Nat.le_refl _) (· = g)).trans (Stays.set w1 g 0 _) fun k _ h => h), Lib.hid (Step.ok (by rw [HZ.out, if_neg (by decide), if_neg HBG.out]))⟩
    rfl

set_option maxRecDepth 100000 in
set_option maxHeartbeats 4000000 in
theorem rsText_any (B g : Nat) (w : World) (er : Int) (s : Bs) (h : RsAt B g w er s) :
    Calls Try.prog 42 #[.pointer (some ⟨g, 0, none⟩)] w (SkP B g w textZ er s fun w' a v => Own8 w' B v a) := by
  obtain ⟨v, h1, h2, h3, h4, h5⟩ := h
  obtain ⟨p, n, c, rfl, hn, hnc, hcm, hr, hp⟩ := h2.open
  obtain ⟨c0, c1, f0, f1⟩ := cell2 h1
  have HD := Lib.hid h2
  have H1 := Lib.hid h1
  have HS := Lib.hid h3
  by_cases he : er = 0
  case neg =>
    have hb1 : (er == 0) = false := by rw [beq_eq_false_iff_ne]; exact he
    have HE := Lib.hid he
    clear h2 hr hp h1 hn h3 he
    go_enter Try.func42, Try.ntmps42
    go_wp2
    go_ret
    exact ⟨_, [], er, s, rfl, own_none _ _, Lib.hid ⟨_, H1.out, HD.out, HS.out, h4, h5⟩, Lib.hid (Stays.refl _ _), Lib.hid (Step.bad HE.out)⟩
  subst he
  have hcall := refReadText_any p n c s 10000 w hr hn hnc (by omega) (by omega) (by omega)
  have hz := textZ_eq s
  have hle : (textP s 10000).2.1.length ≤ s.length := by
    have := cutP_short s
    unfold textP
    split
    · simp
    · split
      · simp
      · split
        · simp
        · simp; omega
  have hla : (textP s 10000).1.length ≤ s.length := by
    have := cutP_short s
    unfold textP
    split
    · simp
    · split
      · simp
      · split
        · simp
        · simp; omega
  obtain ⟨x, hx⟩ : ∃ x, x = textP s 10000 := ⟨_, rfl⟩
  rw [← hx] at hcall hz hle hla
  obtain ⟨a, r, k⟩ := x
  simp only at hz hle hla
  unfold RefReadPost at hcall
  simp only at hcall
  have HZ := Lib.hid hz
  have HLE := Lib.hid hle
  have HLA := Lib.hid hla
  clear hx hz hle h1 h2 hr hn hp hla
  by_cases hk : k = 0
  case neg =>
    have hb1 : (k == 0) = false := by rw [beq_eq_false_iff_ne]; exact hk
    have HK := Lib.hid hk
    clear hk
    go_enter Try.func42, Try.ntmps42
    go_wp2_with fail
    refine hcall.mono ?_
    rintro e w1 ⟨q, d, v2, rfl, hqd, hra, ho2, hb2⟩
    have hg1 := H1.out.fut hb2
    obtain ⟨d0, d1, g0, g1⟩ := cell2 hg1
    have HG1 := Lib.hid hg1
    have HB := Lib.hid hb2
    clear ho2 hcall hg1 hb2 hra
    go_wp2_with fail
    go_ret
    have hsz := HB.out.size
    exact ⟨_, [], k, s, rfl, own_none _ _, Lib.hid (RsAt.mark HG1.out (HD.out.stays (Stays.of_below HB.out (Nat.le_refl _) (fun _ => False)) (fun _ h => h.elim)) HS.out h4 (by omega)), Lib.hid ((Stays.of_below HB.out (Nat.le_refl _) (· = g)).trans (Stays.set w1 g 1 _) fun k _ h => h), Lib.hid (Step.err (by rw [HZ.out, if_neg HK.out]) HK.out)⟩
  subst hk
  go_enter Try.func42, Try.ntmps42
  go_wp2_with fail
  refine hcall.mono ?_
  rintro e w1 ⟨q, d, v2, rfl, hqd, hra, ho2, hb2⟩
  have hg1 := H1.out.fut hb2
  obtain ⟨d0, d1, g0, g1⟩ := cell2 hg1
  obtain ⟨q2, m2, c2, rfl, _⟩ := Own8.open ho2
  have HO2 : Hid (Own8 w1 B (.slice q2 m2 c2) r) := Lib.hid (ownsRow_mono ho2 h5)
  have HG1 := Lib.hid hg1
  have HB := Lib.hid hb2
  have HRA := Lib.hid hra
  obtain ⟨j, hj⟩ : ∃ j, j = a.length := ⟨_, rfl⟩
  rw [← hj] at hqd ⊢
  have HJ := Lib.hid hj
  have hsz := HB.out.size
  clear ho2 hcall hg1 hb2 hra hj
  go_upto_region 8 with fail
  have hs2 := Stays.set w1 g 0 (.slice q2 m2 c2)
  have HR2 : Hid (RsAt B g (w1.setCell ⟨g, 0, none⟩ (.slice q2 m2 c2)) 0 r) := Lib.hid (RsAt.move HG1.out (Dat.own HO2.out h4) (by have := HLE.out; have := HS.out; omega) h4 (by omega))
  have HS2 : Hid (Stays (· = g) w (w1.setCell ⟨g, 0, none⟩ (.slice q2 m2 c2))) := Lib.hid ((Stays.of_below HB.out (Nat.le_refl _) (· = g)).trans hs2 fun k _ h => h)
  have HRA2 : Hid (Row8 (w1.setCell ⟨g, 0, none⟩ (.slice q2 m2 c2)) q a) := Lib.hid (HRA.out.stays hs2 (fun h0 x hx hg => by
    have hg' : x.block = g := hg
    obtain ⟨b, o, e, _, hc⟩ := HRA.out h0
    rw [e] at hx
    injection hx with hx
    subst hx
    have hbg : b = g := hg'
    subst hbg
    obtain ⟨y, hy⟩ : ∃ y, a[0]? = some y := by
      cases a with
      | nil => exact absurd rfl h0
      | cons y _ => exact ⟨y, rfl⟩
    have h1 := hc 0 y hy
    rw [HG1.out.cell] at h1
    match o, h1 with
    | 0, h1 => cases h1
    | 1, h1 => cases h1
    | n + 2, h1 => cases h1))
  have hsz2 : B ≤ (w1.setCell ⟨g, 0, none⟩ (.slice q2 m2 c2)).heap.size := by have := hs2.size; omega
  clear hs2 HO2 HG1 HB HRA d0 d1 g0 g1
  generalize w1.setCell ⟨g, 0, none⟩ (.slice q2 m2 c2) = w3 at *
  have ho3 := own_lit0 w3 B hsz2
  have hb3 := below_new w3 (.cells #[] 5)
  have hr3 : Row8 (w3.alloc (.cells #[] 5)) q a := HRA2.out.fut hb3
  have hs3 : B ≤ (w3.alloc (.cells #[] 5)).heap.size := by rw [World.size_alloc]; omega
  have hbr := Below.refl B (w3.alloc (.cells #[] 5))
  go_wp2_with ((with_reducible refine wp_append8 (o := ⟨some 32, _, _, _, _, _⟩) ?_ (.tmp 30) (.tmp 31) ?_ (B) _ ([]) ?_ (ho3) (q) (j) (d) (a) ?_ (HJ.out.symm) (hr3) ?_ (hs3) (B) ((w3.alloc (.cells #[] 5))) (hbr) ?_ ?_
                · rfl
                · rfl
                · rfl
                · rfl
                · simp only [List.length_nil]; have := HLA.out; have := HS.out; omega
                · exact Nat.le_refl _
                intro v5 w5 ho5 hb5 hg5 hj5))
  go_ret
  have hst : Stays (fun _ => False) w3 w5 := ((Stays.of_below hb3 (Nat.le_refl _) (fun k => (Value.slice (some ⟨w3.heap.size, 0, none⟩) 0 0).ownBlock = some k)).trans (Stays.of_grown hg5 fun k h => h) (fun k _ h => h)).mono fun k hk h => by
    injection h with h
    have h' : w3.heap.size = k := h
    omega
  refine ⟨_, a, 0, r, rfl, ho5, Lib.hid (HR2.out.stays hst (fun _ h => h.elim) id), Lib.hid (HS2.out.trans hst fun _ _ h => h.elim), Lib.hid (Step.ok (by rw [HZ.out, if_pos trivial]))⟩
end Go.Proofs.Ythglocpbdfcfnaa
