/- sporranref07's reader, which keeps its first error: take, low, count, text. · sporranref07's reader: an input, an output. · sporranref07.has; what is still to be read. · sporranref07.Decode: the walk. · sporranlaw07.TxOnce: the walk.  -/
import Derived.Deep.MidRow
import Derived.Deep.CutBlock
import Derived.Deep.DeepCutAuto
import Derived.Test.YtndobjlodpkknaaAGD
import Derived.Test.YtndobjlodpkknaaAGB
namespace Go.Proofs.Ytndobjlodpkknaa
open Go Go.RowKit
set_option linter.unusedVariables false
def Step {α : Type} (p : Pz α) (er : Int) (s : Bs) (a : α) (er' : Int) (r : Bs) : Prop :=
  if er = 0 then (match p s with
    | .ok (a', r') => er' = 0 ∧ a = a' ∧ r = r'
    | .error k => er' = k ∧ k ≠ 0) else er' = er
theorem Step.ret {α : Type} (a : α) (er : Int) (s : Bs) : Step (Pz.ret a) er s a er s := by
  unfold Step
  split
  · rename_i h; exact ⟨h, rfl, rfl⟩
  · rfl
theorem Step.bind {α β : Type} {p : Pz α} {f : α → Pz β} {er er1 er2 : Int} {s s1 s2 : Bs} {a : α} {b : β} (h : Step p er s a er1 s1) (h2 : Step (f a) er1 s1 b er2 s2) : Step (p.bind f) er s b er2 s2 := by
  unfold Step at h h2 ⊢
  by_cases he : er = 0
  · rw [if_pos he] at h ⊢
    cases hp : p s with
    | error k =>
      rw [hp] at h
      simp only at h
      rw [if_neg (by rw [h.1]; exact h.2)] at h2
      rw [Pz.bind_err hp]
      exact ⟨h2.trans h.1, h.2⟩
    | ok x =>
      obtain ⟨a', r'⟩ := x
      rw [hp] at h
      simp only at h
      obtain ⟨h3, rfl, rfl⟩ := h
      rw [if_pos h3] at h2
      rw [Pz.bind_ok hp]
      exact h2
  · rw [if_neg he] at h ⊢
    rw [if_neg (by rw [h]; exact he)] at h2
    rw [h2, h]
theorem Step.ok {α : Type} {p : Pz α} {s r : Bs} {a : α} (h : p s = .ok (a, r)) : Step p 0 s a 0 r := by unfold Step; rw [if_pos rfl, h]; exact ⟨rfl, rfl, rfl⟩
theorem Step.err {α : Type} {p : Pz α} {s r : Bs} {a : α} {k : Int} (h : p s = .error k) (hk : k ≠ 0) : Step p 0 s a k r := by unfold Step; rw [if_pos rfl, h]; exact ⟨rfl, hk⟩
theorem Step.bad {α : Type} {p : Pz α} {s r : Bs} {a : α} {er : Int} (h : er ≠ 0) : Step p er s a er r := by unfold Step; rw [if_neg h]
def RsAt (B g : Nat) (w : World) (er : Int) (s : Bs) : Prop := ∃ v, Blk w g 132 #[v, .int .i64 er] ∧ Dat B g w v s ∧ s.length ≤ 140737488355328 ∧ g < B ∧ B ≤ w.heap.size
theorem RsAt.stays {B g : Nat} {w w' : World} {er : Int} {s : Bs} {S : Nat → Prop} (h : RsAt B g w er s) (hs : Stays S w w') (hS : Rw B g w S) (hg : ¬ S g) : RsAt B g w' er s := by
  obtain ⟨v, h1, h2, h3, h4, h5⟩ := h
  exact ⟨v, h1.stays hs hg, h2.stays hs hS, h3, h4, Nat.le_trans h5 hs.size⟩
theorem RsAt.fut {B g : Nat} {w w' : World} {er : Int} {s : Bs} (h : RsAt B g w er s) (hb : Below w.heap.size w w') : RsAt B g w' er s :=
  h.stays (Stays.of_below hb (Nat.le_refl _) (fun _ => False)) (fun _ h => h.elim) id
theorem RsAt.move {B g : Nat} {w : World} {v v' : Value} {er : Int} {s' : Bs} (h : Blk w g 132 #[v, .int .i64 er]) (hd : Dat B g w v' s') (hl : s'.length ≤ 140737488355328) (hg : g < B) (hB : B ≤ w.heap.size) : RsAt B g (w.setCell ⟨g, 0, none⟩ v') er s' := by
  refine ⟨v', ?_, hd.stays (Stays.set w g 0 v') (fun k hk => .inl hk), hl, hg, by simpa using hB⟩
  have := h.set 0 v'
  simpa using this
theorem RsAt.mark {B g : Nat} {w : World} {v : Value} {er k : Int} {s : Bs} (h : Blk w g 132 #[v, .int .i64 er]) (hd : Dat B g w v s) (hl : s.length ≤ 140737488355328) (hg : g < B) (hB : B ≤ w.heap.size) : RsAt B g (w.setCell ⟨g, 1, none⟩ (.int .i64 k)) k s := by
  refine ⟨v, ?_, hd.stays (Stays.set w g 1 (.int .i64 k)) (fun k hk => .inl hk), hl, hg, by simpa using hB⟩
  have := h.set 1 (.int .i64 k)
  simpa using this
def SkP {α : Type} (B g : Nat) (w : World) (p : Pz α) (er : Int) (s : Bs) (V : World → α → Value → Prop) (e : Ending) (w' : World) : Prop :=
  ∃ v a er' r, e = .returned v ∧ V w' a v ∧ Hid (RsAt B g w' er' r) ∧ Hid (Stays (· = g) w w') ∧ Hid (Step p er s a er' r)
theorem zs_eq (j : Nat) : ((List.replicate j 0#8).map u8).toArray = Array.replicate j (u8 0#8) := by simp
theorem make8z (w : World) (j : Nat) (h : j ≤ 140737488355328) : (Instr.makeSlice 22 (.int .i64 (j : Int)) (.int .i64 (j : Int))).run Try.prog w = .ok (.slice (some ⟨w.heap.size, 0, none⟩) j j) (w.alloc (.cells (Array.replicate j (u8 0#8)) 5)) := by
  obtain ⟨i0, hi, hz0, hz1, hz2⟩ := info_parts u8info
  have hr := run_make (P := Try.prog) w 22 5 i0 (.int .u8 0) Try.underlying22 hi hz0 .i64 .i64 (j : Int) (j : Int) (by omega) (Int.le_refl _) (by rw [hz2]; omega) (by omega)
  rw [hr, Int.toNat_natCast, hz1, Nat.mul_one]
  have e : madeCells (Value.int IntKind.u8 0).cells j = Array.replicate j (u8 0#8) := by
    unfold madeCells
    refine Array.ext (by simp) fun i h1 h2 => ?_
    simp [Value.cells, u8, iv8, Nat.mod_one]
  rw [e]
theorem own_z (w : World) (B j : Nat) (hB : B ≤ w.heap.size) (hj : j ≤ 140737488355328) : Own8 (w.alloc (.cells (Array.replicate j (u8 0#8)) 5)) B (.slice (some ⟨w.heap.size, 0, none⟩) j j) (List.replicate j 0#8) := by
  rw [← zs_eq]
  refine ⟨by simp, .inr ⟨w.heap.size, j, _, by simp, hB, Blk.new w _ _, by simp, by unfold maxLen; omega, by simp, ?_⟩⟩
  simp
theorem slice_h8q (w : World) (p : Option Addr) (m c k : Nat) (h2 : k ≤ c) :
    (Instr.sliceAt 22 (.slice p m c) none (some (.int .i64 (k : Int))) none).run Try.prog w = .ok (.slice p k c) w := by
  have hu : Try.prog.underlying 22 = some (.slice (Try.prog.elem 22)) := by kernel_rfl
  have hs : (sizeOf (Try.prog.elem 22)).run Try.prog w = .ok 1 w := by kernel_rfl
  rw [run_sliceAt_slice w _ _ _ _ _ hu, run_slice_h w _ _ _ _ hu _ _ (by omega) (by omega)]
  rw [hs]
  have e : p.map (fun x => x.add 0) = p := by
    cases p with
    | none => rfl
    | some a => rw [Option.map_some, addr_add0]
  simp [Result.andThen, sliced, e]
theorem Dat.takec {B g : Nat} {w : World} {p : Option Addr} {n c k : Nat} {s : Bs} (h : Dat B g w (.slice p n c) s) (hk : k ≤ n) : Dat B g w (.slice p k c) (s.take k) := by
  obtain ⟨⟨p', n', c', e, h1, h2, h3, h4, h5⟩, h6⟩ := h
  injection e with e1 e2 e3
  subst e1 e2 e3
  exact ⟨⟨p, k, c, rfl, by rw [List.length_take]; omega, by omega, h3, h4.take k, h5⟩, fun h0 j hj => h6 (fun e => h0 (by rw [e, List.take_nil])) j (by rw [own_slice] at hj ⊢; exact hj)⟩
theorem cell2 {w : World} {g : Nat} {t : TypeId} {a b : Value} (h : Blk w g t #[a, b]) : w.cell? ⟨g, 0, none⟩ = some a ∧ w.cell? ⟨g, 1, none⟩ = some b ∧ w.frozen? ⟨g, 0, none⟩ = false ∧ w.frozen? ⟨g, 1, none⟩ = false := by
  refine ⟨?_, ?_, h.frozen 0, h.frozen 1⟩
  · have := h.cell 0; simpa using this
  · have := h.cell 1; simpa using this
set_option maxRecDepth 100000 in
set_option maxHeartbeats 4000000 in
theorem rsTake_any (B g k : Nat) (hk : k ≤ 1000) (w : World) (er : Int) (s : Bs) (h : RsAt B g w er s) :
    Calls Try.prog 78 #[.pointer (some ⟨g, 0, none⟩), .int .i64 (k : Int)] w (SkP B g w (takeZ k) er s fun w' a v => Dat B g w' v a ∧ a.length = k) := by
  obtain ⟨v, h1, h2, h3, h4, h5⟩ := h
  obtain ⟨p, n, c, rfl, hn, hnc, hcm, hr, hp⟩ := h2.open
  obtain ⟨c0, c1, f0, f1⟩ := cell2 h1
  have HD := Lib.hid h2
  have H1 := Lib.hid h1
  have HN := Lib.hid hn
  have HS := Lib.hid h3
  by_cases he : er = 0
  · subst he
    by_cases hkn : n < k
    · have hz : takeZ k s = .error 50 := takeZ_short (by omega)
      have HZ := Lib.hid hz
      have hlt : (n : Int) < (k : Int) := by omega
      have hmk := fun w => make8z w k (by omega)
      have c1' := (cell2 (by simpa using h1.set 1 (.int .i64 50) : Blk (w.setCell ⟨g, 1, none⟩ (.int .i64 50)) g 132 #[.slice p n c, .int .i64 50])).2.1
      clear hz h2 hr hp h1 hn h3
      go_enter Try.func78, Try.ntmps78
      go_wp2
      go_ret
      have hm : RsAt B g (w.setCell ⟨g, 1, none⟩ (.int .i64 50)) 50 s := RsAt.mark H1.out HD.out HS.out h4 h5
      have hb := below_new (w.setCell ⟨g, 1, none⟩ (.int .i64 50)) (.cells (Array.replicate k (u8 0#8)) 5)
      have ho := own_z (w.setCell ⟨g, 1, none⟩ (.int .i64 50)) B k (by simpa using h5) (by omega)
      rw [show (w.setCell ⟨g, 1, none⟩ (.int .i64 50)).heap.size = w.heap.size by simp] at ho
      refine ⟨_, List.replicate k 0#8, 50, s, rfl, ⟨Dat.own ho h4, by simp⟩, Lib.hid (hm.fut hb), Lib.hid ((Stays.set w g 1 _).trans (Stays.of_below hb (Nat.le_refl _) (· = g)) fun k _ h => h), Lib.hid (Step.err HZ.out (by decide))⟩
    · have hz : takeZ k s = .ok (s.take k, s.drop k) := by unfold takeZ; rw [if_neg (by omega)]
      have HZ := Lib.hid hz
      have hlt : ¬ (n : Int) < (k : Int) := by omega
      have s1 := slice_h8q w p n c k (by omega)
      have s2 := slice_cut8 w p n c k (by omega)
      have HT := Lib.hid (h2.takec (k := k) (by omega))
      have HC := Lib.hid (h2.cut (k := k) (by omega))
      clear hz h2 hr hp h1 hn h3
      go_enter Try.func78, Try.ntmps78
      go_wp2
      go_ret
      exact ⟨_, s.take k, 0, s.drop k, rfl, ⟨HT.out.stays (Stays.set w g 0 _) (fun k hk => .inl hk), by rw [List.length_take]; have := HN.out; omega⟩, Lib.hid (RsAt.move H1.out HC.out (by rw [List.length_drop]; have := HS.out; omega) h4 h5), Lib.hid (Stays.set w g 0 _), Lib.hid (Step.ok HZ.out)⟩
  · have hb1 : (er == 0) = false := by rw [beq_eq_false_iff_ne]; exact he
    have HE := Lib.hid he
    have hmk := fun w => make8z w k (by omega)
    clear h2 hr hp h1 hn h3 he
    go_enter Try.func78, Try.ntmps78
    go_wp2
    go_ret
    have hb := below_new w (.cells (Array.replicate k (u8 0#8)) 5)
    exact ⟨_, List.replicate k 0#8, er, s, rfl, ⟨Dat.own (own_z _ B k h5 (by omega)) h4, by simp⟩, Lib.hid (RsAt.fut ⟨_, H1.out, HD.out, HS.out, h4, h5⟩ hb), Lib.hid (Stays.of_below hb (Nat.le_refl _) _), Lib.hid (Step.bad HE.out)⟩
set_option maxRecDepth 100000 in
set_option maxHeartbeats 4000000 in
theorem rsLow_any (B g k : Nat) (hk : k ≤ 8) (w : World) (er : Int) (s : Bs) (h : RsAt B g w er s) :
    Calls Try.prog 77 #[.pointer (some ⟨g, 0, none⟩), .int .i64 (k : Int)] w (SkP B g w (numZ k) er s fun w' a v => v = .int .u64 (iv64 a)) := by
  have hcall := rsTake_any B g k (by omega) w er s h
  clear h
  go_enter Try.func77, Try.ntmps77
  go_wp2_with fail
  refine hcall.mono ?_
  rintro e w1 ⟨v, a, er', r, rfl, ⟨hd, hl⟩, HR, HS, HT⟩
  obtain ⟨p, n, c, rfl, hn, hnc, hcm, hr, hp⟩ := hd.open
  have hnum := number_any p n c a w1 hr hn (by omega)
  have hkn : k = n := by omega
  subst hkn
  clear hd hn hr hp hl hcall
  go_wp2_with fail
  refine hnum.mono ?_
  rintro e w2 ⟨rfl, hw⟩
  replace hw := hw.symm
  subst hw
  go_wp2_with fail
  go_ret
  exact ⟨_, numTo a k, er', r, rfl, rfl, HR, HS, Lib.hid (HT.out.bind (Step.ret _ _ _))⟩
set_option maxRecDepth 100000 in
set_option maxHeartbeats 4000000 in
theorem rsCount_any (B g most : Nat) (hm : most ≤ 2000) (w : World) (er : Int) (s : Bs) (h : RsAt B g w er s) :
    Calls Try.prog 79 #[.pointer (some ⟨g, 0, none⟩), .int .i64 (most : Int)] w (SkP B g w (cntZ most) er s fun w' a v => v = .int .i64 (a : Int) ∧ a ≤ most) := by
  obtain ⟨v, h1, h2, h3, h4, h5⟩ := h
  obtain ⟨p, n, c, rfl, hn, hnc, hcm, hr, hp⟩ := h2.open
  obtain ⟨c0, c1, f0, f1⟩ := cell2 h1
  have HD := Lib.hid h2
  have H1 := Lib.hid h1
  have HS := Lib.hid h3
  by_cases he : er = 0
  case neg =>
    have hb1 : (er == 0) = false := by rw [beq_eq_false_iff_ne]; exact he
    have HE := Lib.hid he
    clear h2 hr hp h1 hn h3 he
    go_enter Try.func79, Try.ntmps79
    go_wp2
    go_ret
    exact ⟨_, 0, er, s, rfl, ⟨rfl, Nat.zero_le _⟩, Lib.hid ⟨_, H1.out, HD.out, HS.out, h4, h5⟩, Lib.hid (Stays.refl _ _), Lib.hid (Step.bad HE.out)⟩
  subst he
  have hcall := refDecode_any p n c s w hr hn hnc (by omega)
  have hle := cutP_short s
  have hz : ∀ x : BitVec 64 × Bs × Int, x = cutP s → cntZ most s = if x.2.2 ≠ 0 then .error x.2.2 else if most < x.1.toNat then .error 4 else .ok (x.1.toNat, x.2.1) := fun x hx => by rw [hx]; rfl
  obtain ⟨x, hx⟩ : ∃ x, x = cutP s := ⟨_, rfl⟩
  rw [← hx] at hcall hle
  replace hz := hz x hx
  obtain ⟨cn, r, k⟩ := x
  simp only at hz hle
  unfold DecPost at hcall
  simp only at hcall
  have HZ := Lib.hid hz
  have HLE := Lib.hid hle
  have hcn : iv64 cn = (cn.toNat : Int) := rfl
  rw [hcn] at hcall
  have hc64 := cn.isLt
  obtain ⟨m, hm'⟩ : ∃ m, m = cn.toNat := ⟨_, rfl⟩
  rw [← hm'] at hcall hc64 HZ
  clear hx hz hle h1 h2 hr hn hp hcn hm'
  by_cases hk : k = 0
  case neg =>
    have hb1 : (k == 0) = false := by rw [beq_eq_false_iff_ne]; exact hk
    have HK := Lib.hid hk
    clear hk
    go_enter Try.func79, Try.ntmps79
    go_wp2_with fail
    refine hcall.mono ?_
    rintro e w1 ⟨v2, rfl, ho2, hb2⟩
    have hg1 := H1.out.fut hb2
    obtain ⟨d0, d1, g0, g1⟩ := cell2 hg1
    have HG1 := Lib.hid hg1
    have HB := Lib.hid hb2
    clear ho2 hcall hg1 hb2
    go_wp2_with fail
    go_ret
    have hsz := HB.out.size
    exact ⟨_, 0, k, s, rfl, ⟨rfl, Nat.zero_le _⟩, Lib.hid (RsAt.mark HG1.out (HD.out.stays (Stays.of_below HB.out (Nat.le_refl _) (fun _ => False)) (fun _ h => h.elim)) HS.out h4 (by omega)), Lib.hid ((Stays.of_below HB.out (Nat.le_refl _) (· = g)).trans (Stays.set w1 g 1 _) fun k _ h => h), Lib.hid (Step.err (by rw [HZ.out, if_pos HK.out]) HK.out)⟩
  subst hk
  by_cases hbig : most < m
  · have hlt : (most : Int) < (m : Int) := by omega
    have HBG := Lib.hid hbig
    clear hbig
    go_enter Try.func79, Try.ntmps79
    go_wp2_with fail
    refine hcall.mono ?_
    rintro e w1 ⟨v2, rfl, ho2, hb2⟩
    have hg1 := H1.out.fut hb2
    obtain ⟨d0, d1, g0, g1⟩ := cell2 hg1
    have HG1 := Lib.hid hg1
    have HB := Lib.hid hb2
    clear ho2 hcall hg1 hb2
    go_wp2_with fail
    go_ret
    have hsz := HB.out.size
    exact ⟨_, 0, 4, s, rfl, ⟨rfl, Nat.zero_le _⟩, Lib.hid (RsAt.mark HG1.out (HD.out.stays (Stays.of_below HB.out (Nat.le_refl _) (fun _ => False)) (fun _ h => h.elim)) HS.out h4 (by omega)), Lib.hid ((Stays.of_below HB.out (Nat.le_refl _) (· = g)).trans (Stays.set w1 g 1 _) fun k _ h => h), Lib.hid (Step.err (by rw [HZ.out, if_neg (by decide), if_pos HBG.out]) (by decide))⟩
  · have hlt : ¬ (most : Int) < (m : Int) := by omega
    have HBG := Lib.hid hbig
    have hm3 : m ≤ 2000 := by omega
    clear hbig
    go_enter Try.func79, Try.ntmps79
    go_wp2_with fail
    refine hcall.mono ?_
    rintro e w1 ⟨v2, rfl, ho2, hb2⟩
    have hg1 := H1.out.fut hb2
    obtain ⟨d0, d1, g0, g1⟩ := cell2 hg1
    obtain ⟨q2, m2, c2, rfl, _⟩ := Own8.open ho2
    have HO2 : Hid (Own8 w1 B (.slice q2 m2 c2) r) := Lib.hid (ownsRow_mono ho2 h5)
    have HG1 := Lib.hid hg1
    have HB := Lib.hid hb2
    clear ho2 hcall hg1 hb2
    go_wp2_with fail
    go_ret
    have hsz := HB.out.size
    refine ⟨_, m, 0, r, ?_, ⟨rfl, by have := HBG.out; omega⟩, Lib.hid (RsAt.move HG1.out (Dat.own HO2.out h4) (by have := HLE.out; have := HS.out; omega) h4 (by omega)), Lib.hid ((Stays.of_below HB.out (Nat.le_refl _) (· = g)).trans (Stays.set w1 g 0 _) fun k _ h => h), Lib.hid (Step.ok (by rw [HZ.out, if_neg (by decide), if_neg HBG.out]))⟩
    rfl
set_option maxRecDepth 100000 in
set_option maxHeartbeats 4000000 in
theorem rsText_any (B g : Nat) (w : World) (er : Int) (s : Bs) (h : RsAt B g w er s) :
    Calls Try.prog 82 #[.pointer (some ⟨g, 0, none⟩)] w (SkP B g w textZ er s fun w' a v => Own8 w' B v a) := by
  obtain ⟨v, h1, h2, h3, h4, h5⟩ := h
  obtain ⟨p, n, c, rfl, hn, hnc, hcm, hr, hp⟩ := h2.open
  obtain ⟨c0, c1, f0, f1⟩ := cell2 h1
  have HD := Lib.hid h2
  have H1 := Lib.hid h1
  have HS := Lib.hid h3
  by_cases he : er = 0
  case neg =>
    have hb1 : (er == 0) = false := by rw [beq_eq_false_iff_ne]; exact he
    have HE := Lib.hid he
    clear h2 hr hp h1 hn h3 he
    go_enter Try.func82, Try.ntmps82
    go_wp2
    go_ret
    exact ⟨_, [], er, s, rfl, own_none _ _, Lib.hid ⟨_, H1.out, HD.out, HS.out, h4, h5⟩, Lib.hid (Stays.refl _ _), Lib.hid (Step.bad HE.out)⟩
  subst he
  have hcall := refReadText_any p n c s 10000 w hr hn hnc (by omega) (by omega) (by omega)
  have hz := textZ_eq s
  have hle : (textP s 10000).2.1.length ≤ s.length := by
    have := cutP_short s
    unfold textP
    split
    · simp
    · split
      · simp
      · split
        · simp
        · simp; omega
  have hla : (textP s 10000).1.length ≤ s.length := by
    have := cutP_short s
    unfold textP
    split
    · simp
    · split
      · simp
      · split
        · simp
        · simp; omega
  obtain ⟨x, hx⟩ : ∃ x, x = textP s 10000 := ⟨_, rfl⟩
  rw [← hx] at hcall hz hle hla
  obtain ⟨a, r, k⟩ := x
  simp only at hz hle hla
  unfold RefReadPost at hcall
  simp only at hcall
  have HZ := Lib.hid hz
  have HLE := Lib.hid hle
  have HLA := Lib.hid hla
  clear hx hz hle h1 h2 hr hn hp hla
  by_cases hk : k = 0
  case neg =>
    have hb1 : (k == 0) = false := by rw [beq_eq_false_iff_ne]; exact hk
    have HK := Lib.hid hk
    clear hk
    go_enter Try.func82, Try.ntmps82
    go_wp2_with fail
    refine hcall.mono ?_
    rintro e w1 ⟨q, d, v2, rfl, hqd, hra, ho2, hb2⟩
    have hg1 := H1.out.fut hb2
    obtain ⟨d0, d1, g0, g1⟩ := cell2 hg1
    have HG1 := Lib.hid hg1
    have HB := Lib.hid hb2
    clear ho2 hcall hg1 hb2 hra
    go_wp2_with fail
    go_ret
    have hsz := HB.out.size
    exact ⟨_, [], k, s, rfl, own_none _ _, Lib.hid (RsAt.mark HG1.out (HD.out.stays (Stays.of_below HB.out (Nat.le_refl _) (fun _ => False)) (fun _ h => h.elim)) HS.out h4 (by omega)), Lib.hid ((Stays.of_below HB.out (Nat.le_refl _) (· = g)).trans (Stays.set w1 g 1 _) fun k _ h => h), Lib.hid (Step.err (by rw [HZ.out, if_neg HK.out]) HK.out)⟩
  subst hk
  go_enter Try.func82, Try.ntmps82
  go_wp2_with fail
  refine hcall.mono ?_
  rintro e w1 ⟨q, d, v2, rfl, hqd, hra, ho2, hb2⟩
  have hg1 := H1.out.fut hb2
  obtain ⟨d0, d1, g0, g1⟩ := cell2 hg1
  obtain ⟨q2, m2, c2, rfl, _⟩ := Own8.open ho2
  have HO2 : Hid (Own8 w1 B (.slice q2 m2 c2) r) := Lib.hid (ownsRow_mono ho2 h5)
  have HG1 := Lib.hid hg1
  have HB := Lib.hid hb2
  have HRA := Lib.hid hra
  obtain ⟨j, hj⟩ : ∃ j, j = a.length := ⟨_, rfl⟩
  rw [← hj] at hqd ⊢
  have HJ := Lib.hid hj
  have hsz := HB.out.size
  clear ho2 hcall hg1 hb2 hra hj
  go_upto_region 8 with fail
  have hs2 := Stays.set w1 g 0 (.slice q2 m2 c2)
  have HR2 : Hid (RsAt B g (w1.setCell ⟨g, 0, none⟩ (.slice q2 m2 c2)) 0 r) := Lib.hid (RsAt.move HG1.out (Dat.own HO2.out h4) (by have := HLE.out; have := HS.out; omega) h4 (by omega))
  have HS2 : Hid (Stays (· = g) w (w1.setCell ⟨g, 0, none⟩ (.slice q2 m2 c2))) := Lib.hid ((Stays.of_below HB.out (Nat.le_refl _) (· = g)).trans hs2 fun k _ h => h)
  have HRA2 : Hid (Row8 (w1.setCell ⟨g, 0, none⟩ (.slice q2 m2 c2)) q a) := Lib.hid (HRA.out.stays hs2 (fun h0 x hx hg => by
    have hg' : x.block = g := hg
    obtain ⟨b, o, e, _, hc⟩ := HRA.out h0
    rw [e] at hx
    injection hx with hx
    subst hx
    have hbg : b = g := hg'
    subst hbg
    obtain ⟨y, hy⟩ : ∃ y, a[0]? = some y := by
      cases a with
      | nil => exact absurd rfl h0
      | cons y _ => exact ⟨y, rfl⟩
    have h1 := hc 0 y hy
    rw [HG1.out.cell] at h1
    match o, h1 with
    | 0, h1 => cases h1
    | 1, h1 => cases h1
    | n + 2, h1 => cases h1))
  have hsz2 : B ≤ (w1.setCell ⟨g, 0, none⟩ (.slice q2 m2 c2)).heap.size := by have := hs2.size; omega
  clear hs2 HO2 HG1 HB HRA d0 d1 g0 g1
  generalize w1.setCell ⟨g, 0, none⟩ (.slice q2 m2 c2) = w3 at *
  have ho3 := own_lit0 w3 B hsz2
  have hb3 := below_new w3 (.cells #[] 5)
  have hr3 : Row8 (w3.alloc (.cells #[] 5)) q a := HRA2.out.fut hb3
  have hs3 : B ≤ (w3.alloc (.cells #[] 5)).heap.size := by rw [World.size_alloc]; omega
  have hbr := Below.refl B (w3.alloc (.cells #[] 5))
  go_wp2_with ((with_reducible refine wp_append8 (o := ⟨some 32, _, _, _, _, _⟩) ?_ (.tmp 30) (.tmp 31) ?_ (B) _ ([]) ?_ (ho3) (q) (j) (d) (a) ?_ (HJ.out.symm) (hr3) ?_ (hs3) (B) ((w3.alloc (.cells #[] 5))) (hbr) ?_ ?_
                · rfl
                · rfl
                · rfl
                · rfl
                · simp only [List.length_nil]; have := HLA.out; have := HS.out; omega
                · exact Nat.le_refl _
                intro v5 w5 ho5 hb5 hg5 hj5))
  go_ret
  have hst : Stays (fun _ => False) w3 w5 := ((Stays.of_below hb3 (Nat.le_refl _) (fun k => (Value.slice (some ⟨w3.heap.size, 0, none⟩) 0 0).ownBlock = some k)).trans (Stays.of_grown hg5 fun k h => h) (fun k _ h => h)).mono fun k hk h => by
    injection h with h
    have h' : w3.heap.size = k := h
    omega
  refine ⟨_, a, 0, r, rfl, ho5, Lib.hid (HR2.out.stays hst (fun _ h => h.elim) id), Lib.hid (HS2.out.trans hst fun _ _ h => h.elim), Lib.hid (Step.ok (by rw [HZ.out, if_pos trivial]))⟩
end Go.Proofs.Ytndobjlodpkknaa
namespace Go.Proofs.Ytndobjlodpkknaa
open Go Go.RowKit
set_option linter.unusedVariables false
theorem wrapi64 (v : BitVec 64) : wrap64 (iv64 v) = v.toInt := by
  have h := v.isLt
  have e : iv64 v = (v.toNat : Int) := rfl
  rw [e, BitVec.toInt_eq_toNat_cond]
  unfold wrap64
  split <;> omega
def ZInL : List Value := List.replicate 32 (Value.int .u8 0) ++ [Value.int .u32 0, Value.slice none 0 0, Value.int .u32 0, Value.slice none 0 0]
theorem splice_in (id : Bs) (h : id.length = 32) : splice ZInL 0 ((id.take 32).map u8) = inCells id 0#32 (.slice none 0 0) (.int .u32 0) (.slice none 0 0) := by
  rw [List.take_of_length_le (by omega)]
  unfold splice inCells hCells ZInL
  rw [List.take_zero, List.nil_append, List.length_map, h]
  rfl
theorem inCells_set32 (id : Bs) (h : id.length = 32) (ix ix' : BitVec 32) (sc sq wi : Value) : (inCells id ix sc sq wi).toArray.setIfInBounds 32 (.int .u32 (iv32 ix')) = (inCells id ix' sc sq wi).toArray := by
  have hl : (hCells id).length = 32 := by simp [hCells, h]
  unfold inCells
  rw [List.setIfInBounds_toArray, List.set_append_right _ _ (by omega), hl]
  rfl
def InN (B : Nat) (w : World) (x : TIn) (cs : List Value) : Prop := InO B w x cs ∧ (x.wi = [] → cs[35]? = some (.slice none 0 0))
theorem inN_keeps (B : Nat) : KeepsO B [5, 22] (InN B) := fun w w' S x cs h hs hp => ⟨inO_keeps B w w' S x cs h.1 hs hp, h.2⟩
theorem InN.len {B : Nat} {w : World} {x : TIn} {cs : List Value} (h : InN B w x cs) : cs.length = 36 := h.1.len
theorem InN.one {B : Nat} {w : World} {x : TIn} {cs : List Value} (h : InN B w x cs) : cs.toArray.all (·.oneCell') = true := h.1.one
theorem InN.c {B : Nat} {w : World} {x : TIn} {cs : List Value} (h : InN B w x cs) : InC w x cs := h.1.c
set_option maxRecDepth 100000 in
set_option maxHeartbeats 8000000 in
theorem rsIn_any (B g : Nat) (w : World) (er : Int) (s : Bs) (h : RsAt B g w er s) :
    Calls Try.prog 80 #[.pointer (some ⟨g, 0, none⟩)] w (SkP B g w inZ er s fun w' a v => (∃ cs, v = .agg cs.toArray ∧ InN B w' a cs) ∧ a.wi = []) := by
  have hgB : g < B := h.elim fun v h => h.2.2.2.1
  have hBw : B ≤ w.heap.size := h.elim fun v h => h.2.2.2.2
  have hz := zIn
  have hb1 := below_new w (.cells ZIn 82)
  have hb2 := below_new (w.alloc (.cells ZIn 82)) (.cells ZIn 82)
  have HR2 := Lib.hid ((h.fut hb1).fut hb2)
  have HB2 := Lib.hid ((Blk.new w 82 ZIn).fut hb2)
  have HB3 := Lib.hid (Blk.new (w.alloc (.cells ZIn 82)) 82 ZIn)
  have HS2 : Hid (Stays (· = g) w ((w.alloc (.cells ZIn 82)).alloc (.cells ZIn 82))) := Lib.hid (((Stays.refl (· = g) w).alloc _).alloc _)
  simp only [World.size_alloc] at HB3
  clear h hb1 hb2
  go_enter Try.func80, Try.ntmps80
  go_upto_region 2 with fail
  generalize (w.alloc (.cells ZIn 82)).alloc (.cells ZIn 82) = w2 at *
  obtain ⟨z3, hz3⟩ : ∃ z, z = w.heap.size + 1 := ⟨_, rfl⟩
  rw [← hz3] at HB3 ⊢
  have hzz : w.heap.size < z3 := by omega
  clear hz3 hz
  refine region_plan [qq 0, qq 1, qq 2, qq 3, oo 4, oo 5] (fun _ => True) (by kernel_rfl) (by kernel_rfl) trivial ?_
  refine' plan_quiet (s := 23) (A1 := _) [0, 1, 2, 3] [_, _, _, _] _ rfl rfl rfl (fun W hW => ?hq1) _ trivial (fun _ => ?hr1)
  case hq1 =>
    try simp only [List.getElem_toArray, List.getElem_cons_zero, List.getElem_cons_succ]
    iterate 4 (go_big_quiet_step (fail))
    refine wpQuiet_nil ?_
    rfl
  case hr1 =>
  refine plan_one rfl fun k1 => ?_
  have hdr : Below w2.heap.size w2 (w2.drew.drewN k1) := below_drewN (Below.refl _ _).drew k1
  have HRa := Lib.hid (HR2.out.fut hdr)
  have HB2a := Lib.hid (HB2.out.fut hdr)
  have HB3a := Lib.hid (HB3.out.fut hdr)
  have HSa := Lib.hid ((Stable.stays w).fut HS2.out hdr)
  clear HR2 HB2 HB3 HS2 hdr
  generalize w2.drew.drewN k1 = Wa at *
  go_wp2_with fail
  refine (rsTake_any B g 32 (by omega) Wa er s HRa.out).mono ?_
  rintro e Wb ⟨v, id, er1, r1, rfl, ⟨hd, hl⟩, HRb, HSb, HT1⟩
  obtain ⟨q, n, c, rfl, hn, hnc, hcm, hr, hp⟩ := hd.open
  obtain rfl : n = 32 := by omega
  have HB2b := Lib.hid (HB2a.out.stays HSb.out (by omega))
  have HB3b := Lib.hid (HB3a.out.stays HSb.out (by omega))
  have HSb' := Lib.hid (HSa.out.trans HSb.out fun k _ hk => hk)
  have HL := Lib.hid hl
  have HROW := Lib.hid hr
  clear hd hn hr hp hl HRa HB2a HB3a HSa HSb
  go_wp2_with fail
  refine planQ_normal (And.intro trivial ?_)
  refine plan_one rfl fun k2 => ?_
  have hdr := below_draws Wb k2
  have HRc := Lib.hid (HRb.out.fut hdr)
  have HB2c := Lib.hid (HB2b.out.fut hdr)
  have HB3c := Lib.hid (HB3b.out.fut hdr)
  have HSc := Lib.hid ((Stable.stays w).fut HSb'.out hdr)
  have HROWc := Lib.hid (HROW.out.fut hdr)
  clear HRb HB2b HB3b HSb' HROW hdr
  generalize Wb.drewN k2 = Wc at *
  refine wp_copy8g (o := ⟨some 9, _, _, _, _, _⟩) rfl (.tmp 6) (.tmp 8) 22 22 rfl 5 Try.underlying22 (by kernel_rfl) 32 32 32 c q id z3 0 rfl rfl HL.out HROWc.out ZInL 82 HB3c.out 32 rfl (by decide) ?_
  intro Wd hBd hgd hsd
  rw [splice_in id HL.out] at hBd
  have hst := Stays.of_grown (S := fun k => k = z3) hgd (fun k h => by injection h with h; exact h.symm)
  have HRd := Lib.hid (HRc.out.stays hst (rw_one HB3c.out (by omega) (by decide)) (by omega))
  have HB2d := Lib.hid (HB2c.out.stays hst (by omega))
  have HSd := Lib.hid (HSc.out.trans hst fun k h1 h2 => by omega)
  clear HRc HB2c HB3c HSc HROWc hst hgd hsd
  refine planQ_normal (And.intro trivial ?_)
  refine plan_end fun k3 => NoPanic.normal ?_
  have hdr := below_draws Wd k3
  have HRe := Lib.hid (HRd.out.fut hdr)
  have HB2e := Lib.hid (HB2d.out.fut hdr)
  have HB3e := Lib.hid (hBd.out.fut hdr)
  have HSe := Lib.hid ((Stable.stays w).fut HSd.out hdr)
  clear HRd HB2d hBd HSd hdr
  generalize Wd.drewN k3 = We at *
  go_wp2_with fail
  refine (rsLow_any B g 4 (by omega) We er1 r1 HRe.out).mono ?_
  rintro e W1 ⟨v, ix, er2, r2, rfl, hv, HR1, HS1, HT2⟩
  subst hv
  have ec := cut64_32 ix
  have hB2 := HB2e.out.stays HS1.out (by omega)
  have hB3 := HB3e.out.stays HS1.out (by omega)
  have f32 := hB3.frozen 32
  have c32 := hB3.cell 32
  rw [List.getElem?_toArray, inCells_at HL.out _ _ _ _ 0] at c32
  simp only [List.getElem?_cons_zero] at c32
  have HB2 := Lib.hid hB2
  have HB3 := Lib.hid hB3
  have HS' := Lib.hid (HSe.out.trans HS1.out fun k _ hk => hk)
  clear hB2 hB3 HRe HB2e HB3e HSe HS1
  go_upto_region 4 with fail
  have hst := Stays.set W1 z3 32 (.int .u32 (iv32 (ix.setWidth 32)))
  have HB3f : Hid (Blk (W1.setCell ⟨z3, 32, none⟩ (.int .u32 (iv32 (ix.setWidth 32)))) z3 82 (inCells id (ix.setWidth 32) (.slice none 0 0) (.int .u32 0) (.slice none 0 0)).toArray) := Lib.hid (by
    have := HB3.out.set 32 (.int .u32 (iv32 (ix.setWidth 32)))
    rwa [inCells_set32 id HL.out] at this)
  have HRf := Lib.hid (HR1.out.stays hst (rw_one HB3.out (by omega) (by decide)) (by omega))
  have HB2f := Lib.hid (HB2.out.stays hst (by omega))
  have HSf := Lib.hid (HS'.out.trans hst fun k h1 h2 => by omega)
  clear hst HR1 HB2 HB3 HS' c32 f32 ec
  generalize W1.setCell ⟨z3, 32, none⟩ (.int .u32 (iv32 (ix.setWidth 32))) = Wf at *
  go_wp2_with fail
  refine (rsText_any B g Wf er2 r2 HRf.out).mono ?_
  rintro e W3 ⟨v3, sc, er3, r3, rfl, ho3, HR3, HS3, HT3⟩
  obtain ⟨q3, n3, c3, rfl, _⟩ := Own8.open ho3
  have hB2 := HB2f.out.stays HS3.out (by omega)
  have hB3 := HB3f.out.stays HS3.out (by omega)
  have f33 := hB3.frozen 33
  have c33 := hB3.cell 33
  rw [List.getElem?_toArray, inCells_at HL.out _ _ _ _ 1] at c33
  simp only [List.getElem?_cons_zero, List.getElem?_cons_succ] at c33
  have HB2 := Lib.hid hB2
  have HB3 := Lib.hid hB3
  have HO3 : Hid (Own8 W3 B (.slice q3 n3 c3) sc) := Lib.hid ho3
  have HS' := Lib.hid (HSf.out.trans HS3.out fun k _ hk => hk)
  clear hB2 hB3 ho3 HRf HB2f HB3f HSf HS3
  go_upto_region 5 with fail
  have hst := Stays.set W3 z3 33 (.slice q3 n3 c3)
  have HB3g : Hid (Blk (W3.setCell ⟨z3, 33, none⟩ (.slice q3 n3 c3)) z3 82 (inCells id (ix.setWidth 32) (.slice q3 n3 c3) (.int .u32 0) (.slice none 0 0)).toArray) := Lib.hid (by
    have := HB3.out.set 33 (.slice q3 n3 c3)
    rwa [(inCells_set id HL.out _ _ _ _ _).1] at this)
  have HOg : Hid (Own8 (W3.setCell ⟨z3, 33, none⟩ (.slice q3 n3 c3)) B (.slice q3 n3 c3) sc) := Lib.hid (HO3.out.sep hst (sep_one HB3.out (by decide)))
  have HRg := Lib.hid (HR3.out.stays hst (rw_one HB3.out (by omega) (by decide)) (by omega))
  have HB2g := Lib.hid (HB2.out.stays hst (by omega))
  have HSg := Lib.hid (HS'.out.trans hst fun k h1 h2 => by omega)
  clear hst HR3 HB2 HB3 HS' c33 f33 HO3
  generalize W3.setCell ⟨z3, 33, none⟩ (.slice q3 n3 c3) = Wg at *
  go_wp2_with fail
  refine (rsLow_any B g 4 (by omega) Wg er3 r3 HRg.out).mono ?_
  rintro e W5 ⟨v, sq, er4, r4, rfl, hv, HR5, HS5, HT4⟩
  subst hv
  have ec := cut64_32 sq
  have hB2 := HB2g.out.stays HS5.out (by omega)
  have hB3 := HB3g.out.stays HS5.out (by omega)
  have f34 := hB3.frozen 34
  have c34 := hB3.cell 34
  rw [List.getElem?_toArray, inCells_at HL.out _ _ _ _ 2] at c34
  simp only [List.getElem?_cons_zero, List.getElem?_cons_succ] at c34
  have HO5 : Hid (Own8 W5 B (.slice q3 n3 c3) sc) := Lib.hid (HOg.out.sep HS5.out (Sep.low fun k hk => by have : k = g := hk; omega))
  have HB2 := Lib.hid hB2
  have HB3 := Lib.hid hB3
  have HS' := Lib.hid (HSg.out.trans HS5.out fun k _ hk => hk)
  clear hB2 hB3 HRg HB2g HB3g HSg HS5 HOg
  go_upto_region 6 with fail
  obtain ⟨sqv, hsqv⟩ : ∃ v, v = Value.int .u32 (iv32 (sq.setWidth 32)) := ⟨_, rfl⟩
  rw [← hsqv]
  have HQ := Lib.hid hsqv
  clear hsqv ec
  have hst6 := Stays.set W5 z3 34 sqv
  have HB6 : Hid (Blk (W5.setCell ⟨z3, 34, none⟩ sqv) z3 82 (inCells id (ix.setWidth 32) (.slice q3 n3 c3) sqv (.slice none 0 0)).toArray) := Lib.hid (by
    have := HB3.out.set 34 sqv
    rwa [(inCells_set id HL.out _ _ _ _ _).2.1] at this)
  have HO6 : Hid (Own8 (W5.setCell ⟨z3, 34, none⟩ sqv) B (.slice q3 n3 c3) sc) := Lib.hid (HO5.out.sep hst6 (sep_one HB3.out (by decide)))
  have HR6 := Lib.hid (HR5.out.stays hst6 (rw_one HB3.out (by omega) (by decide)) (by omega))
  have HB26 := Lib.hid (HB2.out.stays hst6 (by omega))
  have HS6 := Lib.hid (HS'.out.trans hst6 fun k h1 h2 => by omega)
  clear hst6 c34 f34 HR5 HO5 HB2 HB3 HS'
  generalize W5.setCell ⟨z3, 34, none⟩ sqv = W6 at *
  have l6 := blk_range HB6.out
  have hone : (inCells id (ix.setWidth 32) (.slice q3 n3 c3) sqv (.slice none 0 0)).toArray.all (·.oneCell') = true := inCells_one rfl (by rw [HQ.out]; rfl) rfl
  obtain ⟨cs, hcs⟩ : ∃ cs, cs = inCells id (ix.setWidth 32) (.slice q3 n3 c3) sqv (.slice none 0 0) := ⟨_, rfl⟩
  have hcl : cs.length = 36 := by rw [hcs]; exact inCells_len HL.out _ _ _ _
  rw [← hcs] at l6 hone
  have HCS := Lib.hid hcs
  have hzs := ZIn_size
  have HZS := Lib.hid hzs
  have HCL := Lib.hid hcl
  have hbr := Below.refl w.heap.size W6
  clear hcs hzs hcl
  go_wp2_with (first
    | (with_reducible refine wpList_load_mid (op := ⟨some 22, _, _, _, _, _⟩) ?_ 82 (.tmp 3) ?_ (z3) (0) ?_ (cs) _ (l6) Try.underlying82 ?_ ?_ ?_
       · rfl
       · rfl
       · rfl
       · rfl
       · exact ((info_Ins HCL.out)))
    | (with_reducible refine wp_store_blk (o := ⟨none, _, _, _, _, _⟩) ?_ 82 (.tmp 2) (.tmp 22) ?_ (w.heap.size) 82 (ZIn) (cs.toArray) ?_ ?_ (HB26.out) ?_ ?_ ?_ (w.heap.size) (W6) ?_ ?_ ?_
       · rfl
       · rfl
       · rfl
       · rfl
       · exact (by rw [List.size_toArray]; exact info_Ins HCL.out)
       · exact (HZS.out.trans (by rw [List.size_toArray]; exact HCL.out.symm))
       · exact (hone)
       · exact (hbr)
       · exact (Nat.le_refl _)
       intro W7 hB7 hb7 hg7 hs7))
  refine bodyPost_ret (results_cell1 rfl _ _ _ w.heap.size _ cs _ rfl hB7.out Try.underlying82 rfl (info_Ins HCL.out)) rfl ?_
  have hst7 := Stays.of_grown (S := fun k => k = w.heap.size) hg7.out (fun k h => by injection h with h; exact h.symm)
  refine ⟨_, ⟨id, ix.setWidth 32, sc, sq.setWidth 32, []⟩, er4, r4, rfl, ⟨⟨cs, rfl, ⟨.slice q3 n3 c3, .slice none 0 0, ?_, HL.out, HO6.out.sep hst7 (sep_one HB26.out (by decide)), RowO.nil _ _ _ _ _⟩, fun _ => by rw [HCS.out]; exact inCells_at HL.out _ _ _ _ 3⟩, rfl⟩, Lib.hid (HR6.out.stays hst7 (rw_one HB26.out hBw (by decide)) (by omega)), Lib.hid (HS6.out.trans hst7 fun k h1 h2 => by omega), Lib.hid ?_⟩
  · rw [HCS.out, HQ.out]
    rfl
  · unfold inZ
    exact HT1.out.bind (HT2.out.bind (HT3.out.bind (HT4.out.bind (Step.ret _ _ _))))
set_option maxRecDepth 100000 in
set_option maxHeartbeats 8000000 in
theorem rsOut_any (B g : Nat) (w : World) (er : Int) (s : Bs) (h : RsAt B g w er s) :
    Calls Try.prog 81 #[.pointer (some ⟨g, 0, none⟩)] w (SkP B g w outZ er s fun w' a v => ∃ cs, v = .agg cs.toArray ∧ OutO B w' a cs) := by
  have hgB : g < B := h.elim fun v h => h.2.2.2.1
  have hBw : B ≤ w.heap.size := h.elim fun v h => h.2.2.2.2
  have hz := zOut
  have HR1 := Lib.hid (h.fut (below_new w (.cells #[.int .i64 0, .slice none 0 0] 84)))
  have HB1 := Lib.hid (Blk.new w 84 #[.int .i64 0, .slice none 0 0])
  have HS1 : Hid (Stays (· = g) w (w.alloc (.cells #[.int .i64 0, .slice none 0 0] 84))) := Lib.hid (Stays.of_below (below_new w _) (Nat.le_refl _) _)
  clear h
  go_enter Try.func81, Try.ntmps81
  go_upto_region 1 with fail
  generalize w.alloc (.cells #[.int .i64 0, .slice none 0 0] 84) = w1 at *
  go_wp2_with fail
  refine (rsLow_any B g 8 (by omega) w1 er s HR1.out).mono ?_
  rintro e W2 ⟨v, n, er1, r1, rfl, hv, HR2, HS2, HT1⟩
  subst hv
  have HB2 := Lib.hid (HB1.out.stays HS2.out (by omega))
  have HS2' := Lib.hid (HS1.out.trans HS2.out fun k _ hk => hk)
  have hw := wrapi64 n
  obtain ⟨V, hV⟩ : ∃ V, V = n.toInt := ⟨_, rfl⟩
  rw [← hV] at hw
  have HV := Lib.hid hV
  obtain ⟨vr, d1, d2, d3, d4, d5⟩ := id HR2.out
  obtain ⟨c0, c1, f0, f1⟩ := cell2 d1
  have D1 := Lib.hid d1
  have D2 := Lib.hid d2
  have D3 := Lib.hid d3
  have hiv : iv64 n = (n.toNat : Int) := rfl
  have HIV := Lib.hid hiv
  clear HR1 HB1 HS1 HS2 hV d1 d2 d3 d4 hz hiv
  by_cases he : er1 = 0
  case neg =>
    have hb1 : (er1 == 0) = false := by rw [beq_eq_false_iff_ne]; exact he
    have HE := Lib.hid he
    clear he
    go_wp2_with fail
    refine (rsText_any B g W2 er1 r1 HR2.out).mono ?_
    rintro e W3 ⟨v3, sc, er3, r3, rfl, ho3, HR3, HS3, HT3⟩
    obtain ⟨q3, n3, c3, rfl, _⟩ := Own8.open ho3
    have HB3 := Lib.hid (HB2.out.stays HS3.out (by omega))
    have HO3 : Hid (Own8 W3 B (.slice q3 n3 c3) sc) := Lib.hid ho3
    have hbt := built_out (.int .i64 V) (.slice q3 n3 c3) rfl rfl V rfl q3 n3 c3 rfl
    have hbr := Below.refl w.heap.size W3
    clear ho3
    go_wp2_with (with_reducible refine wp_build (o := ⟨some 22, _, _, _, _, _⟩) ?_ 84 #[(0, .tmp 19), (1, .tmp 21)] ?_ [(0, .int .i64 V), (1, .slice q3 n3 c3)] ?_ #[.int .i64 V, .slice q3 n3 c3] hbt ?_
                 · rfl
                 · rfl
                 · rfl
                 refine wp_store_blk (o := ⟨none, _, _, _, _, _⟩) rfl 84 (.tmp 2) (.tmp 22) rfl w.heap.size 84 #[.int .i64 0, .slice none 0 0] #[.int .i64 V, .slice q3 n3 c3] rfl rfl HB3.out (info_Outs (cs := [.int .i64 V, .slice q3 n3 c3]) rfl) rfl (by rw [List.all_toArray]; rfl) w.heap.size W3 hbr (Nat.le_refl _) ?_
                 intro W7 hB7 hb7 hg7 hs7)
    refine bodyPost_ret (results_cell1 rfl _ _ _ w.heap.size _ [.int .i64 V, .slice q3 n3 c3] _ rfl hB7.out Try.underlying84 rfl (by kernel_rfl)) rfl ?_
    have hst7 := Stays.of_grown (S := fun k => k = w.heap.size) hg7.out (fun k h => by injection h with h; exact h.symm)
    refine ⟨_, ⟨n, sc⟩, er3, r3, rfl, ⟨_, rfl, .slice q3 n3 c3, by rw [HV.out], HO3.out.sep hst7 (sep_one HB3.out (by decide))⟩, Lib.hid (HR3.out.stays hst7 (rw_one HB3.out hBw (by decide)) (by omega)), Lib.hid ((HS2'.out.trans HS3.out fun k _ hk => hk).trans hst7 fun k h1 h2 => by omega), Lib.hid (HT1.out.bind ?_)⟩
    have h3 := HT3.out
    unfold Step at h3 ⊢
    rw [if_neg HE.out] at h3 ⊢
    exact h3
  subst he
  by_cases hbig : 9223372036854775808 ≤ n.toNat
  · have hge : (9223372036854775808 : Int) ≤ iv64 n := by have := HIV.out; omega
    have HBG := Lib.hid hbig
    clear hbig
    go_upto_region 4 with fail
    have hst := Stays.set W2 g 1 (.int .i64 51)
    have HRm : Hid (RsAt B g (W2.setCell ⟨g, 1, none⟩ (.int .i64 51)) 51 r1) := Lib.hid (RsAt.mark D1.out D2.out D3.out hgB d5)
    have HBm := Lib.hid (HB2.out.stays hst (by omega))
    have HSm := Lib.hid (HS2'.out.trans hst fun k _ h => h)
    clear hst hge c0 c1 f0 f1 D1 D2
    generalize W2.setCell ⟨g, 1, none⟩ (.int .i64 51) = Wm at *
    go_wp2_with fail
    refine (rsText_any B g Wm 51 r1 HRm.out).mono ?_
    rintro e W3 ⟨v3, sc, er3, r3, rfl, ho3, HR3, HS3, HT3⟩
    obtain ⟨q3, n3, c3, rfl, _⟩ := Own8.open ho3
    have HB3 := Lib.hid (HBm.out.stays HS3.out (by omega))
    have HO3 : Hid (Own8 W3 B (.slice q3 n3 c3) sc) := Lib.hid ho3
    have hbt := built_out (.int .i64 V) (.slice q3 n3 c3) rfl rfl V rfl q3 n3 c3 rfl
    have hbr := Below.refl w.heap.size W3
    clear ho3
    go_wp2_with (with_reducible refine wp_build (o := ⟨some 22, _, _, _, _, _⟩) ?_ 84 #[(0, .tmp 19), (1, .tmp 21)] ?_ [(0, .int .i64 V), (1, .slice q3 n3 c3)] ?_ #[.int .i64 V, .slice q3 n3 c3] hbt ?_
                 · rfl
                 · rfl
                 · rfl
                 refine wp_store_blk (o := ⟨none, _, _, _, _, _⟩) rfl 84 (.tmp 2) (.tmp 22) rfl w.heap.size 84 #[.int .i64 0, .slice none 0 0] #[.int .i64 V, .slice q3 n3 c3] rfl rfl HB3.out (info_Outs (cs := [.int .i64 V, .slice q3 n3 c3]) rfl) rfl (by rw [List.all_toArray]; rfl) w.heap.size W3 hbr (Nat.le_refl _) ?_
                 intro W7 hB7 hb7 hg7 hs7)
    refine bodyPost_ret (results_cell1 rfl _ _ _ w.heap.size _ [.int .i64 V, .slice q3 n3 c3] _ rfl hB7.out Try.underlying84 rfl (by kernel_rfl)) rfl ?_
    have hst7 := Stays.of_grown (S := fun k => k = w.heap.size) hg7.out (fun k h => by injection h with h; exact h.symm)
    refine ⟨_, ⟨n, sc⟩, er3, r3, rfl, ⟨_, rfl, .slice q3 n3 c3, by rw [HV.out], HO3.out.sep hst7 (sep_one HB3.out (by decide))⟩, Lib.hid (HR3.out.stays hst7 (rw_one HB3.out hBw (by decide)) (by omega)), Lib.hid ((HSm.out.trans HS3.out fun k _ hk => hk).trans hst7 fun k h1 h2 => by omega), Lib.hid (HT1.out.bind ?_)⟩
    have h3 := HT3.out
    unfold Step at h3 ⊢
    rw [if_neg (by decide)] at h3
    rw [if_pos rfl, if_pos HBG.out]
    exact ⟨h3, by decide⟩
  · have hge : decide ((9223372036854775808 : Int) ≤ iv64 n) = false := decide_eq_false (by have := HIV.out; omega)
    have HBG := Lib.hid hbig
    clear hbig
    go_upto_region 4 with fail
    clear hge
    go_wp2_with fail
    refine (rsText_any B g W2 0 r1 HR2.out).mono ?_
    rintro e W3 ⟨v3, sc, er3, r3, rfl, ho3, HR3, HS3, HT3⟩
    obtain ⟨q3, n3, c3, rfl, _⟩ := Own8.open ho3
    have HB3 := Lib.hid (HB2.out.stays HS3.out (by omega))
    have HO3 : Hid (Own8 W3 B (.slice q3 n3 c3) sc) := Lib.hid ho3
    have hbt := built_out (.int .i64 V) (.slice q3 n3 c3) rfl rfl V rfl q3 n3 c3 rfl
    have hbr := Below.refl w.heap.size W3
    clear ho3
    go_wp2_with (with_reducible refine wp_build (o := ⟨some 22, _, _, _, _, _⟩) ?_ 84 #[(0, .tmp 19), (1, .tmp 21)] ?_ [(0, .int .i64 V), (1, .slice q3 n3 c3)] ?_ #[.int .i64 V, .slice q3 n3 c3] hbt ?_
                 · rfl
                 · rfl
                 · rfl
                 refine wp_store_blk (o := ⟨none, _, _, _, _, _⟩) rfl 84 (.tmp 2) (.tmp 22) rfl w.heap.size 84 #[.int .i64 0, .slice none 0 0] #[.int .i64 V, .slice q3 n3 c3] rfl rfl HB3.out (info_Outs (cs := [.int .i64 V, .slice q3 n3 c3]) rfl) rfl (by rw [List.all_toArray]; rfl) w.heap.size W3 hbr (Nat.le_refl _) ?_
                 intro W7 hB7 hb7 hg7 hs7)
    refine bodyPost_ret (results_cell1 rfl _ _ _ w.heap.size _ [.int .i64 V, .slice q3 n3 c3] _ rfl hB7.out Try.underlying84 rfl (by kernel_rfl)) rfl ?_
    have hst7 := Stays.of_grown (S := fun k => k = w.heap.size) hg7.out (fun k h => by injection h with h; exact h.symm)
    refine ⟨_, ⟨n, sc⟩, er3, r3, rfl, ⟨_, rfl, .slice q3 n3 c3, by rw [HV.out], HO3.out.sep hst7 (sep_one HB3.out (by decide))⟩, Lib.hid (HR3.out.stays hst7 (rw_one HB3.out hBw (by decide)) (by omega)), Lib.hid ((HS2'.out.trans HS3.out fun k _ hk => hk).trans hst7 fun k h1 h2 => by omega), Lib.hid (HT1.out.bind ?_)⟩
    rw [if_neg HBG.out]
    exact HT3.out.bind (Step.ret _ _ _)
end Go.Proofs.Ytndobjlodpkknaa
namespace Go.Proofs.Ytndobjlodpkknaa
open Go Go.RowKit
set_option linter.unusedVariables false
def Cnt (R : Except Int (TTx × Bs)) (er : Int) (X : Except Int (TTx × Bs)) : Prop := if er = 0 then R = X else R = .error er
theorem Cnt.bind {α : Type} {R : Except Int (TTx × Bs)} {er er' : Int} {p : Pz α} {f : α → Pz TTx} {s r : Bs} {a : α} (h : Cnt R er (p.bind f s)) (h2 : Step p er s a er' r) : Cnt R er' (f a r) := by
  unfold Cnt Step at *
  by_cases he : er = 0
  · rw [if_pos he] at h h2
    cases hp : p s with
    | error k =>
      rw [hp] at h2
      simp only at h2
      obtain ⟨rfl, hk⟩ := h2
      rw [if_neg hk, h, Pz.bind_err hp]
    | ok x =>
      obtain ⟨a', r'⟩ := x
      rw [hp] at h2
      simp only at h2
      obtain ⟨rfl, rfl, rfl⟩ := h2
      rw [if_pos rfl, h, Pz.bind_ok hp]
  · rw [if_neg he] at h h2
    rw [h2, if_neg he, h]
theorem Cnt.any {R : Except Int (TTx × Bs)} {er : Int} {X Y : Except Int (TTx × Bs)} (h : Cnt R er X) (he : er ≠ 0) : Cnt R er Y := by
  unfold Cnt at *
  rw [if_neg he] at h ⊢
  exact h
theorem Cnt.same {R : Except Int (TTx × Bs)} {er : Int} {X Y : Except Int (TTx × Bs)} (h : Cnt R er X) (he : er = 0 → X = Y) : Cnt R er Y := by
  unfold Cnt at *
  by_cases h0 : er = 0
  · rw [if_pos h0] at h ⊢; rw [h, he h0]
  · rw [if_neg h0] at h ⊢; exact h
theorem Cnt.fail {R : Except Int (TTx × Bs)} {k : Int} {X : Except Int (TTx × Bs)} (h : Cnt R 0 X) (hX : X = .error k) (hk : k ≠ 0) (Y : Except Int (TTx × Bs)) : Cnt R k Y := by
  unfold Cnt at *
  rw [if_pos rfl] at h
  rw [if_neg hk, h, hX]
theorem bind_assoc {α β γ : Type} (p : Pz α) (f : α → Pz β) (g : β → Pz γ) (s : Bs) : (p.bind f).bind g s = p.bind (fun a => (f a).bind g) s := by
  unfold Pz.bind
  cases p s with
  | error e => rfl
  | ok x => rfl
theorem ifS_pos {α : Type} {c : Prop} [Decidable c] (h : c) (p q : Pz α) (s : Bs) : (if c then p else q) s = p s := by rw [if_pos h]
theorem ifS_neg {α : Type} {c : Prop} [Decidable c] (h : ¬ c) (p q : Pz α) (s : Bs) : (if c then p else q) s = q s := by rw [if_neg h]
set_option maxRecDepth 100000 in
set_option maxHeartbeats 8000000 in
theorem refHas_any (t : TTx) (cs : List Value) (w : World) (h : TxC w t cs) : Calls Try.prog 67 #[.agg cs.toArray] w fun e w' => e = .returned (.bool (hasWs t.is)) ∧ Below w.heap.size w w' := by
  obtain ⟨iv, ov, rfl, hi, ho⟩ := h
  obtain ⟨r, hr⟩ : ∃ r, r = hasWs t.is := ⟨_, rfl⟩
  rw [← hr]
  have HR := Lib.hid hr
  obtain ⟨pi, n, ci, rfl⟩ := hi.opens
  have HI := Lib.hid hi
  obtain ⟨hn, hnc, hcm⟩ := hi.slen
  obtain ⟨vv, hvv⟩ : ∃ v, v = u32 t.ve := ⟨_, rfl⟩
  obtain ⟨vl, hvl⟩ : ∃ v, v = u32 t.lo := ⟨_, rfl⟩
  rw [← hvv, ← hvl]
  have HN := Lib.hid hn
  have hb1 := below_new w (.cells #[vv, .slice pi n ci, ov, vl] 78)
  have HB1 := Lib.hid (Blk.new w 78 #[vv, .slice pi n ci, ov, vl])
  clear hr hi ho hn hvv hvl
  go_enter Try.func67, Try.ntmps67
  go_upto_region 1 with fail
  generalize w.alloc (.cells #[vv, .slice pi n ci, ov, vl] 78) = w1 at *
  have HW1 := Lib.hid hb1
  have c1 := HB1.out.cell 1
  simp only [List.getElem?_toArray, List.getElem?_cons_zero, List.getElem?_cons_succ] at c1
  go_upto_region 2 with fail
  clear c1 hb1
  go_loopw [8] (fun i wr => ∃ k : Nat, k ≤ n ∧ i = .int .i64 k ∧ Hid (Below w.heap.size w wr) ∧ Hid (hasWs (t.is.take k) = false)) (fun i _ => n - (intOf i).toNat)
  case atStart => exact ⟨0, by omega, rfl, HW1, Lib.hid rfl⟩
  case round =>
    obtain ⟨k, hk, rfl, HWk, HAk⟩ := hrel
    by_cases hkn : k < n
    · have hlt : (k : Int) < (n : Int) := by omega
      obtain ⟨b, off, cs, x, rfl, hx, hE, l2⟩ := HI.out.at HWk.out hkn
      obtain ⟨sv, wv, k32, k33, k34, k35, hsv, hwv⟩ := hE.cell
      obtain ⟨pw, nw, cw, rfl⟩ := hwv.opens
      obtain ⟨hnw, hnwc, hcwm⟩ := hwv.slen
      have HX := Lib.hid hx
      have HNW := Lib.hid hnw
      have K35 := Lib.hid k35
      have H3 := Lib.hid hE.len
      have H1 := Lib.hid hE.one
      obtain ⟨Z, hZl, hz⟩ := zeroIn
      have HZ := Lib.hid hZl
      have hbr := below_new wr (.cells Z 82)
      clear hx hE k32 k33 k34 k35 hsv hwv hnw hZl
      go_upto_region 4 with (first
        | (with_reducible refine wpList_load_mid (op := ⟨some 11, _, _, _, _, _⟩) ?_ 82 (.tmp 10) ?_ (b) (off + k * 36) ?_ (cs) _ (l2) Try.underlying82 ?_ ?_ ?_
           · rfl
           · rfl
           · rfl
           · rfl
           · exact ((info_Ins H3.out)))
        | (with_reducible refine wp_store_blk (o := ⟨none, _, _, _, _, _⟩) ?_ 82 (.tmp 4) (.tmp 11) ?_ (wr.heap.size) 82 (Z) (cs.toArray) ?_ ?_ (Blk.new wr _ _) ?_ ?_ ?_ (wr.heap.size) (wr) ?_ ?_ ?_
           · rfl
           · rfl
           · rfl
           · rfl
           · exact (by rw [List.size_toArray]; exact info_Ins H3.out)
           · exact (HZ.out.trans (by rw [List.size_toArray]; exact H3.out.symm))
           · exact (H1.out)
           · exact (hbr)
           · exact (Nat.le_refl _)
           intro w6 hB6 hb6 hg6 hs6))
      have HW6 := Lib.hid (below_fut HWk.out hb6 (Nat.le_refl _))
      have c35 := hB6.cell 35
      rw [List.getElem?_toArray, K35.out] at c35
      clear hb6 hg6 hs6 l2 hz hbr HWk
      by_cases hw : 0 < nw
      · have hlw : (0 : Int) < (nw : Int) := by omega
        go_wp2_with fail
        go_ret
        refine ⟨?_, HW6.out⟩
        have : hasWs t.is = true := any_hit _ t.is k x HX.out (decide_eq_true (by rw [HNW.out]; exact hw))
        rw [HR.out, this]
        rfl
      · have hlw : ¬ (0 : Int) < (nw : Int) := by omega
        have hAk : Hid (hasWs (t.is.take (k + 1)) = false) := Lib.hid (any_take _ t.is k (by have := HN.out; omega) x HX.out HAk.out (decide_eq_false (by rw [HNW.out]; exact hw)))
        go_wp2_with fail
        go_roundw
        case rel => exact ⟨k + 1, by omega, by go_num, HW6, hAk⟩
        case measure => simp [intOf]; omega
    · obtain rfl : k = n := by omega
      have hall := HAk.out
      rw [List.take_of_length_le (by have := HN.out; omega)] at hall
      have HALL := Lib.hid hall
      clear hall
      go_wp2_with fail
      go_ret
      refine ⟨?_, HWk.out⟩
      rw [HR.out, HALL.out]
      rfl
end Go.Proofs.Ytndobjlodpkknaa
namespace Go.Proofs.Ytndobjlodpkknaa
open Go Go.RowKit
set_option linter.unusedVariables false
def decOf (R : Except Int (TTx × Bs)) : TTx × Bs × Int := match R with
  | .ok (t, r) => (t, r, 0)
  | .error k => (⟨0#32, [], [], 0#32⟩, [], k)
theorem markZ_zero (r : Bs) : markZ (0#8 :: r) = (takeZ 2).bind (fun b => if b[1]? = some 1#8 then Pz.ret true else Pz.fail 51) (0#8 :: r) := by
  show (if (0#8 :: r)[0]? = some 0#8 then _ else _) = _
  exact if_pos rfl
theorem mark_short : markZ [0#8] = .error 50 := by rw [markZ_zero]; exact Pz.bind_err (takeZ_short (by decide))
theorem mark_ok (r : Bs) : markZ (0#8 :: 1#8 :: r) = .ok (true, r) := by
  have h : takeZ 2 (0#8 :: 1#8 :: r) = .ok ([0#8, 1#8], r) := takeZ_app (n := 2) [0#8, 1#8] r rfl
  rw [markZ_zero, Pz.bind_ok h]
  exact ifS_pos rfl _ _ _
theorem mark_bad (y : BitVec 8) (r : Bs) (h : y ≠ 1#8) : markZ (0#8 :: y :: r) = .error 51 := by
  have h2 : takeZ 2 (0#8 :: y :: r) = .ok ([0#8, y], r) := takeZ_app (n := 2) [0#8, y] r rfl
  rw [markZ_zero, Pz.bind_ok h2]
  exact ifS_neg (by simpa using h) _ _ _
def contP {α : Type} (xs : List α) (p : Pz α) (m : Nat) : Pz (List α) := fun s => contM xs p m s
theorem contP_start {α : Type} (p : Pz α) (n : Nat) : contP [] p n = manyZ p n := by
  funext s
  exact (contM_start p n s).symm
theorem contP_step {α β : Type} {R : Except Int (TTx × Bs)} {er er' : Int} {xs : List α} {p : Pz α} {m : Nat} {f : List α → Pz TTx} {s r : Bs} {a : α} (h : Cnt R er (((contP xs p (m + 1)).bind f) s)) (h2 : Step p er s a er' r) (_ : β) : Cnt R er' (((contP (xs ++ [a]) p m).bind f) r) := by
  have e : ((contP xs p (m + 1)).bind f) s = (p.bind fun a => (contP (xs ++ [a]) p m).bind f) s := by
    unfold Pz.bind contP
    cases hp : p s with
    | error k => rw [contM_bad hp]
    | ok x => obtain ⟨a', r'⟩ := x; rw [contM_ok hp]
  rw [e] at h
  exact h.bind h2
theorem own_sep {B : Nat} {w : World} {T N : Nat} {v : Value} {n : Nat} {xs : List Value} {Ts : List TypeId} (h : w.ownsRow B T N v n xs) (hT : T ∉ Ts) : Sep B Ts w (fun k => v.ownBlock = some k) := fun k hk => by
  rcases h.2 with ⟨rfl, _⟩ | ⟨q, cap, cur, rfl, hB, hh, _⟩
  · cases hk
  · injection hk with hk
    subst hk
    exact .inr ⟨T, cur, hh, hT⟩
theorem RowO.repoke {α : Type} {E : World → α → List Value → Prop} {T N B : Nat} {Ts : List TypeId} {w w' : World} {S : Nat → Prop} {b n c k j : Nat} {xs : List α} (h : RowO E T N B w (.slice (some ⟨b, 0, none⟩) n c) xs) (hE : KeepsO B Ts E) {x x' : α} {u : Value} {cur : Array Value}
    (hcur : Blk w b T cur) (hs : Stays S w w') (hp : Sep B Ts w S) (hb : Blk w' b T (cur.setIfInBounds (k * N + j) u)) (hx : xs[k]? = some x) (hj : j < N)
    (hx' : ∀ cs, E w x cs → cs.length = N → E w' x' (cs.set j u)) : RowO E T N B w' (.slice (some ⟨b, 0, none⟩) n c) (xs.set k x') := by
  obtain ⟨css, h1, h2, h3⟩ := h
  have hk : k < xs.length := (List.getElem?_eq_some_iff.1 hx).1
  have hl := css_len h1 h3
  rcases h2.2 with ⟨e, _⟩ | ⟨g, cap, cur0, e, hB, hh, hc1, hc2, hsz, htk⟩
  · cases e
  · injection e with e1 e2 e3
    injection e1 with e1
    injection e1 with e1
    subst e1 e2 e3
    obtain rfl : cur0 = cur := (Blk.inj (show Blk w b T cur0 from hh) hcur).2
    have hlt : k * N + j < xs.length * N := by
      have := Nat.mul_le_mul_right N (show k + 1 ≤ xs.length by omega)
      rw [Nat.succ_mul] at this
      omega
    obtain ⟨cs0, h40, h50, h60⟩ := h3 k x hx
    refine ⟨css.set k (cs0.set j u), by simp [h1], ⟨?_, .inr ⟨b, c, cur0.setIfInBounds (k * N + j) u, by simp, hB, hb, ?_, hc2, ?_, ?_⟩⟩, fun i y hy => ?_⟩
    · rw [← flat_set N css hl k cs0 h40 j hj u, List.length_set, List.length_set]
      exact h2.1
    · rw [List.length_set]; exact hc1
    · rw [Array.size_setIfInBounds]; exact hsz
    · rw [List.length_set, ← flat_set N css hl k cs0 h40 j hj u, ← htk, Array.toList_setIfInBounds, List.take_set]
    · by_cases hik : i = k
      · subst hik
        rw [List.getElem?_set_self hk] at hy
        injection hy with hy
        subst hy
        exact ⟨cs0.set j u, by rw [List.getElem?_set_self (by omega)], hx' cs0 h50 h60, by rw [List.length_set]; exact h60⟩
      · rw [List.getElem?_set_ne (by omega)] at hy
        obtain ⟨cs, h4, h5, h6⟩ := h3 i y hy
        exact ⟨cs, by rw [List.getElem?_set_ne (by omega)]; exact h4, hE _ _ _ _ _ h5 hs hp, h6⟩
theorem set_same {cur : Array Value} {i : Nat} {v : Value} (h : cur[i]? = some v) : cur.setIfInBounds i v = cur := by
  refine Array.ext (by simp) fun j h1 h2 => ?_
  rw [Array.getElem_setIfInBounds]
  split
  · rename_i hij
    subst hij
    rw [Array.getElem?_eq_getElem h2] at h
    injection h with h
    exact h.symm
  · rfl
theorem set_twice (cur : Array Value) (i : Nat) (u v : Value) : (cur.setIfInBounds i u).setIfInBounds i v = cur.setIfInBounds i v := by
  apply Array.ext'
  simp [Array.toList_setIfInBounds]
def contWP (xs ys : List TIn) : Pz (List TIn) := fun s => contW xs ys s
theorem contWP_start (ys : List TIn) : contWP [] ys = witsZ ys := by
  funext s
  exact (contW_start ys s).symm
theorem contWP_cons {xs rest : List TIn} {x : TIn} {f : List TIn → Pz TTx} (s : Bs) : ((contWP xs (x :: rest)).bind f) s = ((cntZ 100).bind fun n => (manyZ textZ n).bind fun ws => (contWP (xs ++ [{ x with wi := ws }]) rest).bind f) s := by
  have e : ((contWP xs (x :: rest)).bind f) s = ((partsZ 100 textZ).bind fun ws => (contWP (xs ++ [{ x with wi := ws }]) rest).bind f) s := by
    unfold Pz.bind contWP
    cases hp : partsZ 100 textZ s with
    | error k => rw [contW_bad hp]
    | ok y => obtain ⟨a, r⟩ := y; rw [contW_ok hp]
  rw [e]
  unfold partsZ
  exact bind_assoc _ _ _ _
def endZ (ve : BitVec 64) (m : Bool) (os : List TOut) (l : List TIn) : Pz TTx := (if (m && !hasWs l) = true then Pz.fail 51 else Pz.ret l).bind fun is' => (numZ 4).bind fun lo => Pz.ret ⟨ve.setWidth 32, is', os, lo.setWidth 32⟩
def tailZ (ve : BitVec 64) (os : List TOut) (l : List TIn) : Pz TTx := (numZ 4).bind fun lo => Pz.ret ⟨ve.setWidth 32, l, os, lo.setWidth 32⟩
theorem end_bad (ve : BitVec 64) (os : List TOut) (l : List TIn) (s : Bs) (h : hasWs l = false) : endZ ve true os l s = .error 51 := by
  unfold endZ
  refine Pz.bind_err ?_
  rw [h]
  rfl
theorem end_good (ve : BitVec 64) (m : Bool) (os : List TOut) (l : List TIn) (s : Bs) (h : ¬ (m = true ∧ hasWs l = false)) : endZ ve m os l s = tailZ ve os l s := by
  unfold endZ
  refine (Pz.bind_ok (a := l) (r := s) ?_)
  have : (m && !hasWs l) = false := by
    cases m
    · rfl
    · cases hw : hasWs l
      · exact absurd ⟨rfl, hw⟩ h
      · rfl
  rw [this]
  rfl
theorem results_tt {fn : Func} {p u v : Tmp} {ty : TypeId} (h : fn.results = #[.cell p ty, .tmp u, .tmp v]) (tmps : Array Value) (P : Program) (w : World) (g : Nat) (t : TypeId) (cs : List Value) (d : TypeDesc)
    (hp : tmps.getD p undef = .pointer (some ⟨g, 0, none⟩)) (hg : Blk w g t cs.toArray) (hu : P.underlying ty = some d) (hd : d.isRow = true) (hi : (P.info? ty).map (·.size) = some cs.length) :
    (results fn tmps).run P w = .ok (.tuple #[.agg cs.toArray, tmps.getD u undef, tmps.getD v undef]) w := by
  have hp' : tmps[p]?.getD undef = .pointer (some ⟨g, 0, none⟩) := by simpa using hp
  simp [results, h, hp', asAddr, run_loadVar_mid w g 0 ty cs d (blk_range hg) hu hd hi]
def lastZ (ve : BitVec 64) (m : Bool) (is : List TIn) (os : List TOut) : Pz TTx := (witZ m is).bind fun is' => (numZ 4).bind fun lo => Pz.ret ⟨ve.setWidth 32, is', os, lo.setWidth 32⟩
theorem last_false (ve : BitVec 64) (is : List TIn) (os : List TOut) (s : Bs) : lastZ ve false is os s = endZ ve false os is s := rfl
theorem last_true (ve : BitVec 64) (is : List TIn) (os : List TOut) (s : Bs) : lastZ ve true is os s = ((contWP [] is).bind (endZ ve true os)) s := by
  rw [contWP_start]
  unfold lastZ witZ
  rw [if_pos rfl, bind_assoc]
  unfold Pz.bind
  cases witsZ is s with
  | error e => rfl
  | ok y =>
    obtain ⟨l, r⟩ := y
    simp only
    unfold endZ Pz.bind
    cases hasWs l <;> rfl
def restZ (ve : BitVec 64) (m : Bool) (is : List TIn) : Pz TTx := (partsZ 2000 outZ).bind fun os => (witZ m is).bind fun is' => (numZ 4).bind fun lo => Pz.ret ⟨ve.setWidth 32, is', os, lo.setWidth 32⟩
theorem rest_last (ve : BitVec 64) (m : Bool) (is : List TIn) (s : Bs) : restZ ve m is s = ((cntZ 2000).bind (manyZ outZ)).bind (lastZ ve m is) s := rfl
theorem body_rest (ve : BitVec 64) (m : Bool) (s : Bs) : bodyZ ve m s = ((cntZ 2000).bind fun n => if n = 0 then Pz.fail 51 else manyZ inZ n).bind (restZ ve m) s := rfl
theorem take1 (x : BitVec 8) (r : Bs) : takeZ 1 (x :: r) = .ok ([x], r) := by unfold takeZ; rw [if_neg (by simp)]; rfl
theorem take1_nil : takeZ 1 [] = .error 50 := by unfold takeZ; rw [if_pos (by simp)]
set_option maxRecDepth 100000 in
set_option maxHeartbeats 16000000 in
theorem refTxDecode_any (p : Option Addr) (n c : Nat) (s : Bs) (w : World) (hr : Row8 w p s) (hn : s.length = n) (hl : n ≤ c) (hb : c ≤ 9223372036854775807) (hbig : n ≤ 140737488355328) (hp : p = none → c = 0) :
    Calls Try.prog 52 #[.slice p n c] w (DecTx w (txDecP s)) := by
  have hz := zTx
  obtain ⟨R, hR⟩ : ∃ R, R = txZ s := ⟨_, rfl⟩
  have hP : Hid (txDecP s = decOf R) := Lib.hid (by rw [hR]; rfl)
  obtain ⟨PP, hPP⟩ : ∃ P, P = txDecP s := ⟨_, rfl⟩
  rw [← hPP] at hP ⊢
  have C0 : Hid (Cnt R 0 (txZ s)) := Lib.hid (by unfold Cnt; rw [if_pos rfl]; exact hR)
  clear hR hPP
  go_enter Try.func52, Try.ntmps52
  go_upto_region 2 with fail
  have HB2 := Lib.hid ((Blk.new w 78 ZTx.toArray).alloc (.cells #[.slice p n c, .int .i64 0] 132))
  have HBg := Lib.hid (Blk.new (w.alloc (.cells ZTx.toArray 78)) 132 #[.slice p n c, .int .i64 0])
  have hbw : Below w.heap.size w ((w.alloc (.cells ZTx.toArray 78)).alloc (.cells #[.slice p n c, .int .i64 0] 132)) := (below_new w _).alloc (by simp only [World.size_alloc]; omega) _
  have hsz : ((w.alloc (.cells ZTx.toArray 78)).alloc (.cells #[.slice p n c, .int .i64 0] 132)).heap.size = w.heap.size + 2 := by simp only [World.size_alloc]
  simp only [World.size_alloc] at HBg
  generalize (w.alloc (.cells ZTx.toArray 78)).alloc (.cells #[.slice p n c, .int .i64 0] 132) = W1 at *
  have HW := Lib.hid hbw
  obtain ⟨z2, hz2⟩ : ∃ z, z = w.heap.size := ⟨_, rfl⟩
  rw [← hz2] at HB2 HBg hsz ⊢
  obtain ⟨g, hg⟩ : ∃ z, z = z2 + 1 := ⟨_, rfl⟩
  rw [← hg] at HBg ⊢
  obtain ⟨B, hB⟩ : ∃ B, B = z2 + 2 := ⟨_, rfl⟩
  have HR : Hid (RsAt B g W1 0 s) := Lib.hid ⟨.slice p n c, HBg.out, ⟨⟨p, n, c, rfl, hn, hl, by unfold maxLen; omega, hr.below hbw (Nat.le_refl _), hp⟩, fun h0 k hk => by
    have hk2 : k < w.heap.size := by
      obtain ⟨b, o, hp', hlt, _⟩ := hr h0
      rw [own_slice, hp'] at hk
      injection hk with hk
      have hk' : b = k := hk
      omega
    exact ⟨by omega, .inl (by omega)⟩⟩, by omega, by omega, by omega⟩
  clear HBg hbw hr hn hp
  have HZ2 := Lib.hid hz2
  have hzz : z2 < g ∧ g < B := by omega
  have hBw : w.heap.size ≤ B := by omega
  have hBW : B ≤ W1.heap.size := by omega
  clear hg hB hsz hz2
  go_wp2_with fail
  refine (rsLow_any B g 4 (by omega) W1 0 s HR.out).mono ?_
  rintro e W2 ⟨v, ve, er1, s1, rfl, hv, HR2, HS2, HT1⟩
  subst hv
  have C1 : Hid (Cnt R er1 ((markZ.bind (bodyZ ve)) s1)) := Lib.hid (C0.out.bind HT1.out)
  have ec := cut64_32 ve
  have hbt := built_tx (iv32 (ve.setWidth 32))
  have HB22 := Lib.hid (HB2.out.stays HS2.out (by omega))
  have hbn := below_new W2 (.cells ZTx.toArray 78)
  have hnew := Blk.new W2 78 ZTx.toArray
  have hBW2 : B ≤ W2.heap.size := by have := HS2.out.size; omega
  clear HR HB2 C0 HT1
  go_upto_region 3 with (first
    | (with_reducible refine wp_build (o := ⟨some 20, _, _, _, _, _⟩) ?_ 78 #[(0, .tmp 19)] ?_ [(0, .int .u32 (iv32 (ve.setWidth 32)))] ?_ #[.int .u32 (iv32 (ve.setWidth 32)), .slice none 0 0, .slice none 0 0, .int .u32 0] hbt ?_
       · rfl
       · rfl
       · rfl)
    | (with_reducible refine wp_store_blk (o := ⟨none, _, _, _, _, _⟩) ?_ 78 (.tmp 6) (.tmp 20) ?_ (W2.heap.size) 78 (ZTx.toArray) (#[.int .u32 (iv32 (ve.setWidth 32)), .slice none 0 0, .slice none 0 0, .int .u32 0]) ?_ ?_ (hnew) ?_ ?_ ?_ (W2.heap.size) (W2) ?_ ?_ ?_
       · rfl
       · rfl
       · rfl
       · rfl
       · exact (info_Tx (cs := [.int .u32 (iv32 (ve.setWidth 32)), .slice none 0 0, .slice none 0 0, .int .u32 0]) rfl)
       · exact (rfl)
       · exact ((by rw [List.all_toArray]; rfl))
       · exact (hbn)
       · exact (Nat.le_refl _)
       intro W3 hB3 hb3 hg3 hs3))
  have HR3 := Lib.hid (HR2.out.fut hb3)
  have HB23 := Lib.hid (HB22.out.fut hb3)
  have HS3 : Hid (Below w.heap.size w W3) := Lib.hid (below_fut (HW.out.trans (HS2.out.below HW.out.size (fun k hk => by have : k = g := hk; have := HZ2.out; omega))) hb3 (by have := HZ2.out; omega))
  have hzB : B ≤ W2.heap.size := hBW2
  obtain ⟨vv, hvv⟩ : ∃ v, v = Value.int .u32 (iv32 (ve.setWidth 32)) := ⟨_, rfl⟩
  rw [← hvv] at hB3 ⊢
  have HVV := Lib.hid hvv
  have HB3 : Hid (Blk W3 W2.heap.size 78 #[vv, .slice none 0 0, .slice none 0 0, .int .u32 0]) := hB3
  clear hvv hg3 hs3 hb3 hnew hbn hbt ec HR2 HB22 HS2 hB3 HW hBW hBW2
  generalize W2.heap.size = z6 at *
  simp only [put_none]
  obtain ⟨v1, q1, q2, q3, q4, q5⟩ := id HR3.out
  obtain ⟨p1, n1, c1, rfl, hn1, hnc1, hcm1, hr1, hp1⟩ := q2.open
  obtain ⟨k0, k1, kf0, kf1⟩ := cell2 q1
  have HN1 := Lib.hid hn1
  clear q1 q2 q3 q4 q5 hn1 hp1
  go_cut [7] (fun s7 wx => ∃ m : Bool, s7 = .bool m ∧ wx = W3 ∧ Hid (m = false → Cnt R er1 (bodyZ ve false s1)) ∧ Hid (m = true → er1 = 0 ∧ s1[0]? = some 0#8))
  case first =>
    as_aux_lemma =>
    by_cases he : er1 = 0
    case neg =>
      have hb1 : (er1 == 0) = false := by rw [beq_eq_false_iff_ne]; exact he
      have HE := Lib.hid he
      clear he
      go_wp2_with fail
      go_meet
      case rel => exact ⟨false, rfl, rfl, Lib.hid fun _ => C1.out.any HE.out, Lib.hid fun h => by cases h⟩
    subst he
    by_cases h0 : s1[0]? = some 0#8
    · have hlt : (0 : Int) < (n1 : Int) := by
        have := (List.getElem?_eq_some_iff.1 h0).1
        have := HN1.out
        omega
      obtain ⟨bb, of0, rfl, _, hcell⟩ := hr1 (fun e => by rw [e] at h0; cases h0)
      have hx : W3.cell? ⟨bb, of0, none⟩ = some (.int .u8 0) := hcell 0 _ h0
      have H0 := Lib.hid h0
      clear h0 hr1 hcell
      go_wp2_with fail
      go_meet
      case rel => exact ⟨true, rfl, rfl, Lib.hid (fun h => by cases h), Lib.hid (fun _ => ⟨trivial, H0.out⟩)⟩
    · have HC : Hid (Cnt R 0 (bodyZ ve false s1)) := Lib.hid (C1.out.same fun _ => Pz.bind_ok (by unfold markZ; rw [if_neg h0]))
      by_cases hz0 : n1 = 0
      · subst hz0
        clear h0 hr1
        go_wp2_with fail
        go_meet
        case rel => exact ⟨false, rfl, rfl, Lib.hid fun _ => HC.out, Lib.hid fun h => by cases h⟩
      · have hlt : (0 : Int) < (n1 : Int) := by omega
        obtain ⟨bb, of0, rfl, _, hcell⟩ := hr1 (fun e => by have := HN1.out; rw [e] at this; simp at this; omega)
        obtain ⟨b, hb⟩ : ∃ b, s1[0]? = some b := ⟨s1[0]'(by rw [HN1.out]; omega), List.getElem?_eq_getElem _⟩
        have hx : W3.cell? ⟨bb, of0, none⟩ = some (.int .u8 (iv8 b)) := hcell 0 b hb
        have hne : (iv8 b == 0) = false := by
          rw [beq_eq_false_iff_ne]
          intro e
          exact h0 (by rw [hb, iv8_inj.1 (e.trans (by rfl : (0 : Int) = iv8 0#8))])
        clear h0 hr1 hcell hb
        go_wp2_with fail
        go_meet
        case rel => exact ⟨false, rfl, rfl, Lib.hid fun _ => HC.out, Lib.hid fun h => by cases h⟩
  case rest =>
  obtain ⟨m, rfl, hwc, HMF, HMT⟩ := hcut
  replace hwc := hwc.symm
  subst hwc
  clear k0 k1 kf0 kf1 hr1
  go_upto_if 43 with (fail)
  go_cut [] (fun wx => ∃ er s', Hid (RsAt B g wx er s') ∧ Hid (Cnt R er (bodyZ ve m s')) ∧ Hid (Blk wx z6 78 #[vv, .slice none 0 0, .slice none 0 0, .int .u32 0]) ∧ Hid (Blk wx z2 78 ZTx.toArray) ∧ Hid (Below w.heap.size w wx))
  case first =>
    as_aux_lemma =>
    cases m with
    | false =>
      go_wp2_with fail
      go_meet
      case rel => exact ⟨er1, s1, HR3, Lib.hid (HMF.out (by first | rfl | trivial)), HB3, HB23, HS3⟩
    | true =>
      obtain ⟨he, h0⟩ := HMT.out (by first | rfl | trivial)
      subst he
      obtain ⟨r, rfl⟩ : ∃ r, s1 = 0#8 :: r := by
        cases s1 with
        | nil => cases h0
        | cons x r => rw [List.getElem?_cons_zero] at h0; injection h0 with h0; exact ⟨r, by rw [h0]⟩
      clear h0
      go_wp2_with fail
      refine (rsTake_any B g 1 (by omega) W3 0 (0#8 :: r) HR3.out).mono ?_
      rintro e Wa ⟨va, a, er2, s2, rfl, _, HRa, HSa, HTa⟩
      have hTa := HTa.out
      unfold Step at hTa
      rw [if_pos rfl, take1] at hTa
      simp only at hTa
      obtain ⟨rfl, _, rfl⟩ := hTa
      go_wp2_with fail
      refine (rsTake_any B g 1 (by omega) Wa 0 s2 HRa.out).mono ?_
      rintro e Wb ⟨vb, a2, er3, s3, rfl, ⟨hdb, hlb⟩, HRb, HSb, HTb⟩
      have HSab : Hid (Stays (· = g) W3 Wb) := Lib.hid (HSa.out.trans HSb.out fun k _ hk => hk)
      have HB3b := Lib.hid (HB3.out.stays HSab.out (by omega))
      have HB2b := Lib.hid (HB23.out.stays HSab.out (by omega))
      have HSb' : Hid (Below w.heap.size w Wb) := Lib.hid (HS3.out.trans (HSab.out.below HS3.out.size (fun k hk => by have : k = g := hk; have := HZ2.out; omega)))
      have hTb := HTb.out
      unfold Step at hTb
      rw [if_pos rfl] at hTb
      obtain ⟨vr, d1, d2, d3, d4, d5⟩ := id HRb.out
      obtain ⟨k0, k1, kf0, kf1⟩ := cell2 d1
      obtain ⟨pb, nb, cb, rfl, hnb, hncb, hcmb, hrb, _⟩ := hdb.open
      have hnb1 : nb = 1 := by omega
      subst hnb1
      have hlt1 : (0 : Int) < ((1 : Nat) : Int) := by omega
      obtain ⟨y, rfl⟩ : ∃ y, a2 = [y] := by
        match a2, hlb with
        | [y], _ => exact ⟨y, rfl⟩
      obtain ⟨b8, o8, rfl, _, hc8⟩ := hrb (by simp)
      have hx8 : Wb.cell? ⟨b8, o8, none⟩ = some (.int .u8 (iv8 y)) := hc8 0 y rfl
      have D1 := Lib.hid d1
      have D2 := Lib.hid d2
      have D3 := Lib.hid d3
      clear hdb hlb hnb hrb hc8 d1 d2 d3 HSa HSb HRa HTa HTb
      cases s2 with
      | nil =>
        rw [take1_nil] at hTb
        obtain ⟨rfl, _⟩ := hTb
        have HCf : Hid (Cnt R 50 (bodyZ ve true s3)) := Lib.hid (C1.out.fail (Pz.bind_err mark_short) (by decide) _)
        go_wp2_with fail
        go_meet
        case rel => exact ⟨50, s3, HRb, HCf, HB3b, HB2b, HSb'⟩
      | cons y' r' =>
        rw [take1] at hTb
        simp only at hTb
        obtain ⟨rfl, hy, rfl⟩ := hTb
        have hyy : y = y' := by injection hy
        subst hyy
        by_cases h1 : y = 1#8
        · have hx9 : Wb.cell? ⟨b8, o8, none⟩ = some (.int .u8 1) := by rw [hx8, h1]; rfl
          have HCt : Hid (Cnt R 0 (bodyZ ve true s3)) := Lib.hid (C1.out.same fun _ => Pz.bind_ok (by rw [h1]; exact mark_ok s3))
          clear hx8 h1 hy
          go_wp2_with fail
          go_meet
          case rel => exact ⟨0, s3, HRb, HCt, HB3b, HB2b, HSb'⟩
        · have hne : (iv8 y == 1) = false := by
            rw [beq_eq_false_iff_ne]
            intro e
            exact h1 (iv8_inj.1 (e.trans (by rfl : (1 : Int) = iv8 1#8)))
          have HCt : Hid (Cnt R 51 (bodyZ ve true s3)) := Lib.hid (C1.out.fail (Pz.bind_err (mark_bad y s3 h1)) (by decide) _)
          clear h1 hy
          have hst := Stays.set Wb g 1 (.int .i64 51)
          have HRm : Hid (RsAt B g (Wb.setCell ⟨g, 1, none⟩ (.int .i64 51)) 51 s3) := Lib.hid (RsAt.mark D1.out D2.out D3.out hzz.2 d5)
          have HB3m := Lib.hid (HB3b.out.stays hst (by omega))
          have HB2m := Lib.hid (HB2b.out.stays hst (by omega))
          have HSm : Hid (Below w.heap.size w (Wb.setCell ⟨g, 1, none⟩ (.int .i64 51))) := Lib.hid (HSb'.out.trans (hst.below HSb'.out.size (fun k hk => by have : k = g := hk; have := HZ2.out; omega)))
          clear hst
          go_wp2_with fail
          go_meet
          case rel => exact ⟨51, s3, HRm, HCt, HB3m, HB2m, HSm⟩
  case rest =>
  obtain ⟨er3, s3, HR3', HC3, HB3', HB2', HS3'⟩ := hcut
  clear HR3 HB3 HB23 HS3 HMF HMT C1
  go_wp2_with fail
  refine (rsCount_any B g 2000 (by omega) wc er3 s3 HR3'.out).mono ?_
  rintro e W4 ⟨v4, n4, er4, s4, rfl, ⟨hv4, hn4⟩, HR4, HS4, HT4⟩
  subst hv4
  have C4 : Hid (Cnt R er4 (((if n4 = 0 then Pz.fail 51 else manyZ inZ n4).bind (restZ ve m)) s4)) := Lib.hid (by
    have h0 := HC3.out
    rw [body_rest, bind_assoc] at h0
    exact h0.bind HT4.out)
  have HB34 := Lib.hid (HB3'.out.stays HS4.out (by omega))
  have HB24 := Lib.hid (HB2'.out.stays HS4.out (by omega))
  have HW4 : Hid (Below w.heap.size w W4) := Lib.hid (HS3'.out.trans (HS4.out.below HS3'.out.size (fun k hk => by have : k = g := hk; have := HZ2.out; omega)))
  obtain ⟨v4, d1, d2, d3, d4, d5⟩ := id HR4.out
  obtain ⟨k0, k1, kf0, kf1⟩ := cell2 d1
  have D1 := Lib.hid d1
  have D2 := Lib.hid d2
  have D3 := Lib.hid d3
  clear HR3' HC3 HB3' HB2' HS3' HS4 HT4 d1 d2 d3 d4
  go_upto_region 10 with fail
  go_cut [72] (fun s72 wx => ∃ q : Bool, s72 = .bool q ∧ wx = W4 ∧ Hid (q = true ↔ er4 = 0 ∧ n4 = 0))
  case first =>
    as_aux_lemma =>
    by_cases he : er4 = 0
    · subst he
      by_cases h0 : n4 = 0
      · subst h0
        go_wp2_with fail
        go_meet
        case rel => exact ⟨true, rfl, rfl, Lib.hid (by simp)⟩
      · have hne : ((n4 : Int) == 0) = false := by rw [beq_eq_false_iff_ne]; omega
        have H0 := Lib.hid h0
        clear h0
        go_wp2_with fail
        go_meet
        case rel => exact ⟨false, rfl, rfl, Lib.hid (by have := H0.out; simp [this])⟩
    · have hb1 : (er4 == 0) = false := by rw [beq_eq_false_iff_ne]; exact he
      have HE := Lib.hid he
      clear he
      go_wp2_with fail
      go_meet
      case rel => exact ⟨false, rfl, rfl, Lib.hid (by have := HE.out; simp [this])⟩
  case rest =>
  rename_i wc72
  obtain ⟨q, rfl, hwc, HQ⟩ := hcut
  replace hwc := hwc.symm
  subst hwc
  go_upto_if 72 with (fail)
  go_cut [] (fun wx => ∃ er, Hid (RsAt B g wx er s4) ∧ Hid (Cnt R er (((manyZ inZ n4).bind (restZ ve m)) s4)) ∧ Hid (Blk wx z6 78 #[vv, .slice none 0 0, .slice none 0 0, .int .u32 0]) ∧ Hid (Blk wx z2 78 ZTx.toArray) ∧ Hid (Below w.heap.size w wx))
  case first =>
    as_aux_lemma =>
    cases q with
    | true =>
      obtain ⟨he, h0⟩ := HQ.out.1 rfl
      subst he h0
      have hst := Stays.set W4 g 1 (.int .i64 51)
      have HRm : Hid (RsAt B g (W4.setCell ⟨g, 1, none⟩ (.int .i64 51)) 51 s4) := Lib.hid (RsAt.mark D1.out D2.out D3.out hzz.2 d5)
      have HB3m := Lib.hid (HB34.out.stays hst (by omega))
      have HB2m := Lib.hid (HB24.out.stays hst (by omega))
      have HSm : Hid (Below w.heap.size w (W4.setCell ⟨g, 1, none⟩ (.int .i64 51))) := Lib.hid (HW4.out.trans (hst.below HW4.out.size (fun k hk => by have : k = g := hk; have := HZ2.out; omega)))
      have HCm : Hid (Cnt R 51 (((manyZ inZ 0).bind (restZ ve m)) s4)) := Lib.hid (C4.out.fail (Pz.bind_err (ifS_pos rfl _ _ _)) (by decide) _)
      clear hst
      go_wp2_with fail
      go_meet
      case rel => exact ⟨51, HRm, HCm, HB3m, HB2m, HSm⟩
    | false =>
      have HCm : Hid (Cnt R er4 (((manyZ inZ n4).bind (restZ ve m)) s4)) := Lib.hid (C4.out.same fun he => by
        have h0 : n4 ≠ 0 := fun h0 => by have := HQ.out.2 ⟨he, h0⟩; cases this
        rw [if_neg h0])
      go_wp2_with fail
      go_meet
      case rel => exact ⟨er4, HR4, HCm, HB34, HB24, HW4⟩
  case rest =>
  obtain ⟨er5, HR5, C5, HB35, HB25, HW5⟩ := hcut
  clear HR4 C4 HB34 HB24 HW4 D1 D2 D3 HQ k0 k1 kf0 kf1 d5
  go_upto_block 0 with fail
  go_cut [] (fun wx => ∃ (xs : List TIn) (v1 : Value) (er : Int) (sr : Bs), Hid (RsAt B g wx er sr) ∧ Hid (Cnt R er ((restZ ve m xs) sr)) ∧ Hid (RowO (InN B) 82 36 B wx v1 xs) ∧ Hid ((fun xs : List TIn => ∀ x ∈ xs, x.wi = []) xs) ∧ Hid (xs.length ≤ 2000) ∧ Hid (Blk wx z6 78 #[vv, v1, .slice none 0 0, .int .u32 0]) ∧ Hid (Blk wx z2 78 ZTx.toArray) ∧ Hid (Below w.heap.size w wx))
  case first =>
    as_aux_lemma =>
    go_wp2_with fail
    go_loopw [10] (fun i wr => ∃ (k : Nat) (xs : List TIn) (v1 : Value) (er : Int) (sr : Bs), k ≤ n4 ∧ i = .int .i64 k ∧ Hid (xs.length = k) ∧ Hid (RsAt B g wr er sr) ∧ Hid (Cnt R er (((contP xs inZ (n4 - k)).bind (restZ ve m)) sr)) ∧ Hid (RowO (InN B) 82 36 B wr v1 xs) ∧ Hid ((fun xs : List TIn => ∀ x ∈ xs, x.wi = []) xs) ∧ Hid (Blk wr z6 78 #[vv, v1, .slice none 0 0, .int .u32 0]) ∧ Hid (Blk wr z2 78 ZTx.toArray) ∧ Hid (Below w.heap.size w wr)) (fun i _ => n4 - (intOf i).toNat)
    case atStart => exact ⟨0, [], .slice none 0 0, er5, s4, by omega, rfl, Lib.hid rfl, HR5, Lib.hid (by rw [Nat.sub_zero, contP_start]; exact C5.out), Lib.hid (RowO.nil _ _ _ _ _), Lib.hid (by intro x hx; cases hx), HB35, HB25, HW5⟩
    case round =>
      obtain ⟨k, xs, v1, er, sr, hkn, rfl, HXL, HRk, HCk, HRow, HG, HB3k, HB2k, HWk⟩ := hrel
      obtain ⟨vr, d1, d2, d3, d4, d5⟩ := id HRk.out
      obtain ⟨k0, k1, kf0, kf1⟩ := cell2 d1
      clear d1 d2 d3 d4 d5
      by_cases hlt : k < n4
      case neg =>
        obtain rfl : k = n4 := by omega
        have HCx : Hid (Cnt R er ((restZ ve m xs) sr)) := Lib.hid (HCk.out.same fun _ => by rw [Nat.sub_self]; exact Pz.bind_ok (contM_end xs inZ sr))
        go_wp2_with fail
        go_meet
        case rel => exact ⟨xs, v1, er, sr, HRk, HCx, HRow, HG, Lib.hid (by have := HXL.out; omega), HB3k, HB2k, HWk⟩
      have hltz : (k : Int) < (n4 : Int) := by omega
      by_cases he : er = 0
      case neg =>
        have hb1 : (er == 0) = false := by rw [beq_eq_false_iff_ne]; exact he
        have HCx : Hid (Cnt R er ((restZ ve m xs) sr)) := Lib.hid (HCk.out.any he)
        clear he
        go_wp2_with fail
        go_meet
        case rel => exact ⟨xs, v1, er, sr, HRk, HCx, HRow, HG, Lib.hid (by have := HXL.out; omega), HB3k, HB2k, HWk⟩
      subst he
      go_upto_region 15 with fail
      clear k0 k1 kf0 kf1
      obtain ⟨pv, nv, cv, rfl⟩ : ∃ pv nv cv, v1 = .slice pv nv cv := by
        obtain ⟨css, _, h2, _⟩ := HRow.out
        obtain ⟨p, c, e, _⟩ := ownsRow_open h2
        exact ⟨_, _, _, e⟩
      refine region_plan_tail [qq 0, qq 1, qq 2, oo 3, oo 4, oo 5, qq 6] 7 (fun W => Blk W z6 78 #[vv, .slice pv nv cv, .slice none 0 0, .int .u32 0]) (by as_aux_lemma => kernel_rfl) (by as_aux_lemma => kernel_rfl) (HB3k.out.fut (below_draws wr 1)) ?_
      refine' plan_quiet (s := 198) (A1 := _) [0, 1, 2] [_, _, _] _ rfl rfl rfl (fun W hW => ?hq1) _ (HB3k.out.fut (below_draws wr 1)) (fun _ => ?hr1)
      case hq1 =>
        have e1 : ∀ k, (W.drewN k).cell? ⟨z6, 1, none⟩ = some (.slice pv nv cv) := fun k => by have := hW.cell 1; simpa using this
        try simp only [List.getElem_toArray, List.getElem_cons_zero, List.getElem_cons_succ]
        iterate 3 (go_big_quiet_step (fail))
        refine wpQuiet_nil ?_
        rfl
      case hr1 =>
      refine plan_one rfl fun k1 => ?_
      have hdr : Below wr.heap.size wr (wr.drew.drewN k1) := below_drewN (Below.refl _ _).drew k1
      have HRd := Lib.hid (HRk.out.fut hdr)
      have HRowd := Lib.hid (HRow.out.sep (inN_keeps B) (Stays.of_below hdr (Nat.le_refl _) (fun _ => False)) (fun _ h => h.elim))
      have HB3d := Lib.hid (HB3k.out.fut hdr)
      have HB2d := Lib.hid (HB2k.out.fut hdr)
      have HWd := Lib.hid (below_fut HWk.out hdr (by have := HWk.out.size; omega))
      clear HRk HRow HB3k HB2k HWk hdr
      generalize wr.drew.drewN k1 = Wd at *
      go_wp2_with fail
      refine (rsIn_any B g Wd 0 sr HRd.out).mono ?_
      rintro e We ⟨v5, a, er', sr', rfl, ⟨⟨cs, rfl, hEa⟩, hwi⟩, HRe, HSe, HTe⟩
      have hwz := HWd.out.size
      have hBwd : B ≤ Wd.heap.size := HRd.out.elim fun v h => h.2.2.2.2
      have hrow := HRowd.out.sep (inN_keeps B) HSe.out (Sep.low fun k hk => by have : k = g := hk; omega)
      have hB3e := HB3d.out.stays HSe.out (by omega)
      have HB2e := Lib.hid (HB2d.out.stays HSe.out (by omega))
      have HWe : Hid (Below w.heap.size w We) := Lib.hid (HWd.out.trans (HSe.out.below HWd.out.size (fun k hk => by have : k = g := hk; have := HZ2.out; omega)))
      have HRowe := Lib.hid hrow
      have HEe := Lib.hid hEa
      have HCe := Lib.hid (contP_step (m := n4 - (k + 1)) (by rw [show n4 - (k + 1) + 1 = n4 - k by omega]; exact HCk.out) HTe.out ())
      have hBwe : B ≤ We.heap.size := by have := HSe.out.size; omega
      clear hrow HRd HRowd HB3d HB2d HWd HSe HTe HCk hEa hBwd hwz
      go_wp2_with fail
      refine planQ_normal (And.intro hB3e ?_)
      refine plan_one rfl fun k2 => ?_
      have hdr := below_draws We k2
      have hB3f := hB3e.fut hdr
      have HB2f := Lib.hid (HB2e.out.fut hdr)
      have HWf := Lib.hid (below_fut HWe.out hdr (by have := HWe.out.size; omega))
      have HRf := Lib.hid (HRe.out.fut hdr)
      have HRowf := Lib.hid (HRowe.out.sep (inN_keeps B) (Stays.of_below hdr (Nat.le_refl _) (fun _ => False)) (fun _ h => h.elim))
      have HEf := Lib.hid (inN_keeps B _ _ _ _ _ HEe.out (Stays.of_below hdr (Nat.le_refl _) (fun _ => False)) (fun _ h => h.elim))
      have hBwf : B ≤ (We.drewN k2).heap.size := hBwe
      clear hB3e HB2e HWe HRe HRowe HEe hdr hBwe
      generalize We.drewN k2 = Wf at *
      have hl5 := HEf.out.len
      have ho5 := HEf.out.one
      refine wp_lit (o := ⟨some 92, _, _, _, _, _⟩) rfl 75 82 1 #[(0, .tmp 91)] rfl [.agg cs.toArray] rfl 36 96 _ Try.underlying75 in_info (by omega) (fun v hv => by rw [List.mem_singleton.1 hv]; exact hl5) rfl (by omega) (by omega) ?_
      simp only [List.flatMap_cons, List.flatMap_nil, List.append_nil, Value.cells]
      have hnew := below_new Wf (.cells cs.toArray 82)
      have hst : Stays (fun _ => False) Wf (Wf.alloc (.cells cs.toArray 82)) := Stays.of_below hnew (Nat.le_refl _) _
      go_wp2_with fail
      refine planQ_normal (And.intro (hB3f.fut hnew) ?_)
      refine plan_one rfl fun k3 => ?_
      have hdr := below_draws (Wf.alloc (.cells cs.toArray 82)) k3
      have hst2 : Stays (fun _ => False) (Wf.alloc (.cells cs.toArray 82)) ((Wf.alloc (.cells cs.toArray 82)).drewN k3) := Stays.of_below hdr (Nat.le_refl _) _
      have hB3h := (hB3f.fut hnew).fut hdr
      have HB2h := Lib.hid ((HB2f.out.fut hnew).fut hdr)
      have HWh := Lib.hid (below_fut (below_fut HWf.out hnew (by have := HWf.out.size; omega)) hdr (by have := HWf.out.size; omega))
      have HRh := Lib.hid ((HRf.out.fut hnew).fut hdr)
      have hRowh := (HRowf.out.sep (inN_keeps B) hst (fun _ h => h.elim)).sep (inN_keeps B) hst2 (fun _ h => h.elim)
      have HEh := Lib.hid (inN_keeps B _ _ _ _ _ (inN_keeps B _ _ _ _ _ HEf.out hst (fun _ h => h.elim)) hst2 (fun _ h => h.elim))
      have hBlit := (Blk.new Wf 82 cs.toArray).fut hdr
      have hBwh : B ≤ ((Wf.alloc (.cells cs.toArray 82)).drewN k3).heap.size := by have := hdr.size; have := hnew.size; omega
      clear hB3f HB2f HWf HRf HRowf HEf hdr hnew hst hst2 hBwf
      generalize (Wf.alloc (.cells cs.toArray 82)).drewN k3 = Wh at *
      obtain ⟨css, hcl, hown, hcs⟩ := hRowh
      have hxl := HXL.out
      refine wp_rowapp (o := ⟨some 93, _, _, _, _, _⟩) rfl (.tmp 89) (.tmp 92) 75 82 rfl _ 36 96 Try.underlying75 in_info rfl (by omega) (by omega) B _ xs.length css.flatten rfl hown Wf.heap.size 1 1 cs rfl hBlit (by omega) (one_all ho5) (by omega) hBwh ?_
      intro v8 w8 hl8 hg8 ho8
      have HROW : Hid (RowO (InN B) 82 36 B w8 v8 (xs ++ [a])) := Lib.hid (RowO.app hcl hown hcs (inN_keeps B) (by decide) HEh.out hl5 hl8 hg8)
      have hS8 := Stays.of_grown (S := fun k => Value.ownBlock _ = some k) hg8 (fun k h => h)
      have hz6n : ¬ (Value.slice pv nv cv).ownBlock = some z6 := fun h => by
        rcases hown.2 with ⟨e', _⟩ | ⟨b', _, cur', e', _, hh, _⟩
        · rw [e'] at h; cases h
        · rw [e'] at h
          injection h with h
          have hbb : Blk Wh b' 82 cur' := hh
          have h' : b' = z6 := h
          rw [h'] at hbb
          exact absurd (hB3h.inj hbb).1 (by decide)
      have hB38 := hB3h.stays hS8 hz6n
      have HB28 := Lib.hid (HB2h.out.stays hS8 (fun h => by have := (own_ge hown _ h).1; omega))
      have HR8 := Lib.hid (HRh.out.stays hS8 (own_rw hown (by decide)) (fun h => by have := (own_ge hown _ h).1; omega))
      have HW8 : Hid (Below w.heap.size w w8) := Lib.hid (HWh.out.trans (hS8.below HWh.out.size (fun k hk => by have := (own_ge hown _ hk).1; omega)))
      obtain ⟨p8, n8, c8, rfl⟩ : ∃ p8 n8 c8, v8 = .slice p8 n8 c8 := by
        obtain ⟨p, c, e, _⟩ := ownsRow_open hl8
        exact ⟨_, _, _, e⟩
      clear hB3h HB2h HWh HRh HEh hBlit hBwh hcl hown hcs hl8 hg8 ho8 hS8 hl5 ho5 hz6n hxl
      go_wp2_with fail
      refine planQ_normal (And.intro hB38 ?_)
      refine' plan_quiet (s := 198) (A1 := _) (r := []) [6] [_] _ rfl rfl rfl (fun W hW => ?hq2) _ hB38 (fun _ => ?hr2)
      case hq2 =>
        try simp only [List.getElem_toArray, List.getElem_cons_zero, List.getElem_cons_succ]
        iterate 1 (go_big_quiet_step (fail))
        refine wpQuiet_nil ?_
        rfl
      case hr2 =>
      refine plan_end fun k4 => HeadQ.normal ?_
      have hdr := below_draws w8 k4
      have hB3i := hB38.fut hdr
      have HB2i := Lib.hid (HB28.out.fut hdr)
      have HRi := Lib.hid (HR8.out.fut hdr)
      have HWi := Lib.hid (below_fut HW8.out hdr (by have := HW8.out.size; omega))
      have HROWi := Lib.hid (HROW.out.sep (inN_keeps B) (Stays.of_below hdr (Nat.le_refl _) (fun _ => False)) (fun _ h => h.elim))
      clear hB38 HB28 HR8 HW8 HROW hdr
      generalize w8.drewN k4 = Wi at *
      have ci := hB3i.cell 1
      have fi := hB3i.frozen 1
      simp only [List.getElem?_toArray, List.getElem?_cons_zero, List.getElem?_cons_succ] at ci
      have HB3i := Lib.hid hB3i
      have hstj := Stays.set Wi z6 1 (.slice p8 n8 c8)
      have HB3j : Hid (Blk (Wi.setCell ⟨z6, 1, none⟩ (.slice p8 n8 c8)) z6 78 #[vv, .slice p8 n8 c8, .slice none 0 0, .int .u32 0]) := Lib.hid (HB3i.out.set 1 _)
      have HROWj := Lib.hid (HROWi.out.sep (inN_keeps B) hstj (sep_one HB3i.out (by decide)))
      have HRj := Lib.hid (HRi.out.stays hstj (rw_one HB3i.out hzB (by decide)) (by omega))
      have HB2j := Lib.hid (HB2i.out.stays hstj (by omega))
      have HWj : Hid (Below w.heap.size w (Wi.setCell ⟨z6, 1, none⟩ (.slice p8 n8 c8))) := Lib.hid (HWi.out.trans (hstj.below HWi.out.size (fun k hk => by have : k = z6 := hk; omega)))
      clear hB3i HB2i HRi HWi HROWi HB3i hstj
      go_wp2_with fail
      go_roundw
      case rel => exact ⟨k + 1, xs ++ [a], .slice p8 n8 c8, er', sr', by omega, by go_num, Lib.hid (by rw [List.length_append, HXL.out]; rfl), HRj, HCe, HROWj, Lib.hid (by intro x hx; rcases List.mem_append.1 hx with h | h <;> first | exact HG.out x h | (rw [List.mem_singleton.1 h]; exact hwi)), HB3j, HB2j, HWj⟩
      case measure => simp [intOf]; omega
  case rest =>
  obtain ⟨is, v6, er6, s6, HR6, C6, HI6, HG6, HL6, HB36, HB26, HW6⟩ := hcut
  clear HR5 C5 HB35 HB25 HW5
  obtain ⟨p6, n6, c6, rfl, hn6, hnc6, hcm6, _, hp6⟩ := (HI6.out.e (fun _ _ h => h.c) : ESl InC 36 wc v6 is)
  have HN6 := Lib.hid hn6
  have hn6b : n6 ≤ 2000 := by have := HL6.out; omega
  clear hn6
  go_wp2_with fail
  refine (rsCount_any B g 2000 (by omega) wc er6 s6 HR6.out).mono ?_
  rintro e W7 ⟨v7, n7, er7, s7, rfl, ⟨hv7, hn7⟩, HR7, HS7, HT7⟩
  subst hv7
  have C7 : Hid (Cnt R er7 (((manyZ outZ n7).bind (lastZ ve m is)) s7)) := Lib.hid (by
    have h0 := C6.out
    rw [rest_last, bind_assoc] at h0
    exact h0.bind HT7.out)
  have HB37 := Lib.hid (HB36.out.stays HS7.out (by omega))
  have HB27 := Lib.hid (HB26.out.stays HS7.out (by omega))
  have HI7 := Lib.hid (HI6.out.sep (inN_keeps B) HS7.out (Sep.low fun k hk => by have : k = g := hk; omega))
  have HW7 : Hid (Below w.heap.size w W7) := Lib.hid (HW6.out.trans (HS7.out.below HW6.out.size (fun k hk => by have : k = g := hk; have := HZ2.out; omega)))
  clear HR6 C6 HI6 HB36 HB26 HW6 HS7 HT7
  go_upto_block 2 with fail
  go_cut [] (fun wx => ∃ (xs : List TOut) (v1 : Value) (er : Int) (sr : Bs), Hid (RsAt B g wx er sr) ∧ Hid (Cnt R er ((lastZ ve m is xs) sr)) ∧ Hid (RowO (OutO B) 84 2 B wx v1 xs) ∧ Hid ((fun xs : List TOut => ∀ x ∈ xs, x = x) xs) ∧ Hid (xs.length ≤ 2000) ∧ Hid (Blk wx z6 78 #[vv, .slice p6 n6 c6, v1, .int .u32 0]) ∧ Hid (Blk wx z2 78 ZTx.toArray) ∧ Hid (Below w.heap.size w wx) ∧ Hid (RowO (InN B) 82 36 B wx (.slice p6 n6 c6) is))
  case first =>
    as_aux_lemma =>
    go_wp2_with fail
    go_loopw [11] (fun i wr => ∃ (k : Nat) (xs : List TOut) (v1 : Value) (er : Int) (sr : Bs), k ≤ n7 ∧ i = .int .i64 k ∧ Hid (xs.length = k) ∧ Hid (RsAt B g wr er sr) ∧ Hid (Cnt R er (((contP xs outZ (n7 - k)).bind (lastZ ve m is)) sr)) ∧ Hid (RowO (OutO B) 84 2 B wr v1 xs) ∧ Hid ((fun xs : List TOut => ∀ x ∈ xs, x = x) xs) ∧ Hid (Blk wr z6 78 #[vv, .slice p6 n6 c6, v1, .int .u32 0]) ∧ Hid (Blk wr z2 78 ZTx.toArray) ∧ Hid (Below w.heap.size w wr) ∧ Hid (RowO (InN B) 82 36 B wr (.slice p6 n6 c6) is)) (fun i _ => n7 - (intOf i).toNat)
    case atStart => exact ⟨0, [], .slice none 0 0, er7, s7, by omega, rfl, Lib.hid rfl, HR7, Lib.hid (by rw [Nat.sub_zero, contP_start]; exact C7.out), Lib.hid (RowO.nil _ _ _ _ _), Lib.hid (by intro x hx; cases hx), HB37, HB27, HW7, HI7⟩
    case round =>
      obtain ⟨k, xs, v1, er, sr, hkn, rfl, HXL, HRk, HCk, HRow, HG, HB3k, HB2k, HWk, HIk⟩ := hrel
      obtain ⟨vr, d1, d2, d3, d4, d5⟩ := id HRk.out
      obtain ⟨k0, k1, kf0, kf1⟩ := cell2 d1
      clear d1 d2 d3 d4 d5
      by_cases hlt : k < n7
      case neg =>
        obtain rfl : k = n7 := by omega
        have HCx : Hid (Cnt R er ((lastZ ve m is xs) sr)) := Lib.hid (HCk.out.same fun _ => by rw [Nat.sub_self]; exact Pz.bind_ok (contM_end xs outZ sr))
        go_wp2_with fail
        go_meet
        case rel => exact ⟨xs, v1, er, sr, HRk, HCx, HRow, HG, Lib.hid (by have := HXL.out; omega), HB3k, HB2k, HWk, HIk⟩
      have hltz : (k : Int) < (n7 : Int) := by omega
      by_cases he : er = 0
      case neg =>
        have hb1 : (er == 0) = false := by rw [beq_eq_false_iff_ne]; exact he
        have HCx : Hid (Cnt R er ((lastZ ve m is xs) sr)) := Lib.hid (HCk.out.any he)
        clear he
        go_wp2_with fail
        go_meet
        case rel => exact ⟨xs, v1, er, sr, HRk, HCx, HRow, HG, Lib.hid (by have := HXL.out; omega), HB3k, HB2k, HWk, HIk⟩
      subst he
      go_upto_region 20 with fail
      clear k0 k1 kf0 kf1
      obtain ⟨pv, nv, cv, rfl⟩ : ∃ pv nv cv, v1 = .slice pv nv cv := by
        obtain ⟨css, _, h2, _⟩ := HRow.out
        obtain ⟨p, c, e, _⟩ := ownsRow_open h2
        exact ⟨_, _, _, e⟩
      refine region_plan_tail [qq 0, qq 1, qq 2, oo 3, oo 4, oo 5, qq 6] 7 (fun W => Blk W z6 78 #[vv, .slice p6 n6 c6, .slice pv nv cv, .int .u32 0]) (by as_aux_lemma => kernel_rfl) (by as_aux_lemma => kernel_rfl) (HB3k.out.fut (below_draws wr 1)) ?_
      refine' plan_quiet (s := 198) (A1 := _) [0, 1, 2] [_, _, _] _ rfl rfl rfl (fun W hW => ?hq1) _ (HB3k.out.fut (below_draws wr 1)) (fun _ => ?hr1)
      case hq1 =>
        have e1 : ∀ k, (W.drewN k).cell? ⟨z6, 2, none⟩ = some (.slice pv nv cv) := fun k => by have := hW.cell 2; simpa using this
        try simp only [List.getElem_toArray, List.getElem_cons_zero, List.getElem_cons_succ]
        iterate 3 (go_big_quiet_step (fail))
        refine wpQuiet_nil ?_
        rfl
      case hr1 =>
      refine plan_one rfl fun k1 => ?_
      have hdr : Below wr.heap.size wr (wr.drew.drewN k1) := below_drewN (Below.refl _ _).drew k1
      have HRd := Lib.hid (HRk.out.fut hdr)
      have HRowd := Lib.hid (HRow.out.sep (outO_keeps B) (Stays.of_below hdr (Nat.le_refl _) (fun _ => False)) (fun _ h => h.elim))
      have HB3d := Lib.hid (HB3k.out.fut hdr)
      have HB2d := Lib.hid (HB2k.out.fut hdr)
      have HWd := Lib.hid (below_fut HWk.out hdr (by have := HWk.out.size; omega))
      have HId := Lib.hid (HIk.out.sep (inN_keeps B) (Stays.of_below hdr (Nat.le_refl _) (fun _ => False)) (fun _ h => h.elim))
      clear HRk HRow HB3k HB2k HWk HIk hdr
      generalize wr.drew.drewN k1 = Wd at *
      go_wp2_with fail
      refine (rsOut_any B g Wd 0 sr HRd.out).mono ?_
      rintro e We ⟨v5, a, er', sr', rfl, ⟨cs, rfl, hEa⟩, HRe, HSe, HTe⟩
      have hwz := HWd.out.size
      have hBwd : B ≤ Wd.heap.size := HRd.out.elim fun v h => h.2.2.2.2
      have hrow := HRowd.out.sep (outO_keeps B) HSe.out (Sep.low fun k hk => by have : k = g := hk; omega)
      have hB3e := HB3d.out.stays HSe.out (by omega)
      have HB2e := Lib.hid (HB2d.out.stays HSe.out (by omega))
      have HWe : Hid (Below w.heap.size w We) := Lib.hid (HWd.out.trans (HSe.out.below HWd.out.size (fun k hk => by have : k = g := hk; have := HZ2.out; omega)))
      have HIe := Lib.hid (HId.out.sep (inN_keeps B) HSe.out (Sep.low fun k hk => by have : k = g := hk; omega))
      have HRowe := Lib.hid hrow
      have HEe := Lib.hid hEa
      have HCe := Lib.hid (contP_step (m := n7 - (k + 1)) (by rw [show n7 - (k + 1) + 1 = n7 - k by omega]; exact HCk.out) HTe.out ())
      have hBwe : B ≤ We.heap.size := by have := HSe.out.size; omega
      clear hrow HRd HRowd HB3d HB2d HWd HId HSe HTe HCk hEa hBwd hwz
      go_wp2_with fail
      refine planQ_normal (And.intro hB3e ?_)
      refine plan_one rfl fun k2 => ?_
      have hdr := below_draws We k2
      have hB3f := hB3e.fut hdr
      have HB2f := Lib.hid (HB2e.out.fut hdr)
      have HWf := Lib.hid (below_fut HWe.out hdr (by have := HWe.out.size; omega))
      have HRf := Lib.hid (HRe.out.fut hdr)
      have HRowf := Lib.hid (HRowe.out.sep (outO_keeps B) (Stays.of_below hdr (Nat.le_refl _) (fun _ => False)) (fun _ h => h.elim))
      have HEf := Lib.hid (outO_keeps B _ _ _ _ _ HEe.out (Stays.of_below hdr (Nat.le_refl _) (fun _ => False)) (fun _ h => h.elim))
      have HIf := Lib.hid (HIe.out.sep (inN_keeps B) (Stays.of_below hdr (Nat.le_refl _) (fun _ => False)) (fun _ h => h.elim))
      have hBwf : B ≤ (We.drewN k2).heap.size := hBwe
      clear hB3e HB2e HWe HRe HRowe HEe HIe hdr hBwe
      generalize We.drewN k2 = Wf at *
      have hl5 := HEf.out.len
      have ho5 := HEf.out.one
      refine wp_lit (o := ⟨some 113, _, _, _, _, _⟩) rfl 76 84 1 #[(0, .tmp 112)] rfl [.agg cs.toArray] rfl 2 32 _ Try.underlying76 out_info (by omega) (fun v hv => by rw [List.mem_singleton.1 hv]; exact hl5) rfl (by omega) (by omega) ?_
      simp only [List.flatMap_cons, List.flatMap_nil, List.append_nil, Value.cells]
      have hnew := below_new Wf (.cells cs.toArray 84)
      have hst : Stays (fun _ => False) Wf (Wf.alloc (.cells cs.toArray 84)) := Stays.of_below hnew (Nat.le_refl _) _
      go_wp2_with fail
      refine planQ_normal (And.intro (hB3f.fut hnew) ?_)
      refine plan_one rfl fun k3 => ?_
      have hdr := below_draws (Wf.alloc (.cells cs.toArray 84)) k3
      have hst2 : Stays (fun _ => False) (Wf.alloc (.cells cs.toArray 84)) ((Wf.alloc (.cells cs.toArray 84)).drewN k3) := Stays.of_below hdr (Nat.le_refl _) _
      have hB3h := (hB3f.fut hnew).fut hdr
      have HB2h := Lib.hid ((HB2f.out.fut hnew).fut hdr)
      have HWh := Lib.hid (below_fut (below_fut HWf.out hnew (by have := HWf.out.size; omega)) hdr (by have := HWf.out.size; omega))
      have HRh := Lib.hid ((HRf.out.fut hnew).fut hdr)
      have hRowh := (HRowf.out.sep (outO_keeps B) hst (fun _ h => h.elim)).sep (outO_keeps B) hst2 (fun _ h => h.elim)
      have HEh := Lib.hid (outO_keeps B _ _ _ _ _ (outO_keeps B _ _ _ _ _ HEf.out hst (fun _ h => h.elim)) hst2 (fun _ h => h.elim))
      have hBlit := (Blk.new Wf 84 cs.toArray).fut hdr
      have hBwh : B ≤ ((Wf.alloc (.cells cs.toArray 84)).drewN k3).heap.size := by have := hdr.size; have := hnew.size; omega
      have HIh := Lib.hid ((HIf.out.sep (inN_keeps B) hst (fun _ h => h.elim)).sep (inN_keeps B) hst2 (fun _ h => h.elim))
      clear hB3f HB2f HWf HRf HRowf HEf HIf hdr hnew hst hst2 hBwf
      generalize (Wf.alloc (.cells cs.toArray 84)).drewN k3 = Wh at *
      obtain ⟨css, hcl, hown, hcs⟩ := hRowh
      have hxl := HXL.out
      refine wp_rowapp (o := ⟨some 114, _, _, _, _, _⟩) rfl (.tmp 110) (.tmp 113) 76 84 rfl _ 2 32 Try.underlying76 out_info rfl (by omega) (by omega) B _ xs.length css.flatten rfl hown Wf.heap.size 1 1 cs rfl hBlit (by omega) (one_all ho5) (by omega) hBwh ?_
      intro v8 w8 hl8 hg8 ho8
      have HROW : Hid (RowO (OutO B) 84 2 B w8 v8 (xs ++ [a])) := Lib.hid (RowO.app hcl hown hcs (outO_keeps B) (by decide) HEh.out hl5 hl8 hg8)
      have hS8 := Stays.of_grown (S := fun k => Value.ownBlock _ = some k) hg8 (fun k h => h)
      have hz6n : ¬ (Value.slice pv nv cv).ownBlock = some z6 := fun h => by
        rcases hown.2 with ⟨e', _⟩ | ⟨b', _, cur', e', _, hh, _⟩
        · rw [e'] at h; cases h
        · rw [e'] at h
          injection h with h
          have hbb : Blk Wh b' 84 cur' := hh
          have h' : b' = z6 := h
          rw [h'] at hbb
          exact absurd (hB3h.inj hbb).1 (by decide)
      have hB38 := hB3h.stays hS8 hz6n
      have HB28 := Lib.hid (HB2h.out.stays hS8 (fun h => by have := (own_ge hown _ h).1; omega))
      have HR8 := Lib.hid (HRh.out.stays hS8 (own_rw hown (by decide)) (fun h => by have := (own_ge hown _ h).1; omega))
      have HW8 : Hid (Below w.heap.size w w8) := Lib.hid (HWh.out.trans (hS8.below HWh.out.size (fun k hk => by have := (own_ge hown _ hk).1; omega)))
      have HI8 := Lib.hid (HIh.out.sep (inN_keeps B) hS8 (own_sep hown (by decide)))
      obtain ⟨p8, n8, c8, rfl⟩ : ∃ p8 n8 c8, v8 = .slice p8 n8 c8 := by
        obtain ⟨p, c, e, _⟩ := ownsRow_open hl8
        exact ⟨_, _, _, e⟩
      clear hB3h HB2h HWh HRh HEh HIh hBlit hBwh hcl hown hcs hl8 hg8 ho8 hS8 hl5 ho5 hz6n hxl
      go_wp2_with fail
      refine planQ_normal (And.intro hB38 ?_)
      refine' plan_quiet (s := 198) (A1 := _) (r := []) [6] [_] _ rfl rfl rfl (fun W hW => ?hq2) _ hB38 (fun _ => ?hr2)
      case hq2 =>
        try simp only [List.getElem_toArray, List.getElem_cons_zero, List.getElem_cons_succ]
        iterate 1 (go_big_quiet_step (fail))
        refine wpQuiet_nil ?_
        rfl
      case hr2 =>
      refine plan_end fun k4 => HeadQ.normal ?_
      have hdr := below_draws w8 k4
      have hB3i := hB38.fut hdr
      have HB2i := Lib.hid (HB28.out.fut hdr)
      have HRi := Lib.hid (HR8.out.fut hdr)
      have HWi := Lib.hid (below_fut HW8.out hdr (by have := HW8.out.size; omega))
      have HROWi := Lib.hid (HROW.out.sep (outO_keeps B) (Stays.of_below hdr (Nat.le_refl _) (fun _ => False)) (fun _ h => h.elim))
      have HIi := Lib.hid (HI8.out.sep (inN_keeps B) (Stays.of_below hdr (Nat.le_refl _) (fun _ => False)) (fun _ h => h.elim))
      clear hB38 HB28 HR8 HW8 HROW HI8 hdr
      generalize w8.drewN k4 = Wi at *
      have ci := hB3i.cell 2
      have fi := hB3i.frozen 2
      simp only [List.getElem?_toArray, List.getElem?_cons_zero, List.getElem?_cons_succ] at ci
      have HB3i := Lib.hid hB3i
      have hstj := Stays.set Wi z6 2 (.slice p8 n8 c8)
      have HB3j : Hid (Blk (Wi.setCell ⟨z6, 2, none⟩ (.slice p8 n8 c8)) z6 78 #[vv, .slice p6 n6 c6, .slice p8 n8 c8, .int .u32 0]) := Lib.hid (HB3i.out.set 2 _)
      have HROWj := Lib.hid (HROWi.out.sep (outO_keeps B) hstj (sep_one HB3i.out (by decide)))
      have HRj := Lib.hid (HRi.out.stays hstj (rw_one HB3i.out hzB (by decide)) (by omega))
      have HB2j := Lib.hid (HB2i.out.stays hstj (by omega))
      have HWj : Hid (Below w.heap.size w (Wi.setCell ⟨z6, 2, none⟩ (.slice p8 n8 c8))) := Lib.hid (HWi.out.trans (hstj.below HWi.out.size (fun k hk => by have : k = z6 := hk; omega)))
      have HIj := Lib.hid (HIi.out.sep (inN_keeps B) hstj (sep_one HB3i.out (by decide)))
      clear hB3i HB2i HRi HWi HROWi HB3i HIi hstj
      go_wp2_with fail
      go_roundw
      case rel => exact ⟨k + 1, xs ++ [a], .slice p8 n8 c8, er', sr', by omega, by go_num, Lib.hid (by rw [List.length_append, HXL.out]; rfl), HRj, HCe, HROWj, Lib.hid (by intro x _; trivial), HB3j, HB2j, HWj, HIj⟩
      case measure => simp [intOf]; omega
  case rest =>
  obtain ⟨os, v8, er8, s8, HR8, C8, HO8, _, HL8, HB38, HB28, HW8, HI8⟩ := hcut
  clear HR7 C7 HB37 HB27 HW7 HI7
  obtain ⟨p8, n8, c8, rfl, _⟩ := (HO8.out.e (fun _ _ h => h.c) : ESl OutC 2 wc v8 os)
  go_upto_block 4 with fail
  go_cut [] (fun wx => ∃ (l : List TIn) (er : Int) (sr : Bs), Hid (RsAt B g wx er sr) ∧ Hid (Cnt R er ((endZ ve m os l) sr)) ∧ Hid (RowO (InN B) 82 36 B wx (.slice p6 n6 c6) l) ∧ Hid (RowO (OutO B) 84 2 B wx (.slice p8 n8 c8) os) ∧ Hid (Blk wx z6 78 #[vv, .slice p6 n6 c6, .slice p8 n8 c8, .int .u32 0]) ∧ Hid (Blk wx z2 78 ZTx.toArray) ∧ Hid (Below w.heap.size w wx))
  case first =>
    as_aux_lemma =>
    cases m with
    | false =>
      have HCx : Hid (Cnt R er8 ((endZ ve false os is) s8)) := Lib.hid (by have := C8.out; rwa [last_false] at this)
      go_wp2_with fail
      go_loopw [12] (fun i wr => i = .int .i64 0 ∧ wr = wc) (fun _ _ => 0)
      case atStart => exact ⟨rfl, rfl⟩
      case round =>
        obtain ⟨rfl, hwr⟩ := hrel
        replace hwr := hwr.symm
        subst hwr
        go_wp2_with fail
        go_meet
        case rel => exact ⟨is, er8, s8, HR8, HCx, HI8, HO8, HB38, HB28, HW8⟩
    | true =>
      have C8' : Hid (Cnt R er8 (((contWP [] is).bind (endZ ve true os)) s8)) := Lib.hid (by have := C8.out; rwa [last_true] at this)
      clear C8
      go_wp2_with fail
      go_loopw [12] (fun i wr => ∃ (k : Nat) (xs : List TIn) (er : Int) (sr : Bs), k ≤ n6 ∧ i = .int .i64 k ∧ Hid (xs.length = k) ∧ Hid (RsAt B g wr er sr) ∧ Hid (Cnt R er (((contWP xs (is.drop k)).bind (endZ ve true os)) sr)) ∧ Hid (RowO (InN B) 82 36 B wr (.slice p6 n6 c6) (xs ++ is.drop k)) ∧ Hid (RowO (OutO B) 84 2 B wr (.slice p8 n8 c8) os) ∧ Hid (Blk wr z6 78 #[vv, .slice p6 n6 c6, .slice p8 n8 c8, .int .u32 0]) ∧ Hid (Blk wr z2 78 ZTx.toArray) ∧ Hid (Below w.heap.size w wr)) (fun i _ => n6 - (intOf i).toNat)
      case atStart => exact ⟨0, [], er8, s8, by omega, rfl, Lib.hid rfl, HR8, Lib.hid (by rw [List.drop_zero]; exact C8'.out), Lib.hid (by rw [List.drop_zero]; exact HI8.out), HO8, HB38, HB28, HW8⟩
      case round =>
        obtain ⟨k, xs, er, sr, hkn, rfl, HXL, HRk, HCk, HIk, HOk, HB3k, HB2k, HWk⟩ := hrel
        obtain ⟨vr, d1, d2, d3, d4, d5⟩ := id HRk.out
        obtain ⟨k0, k1, kf0, kf1⟩ := cell2 d1
        have e1 := HB3k.out.cell 1
        simp only [List.getElem?_toArray, List.getElem?_cons_zero, List.getElem?_cons_succ] at e1
        clear d1 d2 d3 d4
        by_cases hlt : k < n6
        case neg =>
          obtain rfl : k = n6 := by omega
          have hdr : is.drop k = [] := List.drop_of_length_le (by have := HN6.out; omega)
          have HCx : Hid (Cnt R er ((endZ ve true os xs) sr)) := Lib.hid (HCk.out.same fun _ => by rw [hdr]; exact Pz.bind_ok (contW_end xs sr))
          have HIx := Lib.hid HIk.out
          rw [hdr, List.append_nil] at HIx
          clear hdr
          go_wp2_with fail
          go_meet
          case rel => exact ⟨xs, er, sr, HRk, HCx, HIx, HOk, HB3k, HB2k, HWk⟩
        have hltz : (k : Int) < (n6 : Int) := by omega
        by_cases he : er = 0
        case neg =>
          have hb1 : (er == 0) = false := by rw [beq_eq_false_iff_ne]; exact he
          have HCx : Hid (Cnt R er ((endZ ve true os (xs ++ is.drop k)) sr)) := Lib.hid (HCk.out.any he)
          clear he
          go_wp2_with fail
          go_meet
          case rel => exact ⟨xs ++ is.drop k, er, sr, HRk, HCx, HIk, HOk, HB3k, HB2k, HWk⟩
        subst he
        obtain ⟨x, hx⟩ : ∃ x, is[k]? = some x := ⟨is[k]'(by rw [HN6.out]; exact hlt), List.getElem?_eq_getElem _⟩
        have hxw : x.wi = [] := HG6.out x (List.mem_of_getElem? hx)
        have HX := Lib.hid hx
        have HXW := Lib.hid hxw
        obtain ⟨b6, rfl⟩ : ∃ b6, p6 = some ⟨b6, 0, none⟩ := by
          obtain ⟨css, h1, h2, h3⟩ := HIk.out
          rcases h2.2 with ⟨e, _⟩ | ⟨b6, _, _, e, _⟩
          · injection e with _ e2 _; omega
          · injection e with e1 _ _; exact ⟨b6, e1⟩
        obtain ⟨cur, hcur, hBb, hcsz, hcc⟩ := HIk.out.blk
        have hnil : cur[k * 36 + 35]? = some (.slice none 0 0) := by
          obtain ⟨pq, nq, cq, eq, h1, h2, h3, h4, h5⟩ := HIk.out.e (E' := fun w x cs => InN B w x cs) (fun _ _ h => h)
          injection eq with eq1 eq2 eq3
          subst eq1 eq2 eq3
          obtain ⟨bq, oq, eq, _, hc⟩ := h4 (by intro e; rw [e] at h1; simp at h1; omega)
          injection eq with eq
          injection eq with eq1 eq2
          subst eq1 eq2
          obtain ⟨cs, h6, h7⟩ := hc k x (by rw [at_mid xs is k HXL.out]; exact hx)
          have := h7 35 _ (h6.2 hxw)
          rw [hcur.cell] at this
          rwa [Nat.zero_add] at this
        have hz6b : z6 ≠ b6 := fun e => by
          rw [← e] at hcur
          exact absurd (HB3k.out.inj hcur).1 (by decide)
        have hgb : g ≠ b6 := by omega
        have hz2b : z2 ≠ b6 := by omega
        have HCUR := Lib.hid hcur
        have HNIL := Lib.hid hnil
        clear hx hxw hcur hnil
        go_wp2_with fail
        refine (rsCount_any B g 100 (by omega) wr 0 sr HRk.out).mono ?_
        rintro e Wc ⟨vc, cnt, er1, sr1, rfl, ⟨hvc, hcnt⟩, HRc, HSc, HTc⟩
        subst hvc
        have HCc : Hid (Cnt R er1 (((manyZ textZ cnt).bind fun ws => (contWP (xs ++ [{ x with wi := ws }]) (is.drop (k + 1))).bind (endZ ve true os)) sr1)) := Lib.hid (by
          have h0 := HCk.out
          rw [drop_mid is k x HX.out, contWP_cons] at h0
          exact h0.bind HTc.out)
        have HB3c := Lib.hid (HB3k.out.stays HSc.out (by omega))
        have HCURc := Lib.hid (HCUR.out.stays HSc.out (by omega))
        have HSTc : Hid (Stays (fun q => q = g ∨ q = b6) wr Wc) := Lib.hid (HSc.out.mono fun _ _ h => .inl h)
        clear HCk HTc HSc k0 k1 kf0 kf1 e1
        go_wp2_with fail
        generalize wr = wk at *
        go_loopw [13] (fun kv wx => ∃ (j : Nat) (ws : List Bs) (er : Int) (s5 : Bs) (wv : Value), kv = .int .i64 j ∧ j ≤ 100 ∧ Hid (ws.length ≤ 100 - j) ∧ Hid (RsAt B g wx er s5) ∧ Hid (Cnt R er (((contP ws textZ j).bind fun ws => (contWP (xs ++ [{ x with wi := ws }]) (is.drop (k + 1))).bind (endZ ve true os)) s5)) ∧ Hid (Blk wx b6 82 (cur.setIfInBounds (k * 36 + 35) wv)) ∧ Hid (RowO (TextO B) 22 1 B wx wv ws) ∧ Hid (∀ q, wv.ownBlock = some q → wk.heap.size ≤ q) ∧ Hid (ws = [] → wv = .slice none 0 0) ∧ Hid (Blk wx z6 78 #[vv, .slice (some ⟨b6, 0, none⟩) n6 c6, .slice p8 n8 c8, .int .u32 0]) ∧ Hid (Stays (fun q => q = g ∨ q = b6) wk wx)) (fun kv _ => (intOf kv).toNat)
        case atStart => exact ⟨cnt, [], er1, sr1, .slice none 0 0, rfl, hcnt, Lib.hid (by simp), HRc, Lib.hid (by rw [contP_start]; exact HCc.out), Lib.hid (by rw [set_same HNIL.out]; exact HCURc.out), Lib.hid (RowO.nil _ _ _ _ _), Lib.hid (fun q hq => by cases hq), Lib.hid (fun _ => rfl), HB3c, HSTc⟩
        case round =>
          obtain ⟨j, ws, er, s5, wv, rfl, hj100, HWL, HRj, HCj, HBj, HRowj, HOwn, HNl, HB3j, HSTj⟩ := hrel
          have hout : ∀ (C : Hid (Cnt R er (((contWP (xs ++ [{ x with wi := ws }]) (is.drop (k + 1))).bind (endZ ve true os)) s5))), Hid (RowO (InN B) 82 36 B wr (.slice (some ⟨b6, 0, none⟩) n6 c6) ((xs ++ [{ x with wi := ws }]) ++ is.drop (k + 1))) ∧ Hid (RowO (OutO B) 84 2 B wr (.slice p8 n8 c8) os) ∧ Hid (Blk wr z2 78 ZTx.toArray) ∧ Hid (Below w.heap.size w wr) := fun _ => by
            have hsp : ∀ Ts : List TypeId, 82 ∉ Ts → Sep B Ts wk (fun q => q = g ∨ q = b6) := fun Ts hT q hq => by
              rcases hq with rfl | rfl
              · exact .inl (by omega)
              · exact .inr ⟨82, cur, HCUR.out, hT⟩
            refine ⟨Lib.hid ?_, Lib.hid (HOk.out.sep (outO_keeps B) HSTj.out (hsp _ (by decide))), Lib.hid (HB2k.out.stays HSTj.out (fun h => by rcases h with h | h <;> omega)), Lib.hid (HWk.out.trans (HSTj.out.below HWk.out.size (fun q hq => by have := HZ2.out; rcases hq with rfl | rfl <;> omega)))⟩
            have hrp := HIk.out.repoke (inN_keeps B) (k := k) (j := 35) (x := x) (x' := { x with wi := ws }) HCUR.out HSTj.out (hsp _ (by decide)) HBj.out (by rw [at_mid xs is k HXL.out]; exact HX.out) (by omega) (fun cs h1 h2 => ⟨inO_wit h1.1 HSTj.out (hsp _ (by decide)) HRowj.out, fun h0 => by rw [List.getElem?_set_self (by omega), HNl.out h0]⟩)
            rwa [set_mid xs is x _ k HXL.out HX.out] at hrp
          obtain ⟨vr', d1, d2, d3, d4, d5⟩ := id HRj.out
          obtain ⟨k0, k1, kf0, kf1⟩ := cell2 d1
          clear d1 d2 d3 d4
          by_cases hj0 : j = 0
          case pos =>
            subst hj0
            have HCx : Hid (Cnt R er (((contWP (xs ++ [{ x with wi := ws }]) (is.drop (k + 1))).bind (endZ ve true os)) s5)) := Lib.hid (HCj.out.same fun _ => Pz.bind_ok (contM_end ws textZ s5))
            obtain ⟨HI', HO', HB2', HW'⟩ := hout HCx
            clear hout
            go_wp2_with fail
            go_roundw
            case rel => exact ⟨k + 1, xs ++ [{ x with wi := ws }], er, s5, by omega, by go_num, Lib.hid (by rw [List.length_append, HXL.out]; rfl), HRj, HCx, HI', HO', HB3j, HB2', HW'⟩
            case measure => simp [intOf]; omega
          by_cases he : er = 0
          case neg =>
            have hb1 : (er == 0) = false := by rw [beq_eq_false_iff_ne]; exact he
            have hjz : (0 : Int) < (j : Int) := by omega
            have HCx : Hid (Cnt R er (((contWP (xs ++ [{ x with wi := ws }]) (is.drop (k + 1))).bind (endZ ve true os)) s5)) := Lib.hid (HCj.out.any he)
            obtain ⟨HI', HO', HB2', HW'⟩ := hout HCx
            clear hout he
            go_wp2_with fail
            go_roundw
            case rel => exact ⟨k + 1, xs ++ [{ x with wi := ws }], er, s5, by omega, by go_num, Lib.hid (by rw [List.length_append, HXL.out]; rfl), HRj, HCx, HI', HO', HB3j, HB2', HW'⟩
            case measure => simp [intOf]; omega
          subst he
          obtain ⟨j', rfl⟩ : ∃ j', j = j' + 1 := ⟨j - 1, by omega⟩
          have hjz : (0 : Int) < ((j' + 1 : Nat) : Int) := by omega
          clear hout hj0
          go_upto_region 27 with fail
          clear k0 k1 kf0 kf1
          obtain ⟨pv, nv, cv, rfl⟩ : ∃ pv nv cv, wv = .slice pv nv cv := by
            obtain ⟨css, _, h2, _⟩ := HRowj.out
            obtain ⟨p, c, e, _⟩ := ownsRow_open h2
            exact ⟨_, _, _, e⟩
          have HIDX : Hid (k * 36 + 35 < cur.size) := Lib.hid (by
            have h1 := Nat.mul_le_mul_right 36 (show k + 1 ≤ c6 by omega)
            rw [Nat.succ_mul] at h1
            omega)
          refine region_plan_tail [qq 0, qq 1, qq 2, qq 3, qq 4, qq 5, qq 6, qq 7, qq 8, qq 9, oo 10, oo 11, oo 12, qq 13, qq 14] 15 (fun W => Blk W z6 78 #[vv, .slice (some ⟨b6, 0, none⟩) n6 c6, .slice p8 n8 c8, .int .u32 0] ∧ Blk W b6 82 (cur.setIfInBounds (k * 36 + 35) (.slice pv nv cv))) (by as_aux_lemma => kernel_rfl) (by as_aux_lemma => kernel_rfl) ⟨HB3j.out.fut (below_draws wr 1), HBj.out.fut (below_draws wr 1)⟩ ?_
          refine' plan_quiet (s := 198) (A1 := _) [0, 1, 2, 3, 4, 5, 6, 7, 8, 9] [_, _, _, _, _, _, _, _, _, _] _ rfl rfl rfl (fun W hW => ?hq1) _ ⟨HB3j.out.fut (below_draws wr 1), HBj.out.fut (below_draws wr 1)⟩ (fun _ => ?hr1)
          case hq1 =>
            have e1 : ∀ k, (W.drewN k).cell? ⟨z6, 1, none⟩ = some (.slice (some ⟨b6, 0, none⟩) n6 c6) := fun k => by have := hW.1.cell 1; simpa using this
            have e2 : ∀ q, (W.drewN q).cell? ⟨b6, k * 36 + 35, none⟩ = some (.slice pv nv cv) := fun q => by
              have := hW.2.cell (k * 36 + 35)
              rw [Array.getElem?_setIfInBounds_self_of_lt HIDX.out] at this
              simpa using this
            try simp only [List.getElem_toArray, List.getElem_cons_zero, List.getElem_cons_succ]
            iterate 10 (go_big_quiet_step (fail))
            refine wpQuiet_nil ?_
            rfl
          case hr1 =>
          refine plan_one rfl fun k1 => ?_
          have hdr : Below wr.heap.size wr (wr.drew.drewN k1) := below_drewN (Below.refl _ _).drew k1
          have HRd := Lib.hid (HRj.out.fut hdr)
          have HRowd := Lib.hid (HRowj.out.sep (textO_keeps B) (Stays.of_below hdr (Nat.le_refl _) (fun _ => False)) (fun _ h => h.elim))
          have HB3d := Lib.hid (HB3j.out.fut hdr)
          have HBd := Lib.hid (HBj.out.fut hdr)
          have HSTd : Hid (Stays (fun q => q = g ∨ q = b6) wk (wr.drew.drewN k1)) := Lib.hid (HSTj.out.trans (Stays.of_below hdr (Nat.le_refl _) (fun _ => False)) fun _ _ h => h.elim)
          clear HRj HRowj HB3j HBj HSTj hdr
          generalize wr.drew.drewN k1 = Wd at *
          go_wp2_with fail
          refine (rsText_any B g Wd 0 s5 HRd.out).mono ?_
          rintro e We ⟨v5, a, er', s5', rfl, hEa, HRe, HSe, HTe⟩
          obtain ⟨pa, na, ca, rfl, _⟩ := Own8.open hEa
          have hrow := HRowd.out.sep (textO_keeps B) HSe.out (Sep.low fun k hk => by have : k = g := hk; omega)
          have hB3e := HB3d.out.stays HSe.out (by omega)
          have hBe := HBd.out.stays HSe.out (by omega)
          have HSTe : Hid (Stays (fun q => q = g ∨ q = b6) wk We) := Lib.hid (HSTd.out.trans HSe.out fun q _ h => .inl h)
          have hBwd : B ≤ Wd.heap.size := HRd.out.elim fun v h => h.2.2.2.2
          have HRowe := Lib.hid hrow
          have HEe : Hid (TextO B We a [.slice pa na ca]) := Lib.hid ⟨_, rfl, hEa⟩
          have HCe := Lib.hid (contP_step (m := j') HCj.out HTe.out ())
          have hBwe : B ≤ We.heap.size := by have := HSe.out.size; omega
          clear hrow HRd HRowd HB3d HBd HSTd HSe HTe HCj hEa hBwd
          go_wp2_with fail
          refine planQ_normal (And.intro ⟨hB3e, hBe⟩ ?_)
          refine plan_one rfl fun k2 => ?_
          have hdr := below_draws We k2
          have hB3f := hB3e.fut hdr
          have hBf := hBe.fut hdr
          have HSTf : Hid (Stays (fun q => q = g ∨ q = b6) wk (We.drewN k2)) := Lib.hid (HSTe.out.trans (Stays.of_below hdr (Nat.le_refl _) (fun _ => False)) fun _ _ h => h.elim)
          have HRf := Lib.hid (HRe.out.fut hdr)
          have HRowf := Lib.hid (HRowe.out.sep (textO_keeps B) (Stays.of_below hdr (Nat.le_refl _) (fun _ => False)) (fun _ h => h.elim))
          have HEf := Lib.hid (textO_keeps B _ _ _ _ _ HEe.out (Stays.of_below hdr (Nat.le_refl _) (fun _ => False)) (fun _ h => h.elim))
          have hBwf : B ≤ (We.drewN k2).heap.size := hBwe
          clear hB3e hBe HSTe HRe HRowe HEe hdr hBwe
          generalize We.drewN k2 = Wf at *
          refine wp_lit (o := ⟨some 157, _, _, _, _, _⟩) rfl 74 22 1 #[(0, .tmp 156)] rfl [.slice pa na ca] rfl 1 24 _ Try.underlying74 txt_info (by omega) (fun v hv => by rw [List.mem_singleton.1 hv]; rfl) rfl (by omega) (by omega) ?_
          simp only [List.flatMap_cons, List.flatMap_nil, List.append_nil, Value.cells]
          have hnew := below_new Wf (.cells #[.slice pa na ca] 22)
          have hst : Stays (fun _ => False) Wf (Wf.alloc (.cells #[.slice pa na ca] 22)) := Stays.of_below hnew (Nat.le_refl _) _
          go_wp2_with fail
          refine planQ_normal (And.intro ⟨hB3f.fut hnew, hBf.fut hnew⟩ ?_)
          refine plan_one rfl fun k3 => ?_
          have hdr := below_draws (Wf.alloc (.cells #[.slice pa na ca] 22)) k3
          have hst2 : Stays (fun _ => False) (Wf.alloc (.cells #[.slice pa na ca] 22)) ((Wf.alloc (.cells #[.slice pa na ca] 22)).drewN k3) := Stays.of_below hdr (Nat.le_refl _) _
          have hB3h := (hB3f.fut hnew).fut hdr
          have hBh := (hBf.fut hnew).fut hdr
          have HSTh : Hid (Stays (fun q => q = g ∨ q = b6) wk ((Wf.alloc (.cells #[.slice pa na ca] 22)).drewN k3)) := Lib.hid ((HSTf.out.trans hst fun _ _ h => h.elim).trans hst2 fun _ _ h => h.elim)
          have HRh := Lib.hid ((HRf.out.fut hnew).fut hdr)
          have hRowh := (HRowf.out.sep (textO_keeps B) hst (fun _ h => h.elim)).sep (textO_keeps B) hst2 (fun _ h => h.elim)
          have HEh := Lib.hid (textO_keeps B _ _ _ _ _ (textO_keeps B _ _ _ _ _ HEf.out hst (fun _ h => h.elim)) hst2 (fun _ h => h.elim))
          have hBlit := (Blk.new Wf 22 #[.slice pa na ca]).fut hdr
          have hBwh : B ≤ ((Wf.alloc (.cells #[.slice pa na ca] 22)).drewN k3).heap.size := by have := hdr.size; have := hnew.size; omega
          clear hB3f hBf HSTf HRf HRowf HEf hdr hnew hst hst2 hBwf
          generalize (Wf.alloc (.cells #[.slice pa na ca] 22)).drewN k3 = Wh at *
          obtain ⟨css, hcl, hown, hcs⟩ := hRowh
          have hwl := HWL.out
          refine wp_rowapp (o := ⟨some 158, _, _, _, _, _⟩) rfl (.tmp 154) (.tmp 157) 74 22 rfl _ 1 24 Try.underlying74 txt_info rfl (by omega) (by omega) B _ ws.length css.flatten rfl hown Wf.heap.size 1 1 [.slice pa na ca] rfl hBlit (by simp) (fun u hu => by rw [List.mem_singleton.1 hu]; rfl) (by omega) hBwh ?_
          intro vn w8 hl8 hg8 ho8
          have HROW : Hid (RowO (TextO B) 22 1 B w8 vn (ws ++ [a])) := Lib.hid (RowO.app hcl hown hcs (textO_keeps B) (by decide) HEh.out rfl hl8 hg8)
          have hS8 := Stays.of_grown (S := fun k => Value.ownBlock _ = some k) hg8 (fun k h => h)
          have hofn : ∀ z T (cs : Array Value), Blk Wh z T cs → T ≠ 22 → ¬ (Value.slice pv nv cv).ownBlock = some z := fun z T cs hb hT h => by
            rcases hown.2 with ⟨e', _⟩ | ⟨b', _, cur', e', _, hh, _⟩
            · rw [e'] at h; cases h
            · rw [e'] at h
              injection h with h
              have hbb : Blk Wh b' 22 cur' := hh
              have h' : b' = z := h
              rw [h'] at hbb
              exact hT (hb.inj hbb).1
          have hB38 := hB3h.stays hS8 (hofn _ _ _ hB3h (by decide))
          have hB8 := hBh.stays hS8 (hofn _ _ _ hBh (by decide))
          have HR8 := Lib.hid (HRh.out.stays hS8 (own_rw hown (by decide)) (fun h => by have := (own_ge hown _ h).1; omega))
          have HST8 : Hid (Stays (fun q => q = g ∨ q = b6) wk w8) := Lib.hid (HSTh.out.trans hS8 fun q hq h => by have := HOwn.out q h; omega)
          have hkw : wk.heap.size ≤ Wh.heap.size := HSTh.out.size
          have HOn : Hid (∀ q, vn.ownBlock = some q → wk.heap.size ≤ q) := Lib.hid (fun q hq => by
            rcases ho8 with h | h
            · rw [h] at hq; exact HOwn.out q hq
            · rw [h] at hq; injection hq with hq; omega)
          obtain ⟨pn, nn, cn, rfl⟩ : ∃ pn nn cn, vn = .slice pn nn cn := by
            obtain ⟨p, c, e, _⟩ := ownsRow_open hl8
            exact ⟨_, _, _, e⟩
          clear hB3h hBh HSTh HRh HEh hBlit hBwh hcl hown hcs hl8 hg8 ho8 hS8 hofn hwl hkw
          go_wp2_with fail
          refine planQ_normal (And.intro ⟨hB38, hB8⟩ ?_)
          refine' plan_quiet (s := 198) (A1 := _) (r := []) [13, 14] [_, _] _ rfl rfl rfl (fun W hW => ?hq2) _ ⟨hB38, hB8⟩ (fun _ => ?hr2)
          case hq2 =>
            try simp only [List.getElem_toArray, List.getElem_cons_zero, List.getElem_cons_succ]
            iterate 2 (go_big_quiet_step (fail))
            refine wpQuiet_nil ?_
            rfl
          case hr2 =>
          refine plan_end fun k4 => HeadQ.normal ?_
          have hdr := below_draws w8 k4
          have HB3i := Lib.hid (hB38.fut hdr)
          have hBi := hB8.fut hdr
          have HRi := Lib.hid (HR8.out.fut hdr)
          have HSTi : Hid (Stays (fun q => q = g ∨ q = b6) wk (w8.drewN k4)) := Lib.hid (HST8.out.trans (Stays.of_below hdr (Nat.le_refl _) (fun _ => False)) fun _ _ h => h.elim)
          have HROWi := Lib.hid (HROW.out.sep (textO_keeps B) (Stays.of_below hdr (Nat.le_refl _) (fun _ => False)) (fun _ h => h.elim))
          clear hB38 hB8 HR8 HST8 HROW hdr
          generalize w8.drewN k4 = Wi at *
          have ci := hBi.cell (k * 36 + 35)
          have fi := hBi.frozen (k * 36 + 35)
          rw [Array.getElem?_setIfInBounds_self_of_lt HIDX.out] at ci
          have HBi := Lib.hid hBi
          have hstj := Stays.set Wi b6 (k * 36 + 35) (.slice pn nn cn)
          have HBj : Hid (Blk (Wi.setCell ⟨b6, k * 36 + 35, none⟩ (.slice pn nn cn)) b6 82 (cur.setIfInBounds (k * 36 + 35) (.slice pn nn cn))) := Lib.hid (by
            have := HBi.out.set (k * 36 + 35) (.slice pn nn cn)
            rwa [set_twice] at this)
          have HROWj := Lib.hid (HROWi.out.sep (textO_keeps B) hstj (sep_one HBi.out (by decide)))
          have HRj := Lib.hid (HRi.out.stays hstj (rw_one HBi.out hBb (by decide)) (by omega))
          have HB3j := Lib.hid (HB3i.out.stays hstj hz6b)
          have HSTj : Hid (Stays (fun q => q = g ∨ q = b6) wk (Wi.setCell ⟨b6, k * 36 + 35, none⟩ (.slice pn nn cn))) := Lib.hid (HSTi.out.trans hstj fun q _ h => .inr h)
          clear hBi HRi HSTi HROWi HBi HB3i hstj
          go_wp2_with fail
          go_roundw
          case rel => exact ⟨j', ws ++ [a], er', s5', .slice pn nn cn, by go_num, by omega, Lib.hid (by rw [List.length_append]; have := HWL.out; simp only [List.length_cons, List.length_nil]; omega), HRj, HCe, HBj, HROWj, HOn, Lib.hid (fun h => by simp at h), HB3j, HSTj⟩
          case measure => simp [intOf]
  case rest =>
  obtain ⟨l, er9, s9, HR9, C9, HI9, HO9, HB39, HB29, HW9⟩ := hcut
  clear HR8 C8 HO8 HB38 HB28 HW8 HI8
  generalize wc = w9 at *
  obtain ⟨cc, hcc⟩ : ∃ cc : List Value, cc = [vv, .slice p6 n6 c6, .slice p8 n8 c8, .int .u32 0] := ⟨_, rfl⟩
  have HTC : Hid (TxC w9 ⟨ve.setWidth 32, l, os, 0#32⟩ cc) := Lib.hid (by
    rw [hcc]
    exact ⟨.slice p6 n6 c6, .slice p8 n8 c8, by rw [HVV.out]; rfl, HI9.out.e fun _ _ h => h.c, HO9.out.e fun _ _ h => h.c⟩)
  have l3 : w9.rangeAt z6 0 cc := blk_range (by rw [hcc]; exact HB39.out)
  have hcl : cc.length = 4 := by rw [hcc]; rfl
  have HCL := Lib.hid hcl
  have hwt := refHas_any _ cc w9 HTC.out
  simp only at hwt
  obtain ⟨y, hy⟩ : ∃ y, y = hasWs l := ⟨_, rfl⟩
  rw [← hy] at hwt
  have HY := Lib.hid hy
  obtain ⟨vr, d1, d2, d3, d4, d5⟩ := id HR9.out
  obtain ⟨k0, k1, kf0, kf1⟩ := cell2 d1
  clear hy hcc hcl d1 d2 d3 d4 d5
  go_upto_region 28 with fail
  go_cut [173] (fun s173 wx => ∃ q : Bool, s173 = .bool q ∧ Hid (q = true ↔ er9 = 0 ∧ m = true ∧ hasWs l = false) ∧ Hid (Below w9.heap.size w9 wx))
  case first =>
    as_aux_lemma =>
    by_cases he : er9 = 0
    case neg =>
      have hb1 : (er9 == 0) = false := by rw [beq_eq_false_iff_ne]; exact he
      have HE := Lib.hid he
      clear he
      go_wp2_with fail
      go_meet
      case rel => exact ⟨false, rfl, Lib.hid (by have := HE.out; simp [this]), Lib.hid (Below.refl _ _)⟩
    subst he
    cases m with
    | false =>
      go_wp2_with fail
      go_meet
      case rel => exact ⟨false, rfl, Lib.hid (by simp), Lib.hid (Below.refl _ _)⟩
    | true =>
      go_wp2_with ((with_reducible refine wpList_load_midG (op := ⟨some 170, _, _, _, _, _⟩) ?_ 78 (.tmp 6) ?_ (z6) (0) ?_ (cc) _ (l3) Try.underlying78 ?_ ?_ ?_
                    · rfl
                    · rfl
                    · rfl
                    · rfl
                    · exact ((info_Tx HCL.out))))
      refine hwt.mono ?_
      rintro e wh ⟨rfl, hbh⟩
      have HBH := Lib.hid hbh
      clear hbh l3 hwt
      cases y with
      | false =>
        go_wp2_with fail
        go_meet
        case rel => exact ⟨true, rfl, Lib.hid (by have := HY.out; simp [← this]), HBH⟩
      | true =>
        go_wp2_with fail
        go_meet
        case rel => exact ⟨false, rfl, Lib.hid (by have := HY.out; simp [← this]), HBH⟩
  case rest =>
  obtain ⟨q, rfl, HQ, HBH⟩ := hcut
  have HRa := Lib.hid (HR9.out.fut HBH.out)
  have HIa := Lib.hid (HI9.out.sep (inN_keeps B) (Stays.of_below HBH.out (Nat.le_refl _) (fun _ => False)) (fun _ h => h.elim))
  have HOa := Lib.hid (HO9.out.sep (outO_keeps B) (Stays.of_below HBH.out (Nat.le_refl _) (fun _ => False)) (fun _ h => h.elim))
  have HB3a := Lib.hid (HB39.out.fut HBH.out)
  have HB2a := Lib.hid (HB29.out.fut HBH.out)
  have HWa := Lib.hid (below_fut HW9.out HBH.out (by have := HW9.out.size; omega))
  clear HR9 HI9 HO9 HB39 HB29 HW9 HTC l3 hwt k0 k1 kf0 kf1 HBH
  generalize wc = wa at *
  go_upto_if 173 with (fail)
  go_cut [] (fun wx => ∃ er, Hid (RsAt B g wx er s9) ∧ Hid (Cnt R er ((tailZ ve os l) s9)) ∧ Hid (RowO (InN B) 82 36 B wx (.slice p6 n6 c6) l) ∧ Hid (RowO (OutO B) 84 2 B wx (.slice p8 n8 c8) os) ∧ Hid (Blk wx z6 78 #[vv, .slice p6 n6 c6, .slice p8 n8 c8, .int .u32 0]) ∧ Hid (Blk wx z2 78 ZTx.toArray) ∧ Hid (Below w.heap.size w wx))
  case first =>
    as_aux_lemma =>
    cases q with
    | true =>
      obtain ⟨he, hm, hw⟩ := HQ.out.1 (by first | rfl | trivial)
      subst he hm
      have HCm : Hid (Cnt R 51 ((tailZ ve os l) s9)) := Lib.hid (C9.out.fail (end_bad ve os l s9 hw) (by decide) _)
      obtain ⟨vr, d1, d2, d3, d4, d5⟩ := id HRa.out
      obtain ⟨k0, k1, kf0, kf1⟩ := cell2 d1
      have hst := Stays.set wa g 1 (.int .i64 51)
      have HRm : Hid (RsAt B g (wa.setCell ⟨g, 1, none⟩ (.int .i64 51)) 51 s9) := Lib.hid (RsAt.mark d1 d2 d3 hzz.2 d5)
      have HIm := Lib.hid (HIa.out.sep (inN_keeps B) hst (Sep.low fun k hk => by have : k = g := hk; omega))
      have HOm := Lib.hid (HOa.out.sep (outO_keeps B) hst (Sep.low fun k hk => by have : k = g := hk; omega))
      have HB3m := Lib.hid (HB3a.out.stays hst (by omega))
      have HB2m := Lib.hid (HB2a.out.stays hst (by omega))
      have HSm : Hid (Below w.heap.size w (wa.setCell ⟨g, 1, none⟩ (.int .i64 51))) := Lib.hid (HWa.out.trans (hst.below HWa.out.size (fun k hk => by have : k = g := hk; have := HZ2.out; omega)))
      clear hst d1 d2 d3 d4 d5 hw
      go_wp2_with fail
      go_meet
      case rel => exact ⟨51, HRm, HCm, HIm, HOm, HB3m, HB2m, HSm⟩
    | false =>
      have HCm : Hid (Cnt R er9 ((tailZ ve os l) s9)) := Lib.hid (C9.out.same fun he => end_good ve m os l s9 fun h => by
        have := HQ.out.2 ⟨he, h⟩
        simp at this)
      go_wp2_with fail
      go_meet
      case rel => exact ⟨er9, HRa, HCm, HIa, HOa, HB3a, HB2a, HWa⟩
  case rest =>
  obtain ⟨ert, HRt, Ct, HIt, HOt, HB3t, HB2t, HWt⟩ := hcut
  clear HRa HIa HOa HB3a HB2a HWa C9 HQ
  generalize wc = wt at *
  go_wp2_with fail
  refine (rsLow_any B g 4 (by omega) wt ert s9 HRt.out).mono ?_
  rintro e Wn ⟨vl, lo, er, sr, rfl, hvl, HRn, HSn, HTn⟩
  subst hvl
  have ec := cut64_32 lo
  have Cn : Hid (Cnt R er ((Pz.ret ⟨ve.setWidth 32, l, os, lo.setWidth 32⟩ : Pz TTx) sr)) := Lib.hid (Ct.out.bind HTn.out)
  have hB3n := HB3t.out.stays HSn.out (by omega)
  have f3 := hB3n.frozen 3
  have c3' := hB3n.cell 3
  simp only [List.getElem?_toArray, List.getElem?_cons_zero, List.getElem?_cons_succ] at c3'
  have HB3n := Lib.hid hB3n
  have HB2n := Lib.hid (HB2t.out.stays HSn.out (by omega))
  have HIn := Lib.hid (HIt.out.sep (inN_keeps B) HSn.out (Sep.low fun k hk => by have : k = g := hk; omega))
  have HOn := Lib.hid (HOt.out.sep (outO_keeps B) HSn.out (Sep.low fun k hk => by have : k = g := hk; omega))
  have HWn : Hid (Below w.heap.size w Wn) := Lib.hid (HWt.out.trans (HSn.out.below HWt.out.size (fun k hk => by have : k = g := hk; have := HZ2.out; omega)))
  clear hB3n HRt Ct HIt HOt HB3t HB2t HWt HSn HTn
  go_upto_region 31 with fail
  obtain ⟨lv, hlv⟩ : ∃ v, v = Value.int .u32 (iv32 (lo.setWidth 32)) := ⟨_, rfl⟩
  rw [← hlv]
  have HLV := Lib.hid hlv
  have hst := Stays.set Wn z6 3 lv
  have HB3p : Hid (Blk (Wn.setCell ⟨z6, 3, none⟩ lv) z6 78 #[vv, .slice p6 n6 c6, .slice p8 n8 c8, lv]) := Lib.hid (HB3n.out.set 3 _)
  have HIp := Lib.hid (HIn.out.sep (inN_keeps B) hst (sep_one HB3n.out (by decide)))
  have HOp := Lib.hid (HOn.out.sep (outO_keeps B) hst (sep_one HB3n.out (by decide)))
  have HRp := Lib.hid (HRn.out.stays hst (rw_one HB3n.out hzB (by decide)) (by omega))
  have HB2p := Lib.hid (HB2n.out.stays hst (by omega))
  have HWp : Hid (Below w.heap.size w (Wn.setCell ⟨z6, 3, none⟩ lv)) := Lib.hid (HWn.out.trans (hst.below HWn.out.size (fun k hk => by have : k = z6 := hk; omega)))
  clear hst hlv f3 c3' ec HB3n HIn HOn HRn HB2n HWn
  generalize Wn.setCell ⟨z6, 3, none⟩ lv = Wp at *
  obtain ⟨vr, d1, d2, d3, d4, d5⟩ := id HRp.out
  obtain ⟨k0, k1, kf0, kf1⟩ := cell2 d1
  have D1 := Lib.hid d1
  have D2 := Lib.hid d2
  have D3 := Lib.hid d3
  clear d1 d2 d3 d4
  by_cases he : er = 0
  case neg =>
    as_aux_lemma =>
    have hb1 : (er == 0) = false := by rw [beq_eq_false_iff_ne]; exact he
    have HPP : Hid (PP = (⟨0#32, [], [], 0#32⟩, [], er)) := Lib.hid (by
      have h0 := Cn.out
      unfold Cnt at h0
      rw [if_neg he] at h0
      rw [hP.out, h0]
      rfl)
    have hbt : Try.prog.built 78 [] = some ZTx.toArray := by kernel_rfl
    clear he
    go_upto_region 32 with fail
    clear k0 k1 kf0 kf1
    refine region_plan [qq 1, qq 2, qq 3, qq 4, qq 0, oo 5, qq 6, qq 7] (fun W => Blk W g 132 #[vr, .int .i64 er]) (by as_aux_lemma => kernel_rfl) (by as_aux_lemma => kernel_rfl) (D1.out.fut (below_draws Wp 1)) ?_
    refine' plan_quiet (s := 198) (A1 := _) [1, 2, 3, 4, 0] [_, _, _, _, _] _ rfl rfl rfl (fun W hW => ?hq1) _ (D1.out.fut (below_draws Wp 1)) (fun _ => ?hr1)
    case hq1 =>
      have e1 : ∀ k, (W.drewN k).cell? ⟨g, 1, none⟩ = some (.int .i64 er) := fun k => by have := hW.cell 1; simpa using this
      try simp only [List.getElem_toArray, List.getElem_cons_zero, List.getElem_cons_succ]
      iterate 4 (go_big_quiet_step (fail))
      refine quiet_build rfl 78 #[] rfl ZTx.toArray ?_ ?_
      · rw [Array.map_empty]
        exact hbt
      refine wpQuiet_nil ?_
      rfl
    case hr1 =>
    refine plan_one rfl fun k1 => ?_
    have hdr : Below Wp.heap.size Wp (Wp.drew.drewN k1) := below_drewN (Below.refl _ _).drew k1
    have HD1 := Lib.hid (D1.out.fut hdr)
    have HB2a := Lib.hid (HB2p.out.fut hdr)
    have HWa := Lib.hid (below_fut HWp.out hdr (by have := HWp.out.size; omega))
    clear D1 D2 D3 HRp HB2p HB3p HIp HOp HWp hdr
    generalize Wp.drew.drewN k1 = Wa at *
    refine wp_store_blk (o := ⟨none, _, _, _, _, _⟩) rfl 78 (.tmp 2) (.tmp 186) rfl z2 78 ZTx.toArray ZTx.toArray rfl rfl HB2a.out (info_Tx (cs := ZTx) rfl) rfl (by rw [List.all_toArray]; rfl) z2 Wa (Below.refl _ _) (Nat.le_refl _) ?_
    intro Wd hBd hbd hgd hsd
    have hst := Stays.of_grown (S := fun k => k = z2) hgd.out (fun k h => by injection h with h; exact h.symm)
    have hD1 := HD1.out.stays hst (by omega)
    have HWd : Hid (Below w.heap.size w Wd) := Lib.hid (HWa.out.trans (hst.below HWa.out.size (fun k hk => by have : k = z2 := hk; have := HZ2.out; omega)))
    have HBd : Hid (Blk Wd z2 78 ZTx.toArray) := hBd
    clear HD1 HB2a HWa hst hbd hgd hsd hBd
    go_wp2_with fail
    refine planQ_normal (And.intro hD1 ?_)
    refine' plan_quiet (s := 198) (A1 := _) (r := []) [6, 7] [_, _] _ rfl rfl rfl (fun W hW => ?hq2) _ hD1 (fun _ => ?hr2)
    case hq2 =>
      try simp only [List.getElem_toArray, List.getElem_cons_zero, List.getElem_cons_succ]
      iterate 2 (go_big_quiet_step (fail))
      refine wpQuiet_nil ?_
      rfl
    case hr2 =>
    refine plan_end fun k2 => NoPanic.normal ?_
    have HBe := Lib.hid (HBd.out.fut (below_draws Wd k2))
    have HWe := Lib.hid (below_fut HWd.out (below_draws Wd k2) (by have := HWd.out.size; omega))
    clear hD1 HBd HWd
    generalize Wd.drewN k2 = We at *
    go_wp2_with fail
    refine bodyPost_ret (results_tt rfl _ _ _ z2 _ ZTx _ rfl HBe.out Try.underlying78 rfl (info_Tx rfl)) rfl ?_
    rw [HPP.out]
    exact ⟨ZTx, _, rfl, ⟨.slice none 0 0, .slice none 0 0, rfl, RowO.nil _ _ _ _ _, RowO.nil _ _ _ _ _⟩, own_none _ _, HWe.out⟩
  subst he
  have HPP : Hid (PP = (⟨ve.setWidth 32, l, os, lo.setWidth 32⟩, sr, 0)) := Lib.hid (by
    have h0 := Cn.out
    unfold Cnt at h0
    rw [if_pos rfl] at h0
    rw [hP.out, h0]
    rfl)
  obtain ⟨pr, nr, cr, rfl, hnr, hncr, hcmr, hrr, hpr⟩ := D2.out.open
  obtain ⟨cs, hcs⟩ : ∃ cs : List Value, cs = [vv, .slice p6 n6 c6, .slice p8 n8 c8, lv] := ⟨_, rfl⟩
  have HCSL : Hid (cs.length = 4) := Lib.hid (by rw [hcs]; rfl)
  have hone : cs.toArray.all (·.oneCell') = true := by rw [hcs, HVV.out, HLV.out, List.all_toArray]; rfl
  have HCS := Lib.hid hcs
  have HB3q : Hid (Blk Wp z6 78 cs.toArray) := Lib.hid (by rw [hcs]; exact HB3p.out)
  have HNR := Lib.hid hnr
  have HRR := Lib.hid hrr
  clear hcs hnr hrr hpr HB3p
  go_upto_region 33 with fail
  clear k0 k1 kf0 kf1
  refine region_plan [qq 2, qq 3, qq 4, qq 5, qq 0, oo 1, oo 6, oo 7, qq 8, qq 9] (fun W => Blk W z6 78 cs.toArray ∧ Blk W g 132 #[.slice pr nr cr, .int .i64 0]) (by as_aux_lemma => kernel_rfl) (by as_aux_lemma => kernel_rfl) ⟨HB3q.out.fut (below_draws Wp 1), D1.out.fut (below_draws Wp 1)⟩ ?_
  refine' plan_quiet (s := 198) (A1 := _) [2, 3, 4, 5, 0] [_, _, _, _, _] _ rfl rfl rfl (fun W hW => ?hq3) _ ⟨HB3q.out.fut (below_draws Wp 1), D1.out.fut (below_draws Wp 1)⟩ (fun _ => ?hr3)
  case hq3 =>
    have e1 : ∀ k, (W.drewN k).cell? ⟨g, 0, none⟩ = some (.slice pr nr cr) := fun k => by have := hW.2.cell 0; simpa using this
    try simp only [List.getElem_toArray, List.getElem_cons_zero, List.getElem_cons_succ]
    iterate 4 (go_big_quiet_step (fail))
    refine quiet_load_mid rfl 78 (.tmp 6) rfl z6 0 rfl cs _ (fun w hw => ?_) Try.underlying78 rfl (info_Tx HCSL.out) ?_
    · obtain ⟨k, rfl⟩ := hw
      exact blk_range hW.1
    refine wpQuiet_nil ?_
    rfl
  case hr3 =>
  refine plan_one rfl fun k1 => ?_
  have hdr : Below Wp.heap.size Wp (Wp.drew.drewN k1) := below_drewN (Below.refl _ _).drew k1
  have hF1 := HB3q.out.fut hdr
  have hF2 := D1.out.fut hdr
  have HB2a := Lib.hid (HB2p.out.fut hdr)
  have HWa := Lib.hid (below_fut HWp.out hdr (by have := HWp.out.size; omega))
  have HIa := Lib.hid (HIp.out.sep (inN_keeps B) (Stays.of_below hdr (Nat.le_refl _) (fun _ => False)) (fun _ h => h.elim))
  have HOa := Lib.hid (HOp.out.sep (outO_keeps B) (Stays.of_below hdr (Nat.le_refl _) (fun _ => False)) (fun _ h => h.elim))
  have HRRa := Lib.hid (HRR.out.fut hdr)
  have hBa : B ≤ (Wp.drew.drewN k1).heap.size := Nat.le_trans d5 hdr.size
  clear D1 D2 HRp HB2p HB3q HIp HOp HWp HRR hdr d5
  generalize Wp.drew.drewN k1 = Wa at *
  go_wp2_with fail
  have hnew := below_new Wa (.cells #[] 5)
  have hlit := own_lit0 Wa B hBa
  have hSb : Stays (fun _ => False) Wa (Wa.alloc (.cells #[] 5)) := Stays.of_below hnew (Nat.le_refl _) _
  refine planQ_normal (And.intro ⟨hF1.fut hnew, hF2.fut hnew⟩ ?_)
  refine plan_one rfl fun k2 => ?_
  have hdr := below_draws (Wa.alloc (.cells #[] 5)) k2
  have HSc : Hid (Stays (fun _ => False) Wa ((Wa.alloc (.cells #[] 5)).drewN k2)) := Lib.hid (hSb.drewN k2)
  have hlitc := Own8.fut hlit hdr
  have HRRc := Lib.hid ((HRRa.out.fut hnew).fut hdr)
  have hBc : B ≤ ((Wa.alloc (.cells #[] 5)).drewN k2).heap.size := Nat.le_trans hBa (Nat.le_trans hnew.size hdr.size)
  clear HRRa hdr hlit hnew hSb
  generalize (Wa.alloc (.cells #[] 5)).drewN k2 = Wc at *
  refine wp_append8 (o := ⟨some 197, _, _, _, _, _⟩) rfl (.tmp 192) (.tmp 196) rfl B _ [] rfl hlitc pr nr cr sr rfl HNR.out HRRc.out (by simp only [List.length_nil]; have := D3.out; omega) hBc B Wc (Below.refl _ _) (Nat.le_refl _) ?_
  intro vn Wd hown _ hgd hjd
  rw [List.nil_append] at hown
  have hSd : Stays (fun _ => False) Wa Wd := HSc.out.trans (Stays.of_grown (S := fun k => k = Wa.heap.size) hgd (fun k h => by injection h with h; exact h.symm)) (fun q hq h => by have : q = Wa.heap.size := h; omega)
  have hF1d := hF1.stays hSd (fun h => h)
  have hF2d := hF2.stays hSd (fun h => h)
  have HOWN := Lib.hid hown
  have HB2d := Lib.hid (HB2a.out.stays hSd (fun h => h))
  have HId := Lib.hid (HIa.out.sep (inN_keeps B) hSd (fun _ h => h.elim))
  have HOd := Lib.hid (HOa.out.sep (outO_keeps B) hSd (fun _ h => h.elim))
  have HWd : Hid (Below w.heap.size w Wd) := Lib.hid (HWa.out.trans (hSd.below HWa.out.size (fun _ h => h.elim)))
  clear HSc hlitc HRRc hBc hgd hjd hown hSd hF1 hF2 HB2a HIa HOa HWa hBa
  go_wp2_with fail
  refine planQ_normal (And.intro ⟨hF1d, hF2d⟩ ?_)
  refine plan_one rfl fun k3 => ?_
  have hdr := below_draws Wd k3
  have hF1e := hF1d.fut hdr
  have hF2e := hF2d.fut hdr
  have HOWNe := Lib.hid (Own8.fut HOWN.out hdr)
  have HB2e := Lib.hid (HB2d.out.fut hdr)
  have HIe := Lib.hid (HId.out.sep (inN_keeps B) (Stays.of_below hdr (Nat.le_refl _) (fun _ => False)) (fun _ h => h.elim))
  have HOe := Lib.hid (HOd.out.sep (outO_keeps B) (Stays.of_below hdr (Nat.le_refl _) (fun _ => False)) (fun _ h => h.elim))
  have HWe := Lib.hid (below_fut HWd.out hdr (by have := HWd.out.size; omega))
  clear hF1d hF2d HOWN HB2d HId HOd HWd hdr
  generalize Wd.drewN k3 = We at *
  refine wp_store_blk (o := ⟨none, _, _, _, _, _⟩) rfl 78 (.tmp 2) (.tmp 191) rfl z2 78 ZTx.toArray cs.toArray rfl rfl HB2e.out (info_Tx (cs := cs) HCSL.out) (by show 4 = _; rw [List.size_toArray]; exact HCSL.out.symm) hone z2 We (Below.refl _ _) (Nat.le_refl _) ?_
  intro Wf hBf hbf hgf hsf
  have hst := Stays.of_grown (S := fun k => k = z2) hgf.out (fun k h => by injection h with h; exact h.symm)
  have hlow : ∀ k, k = z2 → k < B := fun k h => by omega
  have hF1f := hF1e.stays hst (by omega)
  have hF2f := hF2e.stays hst (by omega)
  have HOWNf := Lib.hid (HOWNe.out.sep hst (Sep.low hlow))
  have HIf := Lib.hid (HIe.out.sep (inN_keeps B) hst (Sep.low hlow))
  have HOf := Lib.hid (HOe.out.sep (outO_keeps B) hst (Sep.low hlow))
  have HWf : Hid (Below w.heap.size w Wf) := Lib.hid (HWe.out.trans (hst.below HWe.out.size (fun k hk => by have : k = z2 := hk; have := HZ2.out; omega)))
  have HBf : Hid (Blk Wf z2 78 cs.toArray) := hBf
  clear hF1e hF2e HOWNe HB2e HIe HOe HWe hst hlow hbf hgf hsf hBf
  go_wp2_with fail
  refine planQ_normal (And.intro ⟨hF1f, hF2f⟩ ?_)
  refine' plan_quiet (s := 198) (A1 := _) (r := []) [8, 9] [_, _] _ rfl rfl rfl (fun W hW => ?hq4) _ ⟨hF1f, hF2f⟩ (fun _ => ?hr4)
  case hq4 =>
    try simp only [List.getElem_toArray, List.getElem_cons_zero, List.getElem_cons_succ]
    iterate 2 (go_big_quiet_step (fail))
    refine wpQuiet_nil ?_
    rfl
  case hr4 =>
  refine plan_end fun k4 => NoPanic.normal ?_
  have hdr := below_draws Wf k4
  have HBg := Lib.hid (HBf.out.fut hdr)
  have HWg := Lib.hid (below_fut HWf.out hdr (by have := HWf.out.size; omega))
  have HOWNg := Lib.hid (Own8.fut HOWNf.out hdr)
  have HIg := Lib.hid (HIf.out.sep (inN_keeps B) (Stays.of_below hdr (Nat.le_refl _) (fun _ => False)) (fun _ h => h.elim))
  have HOg := Lib.hid (HOf.out.sep (outO_keeps B) (Stays.of_below hdr (Nat.le_refl _) (fun _ => False)) (fun _ h => h.elim))
  clear hF1f hF2f HBf HWf HOWNf HIf HOf hdr
  generalize Wf.drewN k4 = Wg at *
  go_wp2_with fail
  refine bodyPost_ret (results_tt rfl _ _ _ z2 _ cs _ rfl HBg.out Try.underlying78 rfl (info_Tx HCSL.out)) rfl ?_
  rw [HPP.out]
  exact ⟨cs, _, rfl, ⟨.slice p6 n6 c6, .slice p8 n8 c8, by rw [HCS.out, HVV.out, HLV.out], HIg.out.mono (fun _ _ h => h.1.mono hBw) hBw, HOg.out.mono (fun _ _ h => h.mono hBw) hBw⟩, ownsRow_mono HOWNg.out hBw, HWg.out⟩
end Go.Proofs.Ytndobjlodpkknaa
namespace Go.Proofs.Ytndobjlodpkknaa
open Go Go.RowKit
set_option linter.unusedVariables false
def NZ {α : Type} (p : Pz α) : Prop := ∀ s k, p s = .error k → k ≠ 0
theorem NZ.ret {α : Type} (a : α) : NZ (Pz.ret a) := fun s k h => by cases h
theorem NZ.fail {α : Type} {e : Int} (he : e ≠ 0) : NZ (Pz.fail (α := α) e) := fun s k h => by
  injection h with h
  rw [← h]
  exact he
theorem NZ.bind {α β : Type} {p : Pz α} {f : α → Pz β} (hp : NZ p) (hf : ∀ a, NZ (f a)) : NZ (p.bind f) := fun s k h => by
  cases hs : p s with
  | error e =>
    rw [Pz.bind_err hs] at h
    injection h with h
    rw [← h]
    exact hp s e hs
  | ok x =>
    obtain ⟨a, r⟩ := x
    rw [Pz.bind_ok hs] at h
    exact hf a r k h
theorem nz_take (n : Nat) : NZ (takeZ n) := fun s k h => by
  unfold takeZ at h
  split at h
  · injection h with h; rw [← h]; decide
  · cases h
theorem nz_num (w : Nat) : NZ (numZ w) := (nz_take w).bind fun _ => NZ.ret _
theorem nz_cnt (most : Nat) : NZ (cntZ most) := fun s k h => by
  unfold cntZ at h
  split at h
  · rename_i h0
    injection h with h; rw [← h]; exact h0
  · split at h
    · injection h with h; rw [← h]; decide
    · cases h
theorem nz_text : NZ textZ := (nz_cnt _).bind nz_take
theorem nz_many {α : Type} {p : Pz α} (h : NZ p) : ∀ n, NZ (manyZ p n)
  | 0 => NZ.ret _
  | n + 1 => h.bind fun _ => (nz_many h n).bind fun _ => NZ.ret _
theorem nz_in : NZ inZ := (nz_take 32).bind fun _ => (nz_num 4).bind fun _ => nz_text.bind fun _ => (nz_num 4).bind fun _ => NZ.ret _
theorem nz_out : NZ outZ := (nz_num 8).bind fun v => by
  split
  · exact NZ.fail (by decide)
  · exact nz_text.bind fun _ => NZ.ret _
theorem nz_wits : ∀ l, NZ (witsZ l)
  | [] => NZ.ret _
  | x :: l => ((nz_cnt 100).bind (nz_many nz_text)).bind fun _ => (nz_wits l).bind fun _ => NZ.ret _
theorem nz_ins : NZ insZ := (nz_cnt 2000).bind fun n => by
  split
  · exact NZ.fail (by decide)
  · exact nz_many nz_in n
theorem nz_wit (m : Bool) (l : List TIn) : NZ (witZ m l) := by
  unfold witZ
  split
  · exact (nz_wits l).bind fun l => by
      split
      · exact NZ.ret _
      · exact NZ.fail (by decide)
  · exact NZ.ret _
theorem nz_body (ve : BitVec 64) (m : Bool) : NZ (bodyZ ve m) := nz_ins.bind fun _ => ((nz_cnt 2000).bind (nz_many nz_out)).bind fun _ => (nz_wit m _).bind fun _ => (nz_num 4).bind fun _ => NZ.ret _
theorem nz_mark : NZ markZ := fun s k h => by
  unfold markZ at h
  split at h
  · refine ((nz_take 2).bind fun b => ?_) s k h
    split
    · exact NZ.ret _
    · exact NZ.fail (by decide)
  · cases h
theorem nz_tx : NZ txZ := (nz_num 4).bind fun ve => nz_mark.bind (nz_body ve)
end Go.Proofs.Ytndobjlodpkknaa
