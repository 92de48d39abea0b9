/- sporranplain.SameFrames: the walk. -/
import Derived.Test.YtikjhnbehihbjaaDoorFrmF
namespace Go.Proofs.YtikjhnbehihbjaaDoor
open Go Go.RowKit
set_option linter.unusedVariables false

abbrev Frms := List (List (BitVec 8) × List (BitVec 8))
/-- from p on lie frames -/
def FrmAt (w : World) (p : Option Addr) (fs : Frms) : Prop :=
  fs ≠ [] → ∃ b o, p = some ⟨b, o, none⟩ ∧ b < w.heap.size ∧ ∀ i f, fs[i]? = some f → ∃ u, w.cell? ⟨b, o + 2 * i, none⟩ = some (.string (strB f.1)) ∧ w.cell? ⟨b, o + 2 * i + 1, none⟩ = some u ∧ Sl w u f.2
theorem FrmAt.fut {w w' : World} {p : Option Addr} {fs : Frms} (h : FrmAt w p fs) (hb : Below w.heap.size w w') : FrmAt w' p fs := fun hn => by
  obtain ⟨b, o, rfl, hlt, hc⟩ := h hn
  refine ⟨b, o, rfl, Nat.lt_of_lt_of_le hlt hb.size, fun i f hf => ?_⟩
  obtain ⟨u, h1, h2, h3⟩ := hc i f hf
  exact ⟨u, (hb.cell (p := ⟨b, _, none⟩) hlt).trans h1, (hb.cell (p := ⟨b, _, none⟩) hlt).trans h2, h3.fut hb⟩
theorem FrmRows.at {w : World} {B : Nat} {v : Value} {fs : Frms} (h : FrmRows w B v fs) : ∃ p c, v = .slice p fs.length c ∧ fs.length ≤ c ∧ c ≤ 9223372036854775807 ∧ FrmAt w p fs := by
  obtain ⟨vs, h1, h2, h3⟩ := h
  obtain ⟨p, c, rfl, h4, h5, _, h6⟩ := ownsRow_open h2
  refine ⟨p, c, rfl, h4, h5, fun hn => ?_⟩
  rcases h6 with h0 | ⟨g, rfl, _, hlt, hc⟩
  · exact absurd (List.eq_nil_of_length_eq_zero h0) hn
  · refine ⟨g, 0, rfl, hlt, fun i f hf => ?_⟩
    have hi : i < vs.length := by rw [h1]; exact (List.getElem?_eq_some_iff.1 hf).1
    have hu := List.getElem?_eq_getElem hi
    obtain ⟨k1, k2⟩ := frmCells_at fs vs i f _ hf hu
    rw [Nat.zero_add]
    exact ⟨_, hc _ _ k1, hc _ _ k2, (h3 i f _ hf hu).1⟩

theorem frmEq_split (f g : List (BitVec 8) × List (BitVec 8)) : decide (f = g) = (decide (f.1 = g.1) && decide (f.2 = g.2)) := by
  rw [Bool.eq_iff_iff]
  simp [Prod.ext_iff]
set_option maxRecDepth 100000 in
set_option maxHeartbeats 4000000 in
theorem sameF_any (f g : List (BitVec 8) × List (BitVec 8)) (u v : Value) (w : World) (hu : Sl w u f.2) (hv : Sl w v g.2) :
    Calls Tryd.prog 31 #[.agg #[.string (strB f.1), u], .agg #[.string (strB g.1), v]] w fun e w' => e = .returned (.bool (decide (f = g))) ∧ Below w.heap.size w w' := by
  obtain ⟨p1, n1, c1, rfl, hl1, _, _, hr1, _⟩ := hu
  obtain ⟨p2, n2, c2, rfl, hl2, _, _, hr2, _⟩ := hv
  have HL1 := Lib.hid hl1
  have HL2 := Lib.hid hl2
  have HR1 := Lib.hid hr1
  have HR2 := Lib.hid hr2
  have HD : Hid (decide (f = g) = (decide (f.1 = g.1) && decide (f.2 = g.2))) := Lib.hid (frmEq_split f g)
  have hE := strB_eq f.1 g.1
  obtain ⟨b, hb⟩ : ∃ b, b = decide (f.1 = g.1) := ⟨_, rfl⟩
  rw [← hb] at hE HD
  obtain ⟨r, hr⟩ : ∃ r, r = decide (f = g) := ⟨_, rfl⟩
  rw [← hr] at HD ⊢
  generalize strB f.1 = S1, strB g.1 = S2 at hE ⊢
  clear hl1 hl2 hr1 hr2 hb hr
  cases b with
  | false =>
    have HF : Hid (r = false) := Lib.hid (by rw [HD.out]; rfl)
    go_enter Tryd.func31, Tryd.ntmps31
    go_wp2_with fail
    go_ret
    exact ⟨by rw [HF.out]; rfl, below_fut (below_new w _) (below_new _ _) (Nat.le_refl _)⟩
  | true =>
    have HF : Hid (r = decide (f.2 = g.2)) := Lib.hid (by rw [HD.out]; rfl)
    go_enter Tryd.func31, Tryd.ntmps31
    go_wp2_with fail
    have hb2 := below_fut (below_new w (.cells #[.string S1, .slice p1 n1 c1] 24)) (below_new _ (.cells #[.string S2, .slice p2 n2 c2] 24)) (Nat.le_refl _)
    refine (equal_any p1 p2 n1 c1 n2 c2 f.2 g.2 _ (HR1.out.fut hb2) (HR2.out.fut hb2) HL1.out HL2.out).mono ?_
    rw [← HF.out]
    rintro e w' ⟨rfl, hw⟩
    replace hw := hw.symm
    subst hw
    go_wp2_with fail
    go_ret
    exact ⟨rfl, hb2⟩

theorem frms_take (fs gs : Frms) (k : Nat) (f g : List (BitVec 8) × List (BitVec 8)) (hf : fs[k]? = some f) (hg : gs[k]? = some g) (h : fs.take k = gs.take k) (e : f = g) : fs.take (k + 1) = gs.take (k + 1) := by
  rw [List.take_add_one, List.take_add_one, hf, hg, h, e]
set_option maxRecDepth 100000 in
set_option maxHeartbeats 8000000 in
theorem frmEqF_any (p q : Option Addr) (n c m d : Nat) (fs gs : Frms) (w : World) (hn : fs.length = n) (hm : gs.length = m) (hnc : n ≤ c) (hc : c ≤ 9223372036854775807) (hmd : m ≤ d) (hd : d ≤ 9223372036854775807) (hf : FrmAt w p fs) (hg : FrmAt w q gs) :
    Calls Tryd.prog 30 #[.slice p n c, .slice q m d, .func (.func 31) #[] #[]] w fun e w' => e = .returned (.bool (decide (fs = gs))) ∧ Below w.heap.size w w' := by
  have HN := Lib.hid hn
  have HM := Lib.hid hm
  have HF := Lib.hid hf
  have HG := Lib.hid hg
  obtain ⟨r, hr⟩ : ∃ r, r = decide (fs = gs) := ⟨_, rfl⟩
  have HD := Lib.hid hr
  rw [← hr]
  clear hn hm hf hg hr
  by_cases hnm : n = m
  · subst hnm
    go_enter Tryd.func30, Tryd.ntmps30
    go_wp2_with fail
    go_loopw [17] (fun i wr => ∃ k : Nat, k ≤ n ∧ i = .int .i64 k ∧ Hid (fs.take k = gs.take k) ∧ Below w.heap.size w wr) (fun i _ => n - (intOf i).toNat)
    case atStart => exact ⟨0, by omega, rfl, Lib.hid rfl, Below.refl _ _⟩
    case round =>
      obtain ⟨k, hk, rfl, hkk, hbw⟩ := hrel
      by_cases hkn : k < n
      · have hki : (k : Int) < (n : Int) := by omega
        obtain ⟨b1, o1, hp1, hlt1, hall1⟩ := (HF.out.fut hbw) (by intro e; have := HN.out; rw [e] at this; simp at this; omega)
        obtain ⟨b2, o2, hp2, hlt2, hall2⟩ := (HG.out.fut hbw) (by intro e; have := HM.out; rw [e] at this; simp at this; omega)
        subst hp1 hp2
        obtain ⟨f, hfk⟩ : ∃ f, fs[k]? = some f := ⟨_, List.getElem?_eq_getElem (by rw [HN.out]; exact hkn)⟩
        obtain ⟨g, hgk⟩ : ∃ g, gs[k]? = some g := ⟨_, List.getElem?_eq_getElem (by rw [HM.out]; exact hkn)⟩
        obtain ⟨u, cu0, cu1, hu⟩ := hall1 k f hfk
        obtain ⟨v, cv0, cv1, hv⟩ := hall2 k g hgk
        obtain ⟨pu, nu, cu, rfl, hu2⟩ := hu
        obtain ⟨pv, nv, cv, rfl, hv2⟩ := hv
        have HU : Hid (Sl wr (.slice pu nu cu) f.2) := Lib.hid ⟨_, _, _, rfl, hu2⟩
        have HV : Hid (Sl wr (.slice pv nv cv) g.2) := Lib.hid ⟨_, _, _, rfl, hv2⟩
        have hst := Lib.hid (frms_take fs gs k f g hfk hgk hkk.out)
        have hno : Hid (f ≠ g → fs ≠ gs) := Lib.hid (fun h e => h (by rw [e, hgk] at hfk; injection hfk with h; exact h.symm))
        clear hall1 hall2 hfk hgk hu2 hv2
        rw [Nat.mul_comm] at cu0 cu1 cv0 cv1
        go_wp2_with fail
        have hb2 : Below wr.heap.size wr ((wr.alloc (.cells #[.string (strB f.1), .slice pu nu cu] 24)).alloc (.cells #[.string (strB g.1), .slice pv nv cv] 24)) := below_fut (below_new wr _) (below_new _ _) (Nat.le_refl _)
        refine (sameF_any f g _ _ _ (HU.out.fut hb2) (HV.out.fut hb2)).mono ?_
        rintro e w3 ⟨rfl, hb3⟩
        have hbw3 := below_fut (below_fut hbw hb2 (Nat.le_refl _)) hb3 (Nat.le_refl _)
        clear hb2 hb3
        by_cases hfg : f = g
        · have HE := Lib.hid (hst.out hfg)
          rw [decide_eq_true hfg]
          clear hfg
          go_wp2_with fail
          go_roundw
          case rel => exact ⟨k + 1, by omega, by go_num, HE, hbw3⟩
          case measure => simp [intOf]; omega
        · have HE : Hid (r = false) := Lib.hid (by rw [HD.out]; exact decide_eq_false (hno.out hfg))
          rw [decide_eq_false hfg]
          clear hfg
          go_wp2_with fail
          go_ret
          exact ⟨by rw [HE.out]; rfl, hbw3⟩
      · have hki : ¬ (k : Int) < (n : Int) := by omega
        have HE : Hid (r = true) := Lib.hid (by
          have e : k = n := by omega
          subst e
          have := hkk.out
          rw [List.take_of_length_le (by rw [HN.out]; exact Nat.le_refl _), List.take_of_length_le (by rw [HM.out]; exact Nat.le_refl _)] at this
          rw [HD.out]; exact decide_eq_true this)
        go_wp2_with fail
        go_ret
        exact ⟨by rw [HE.out]; rfl, hbw⟩
  · have HE : Hid (r = false) := Lib.hid (by rw [HD.out]; exact decide_eq_false (fun e => hnm (by rw [← HN.out, ← HM.out, e])))
    have h1 : ((n : Int) == (m : Int)) = false := by rw [beq_eq_false_iff_ne]; omega
    have h2 : ((n : Int) != (m : Int)) = true := by rw [bne, h1]; rfl
    go_enter Tryd.func30, Tryd.ntmps30
    go_wp2_with fail
    go_ret
    exact ⟨by rw [HE.out]; rfl, Below.refl _ _⟩
set_option maxRecDepth 100000 in
theorem sameFrames_any (p q : Option Addr) (n c m d : Nat) (fs gs : Frms) (w : World) (hn : fs.length = n) (hm : gs.length = m) (hnc : n ≤ c) (hc : c ≤ 9223372036854775807) (hmd : m ≤ d) (hd : d ≤ 9223372036854775807) (hf : FrmAt w p fs) (hg : FrmAt w q gs) :
    Calls Tryd.prog 19 #[.slice p n c, .slice q m d] w fun e w' => e = .returned (.bool (decide (fs = gs))) ∧ Below w.heap.size w w' := by
  have H := frmEqF_any p q n c m d fs gs w hn hm hnc hc hmd hd hf hg
  generalize decide (fs = gs) = r at H ⊢
  clear hn hm hf hg
  go_enter Tryd.func19, Tryd.ntmps19
  go_wp2_with fail
  refine H.mono ?_
  rintro e w' ⟨rfl, hb⟩
  go_wp2_with fail
  go_ret
  exact ⟨rfl, hb⟩
end Go.Proofs.YtikjhnbehihbjaaDoor
