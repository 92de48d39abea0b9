/- sporranref09.Reader's Feed: the walk. -/
import Derived.Test.YtikjhnbehihbjaaDoorFrmG
namespace Go.Proofs.YtikjhnbehihbjaaDoor
open Go.RowKit
set_option linter.unusedVariables false

structure RInv (w : World) (g : Nat) (tot : List (BitVec 8)) (l : Value) (wr : World) (fs : List (List (BitVec 8) × List (BitVec 8))) (cur : List (BitVec 8)) (u : Value) : Prop where
  rows : FrmRows wr w.heap.size l fs
  rd : RdR wr g u 0
  own : Own8 wr w.heap.size u cur
  stays : Stays (· = g) w wr
  all : frmAll tot = (fs ++ (frmAll cur).1, (frmAll cur).2)
  len : fs.length * 24 + cur.length ≤ tot.length
def RFeedPost (w : World) (g : Nat) (x : List (List (BitVec 8) × List (BitVec 8)) × List (BitVec 8) × Int) (e : Ending) (w' : World) : Prop :=
  ∃ l v', e = .returned (.tuple #[l, .int .i64 x.2.2]) ∧ FrmRows w' w.heap.size l x.1 ∧ RdR w' g v' x.2.2 ∧ Own8 w' w.heap.size v' x.2.1 ∧ Stays (· = g) w w'
theorem Own8.stays {S : Nat → Prop} {w w' : World} {B : Nat} {v : Value} {bs : List (BitVec 8)} (h : Own8 w B v bs) (hs : Stays S w w') (hn : ∀ k, v.ownBlock = some k → ¬ S k) : Own8 w' B v bs := ownsRow_stays h hs hn
section
variable {w : World} {g : Nat} {tot : List (BitVec 8)} {l : Value} {wr w' : World} {fs : List (List (BitVec 8) × List (BitVec 8))} {cur : List (BitVec 8)} {u : Value}
theorem RInv.fut (h : RInv w g tot l wr fs cur u) (hb : Below wr.heap.size wr w') : RInv w g tot l w' fs cur u :=
  ⟨h.rows.fut hb, Blk.fut h.rd hb, h.own.fut hb, h.stays.trans (Stays.of_below hb (Nat.le_refl _) (fun _ => False)) (fun _ _ h => h.elim), h.all, h.len⟩
theorem RFeedPost.drewN {x : List (List (BitVec 8) × List (BitVec 8)) × List (BitVec 8) × Int} {e : Ending} (h : RFeedPost w g x e w') (k : Nat) : RFeedPost w g x e (w'.drewN k) := by
  obtain ⟨l, v', h1, h2, h3, h4, h5⟩ := h
  exact ⟨l, v', h1, h2.fut (below_draws _ _), h3, h4.fut (below_draws _ _), h5.drewN k⟩
theorem RInv.wait {w7 : World} (h : RInv w g tot l wr fs cur u) (hg : g < w.heap.size) (hs : frmStep cur = .wait) (hrd : RdR w7 g u 0) (hst : Stays (· = g) wr w7) : RFeedPost w g (frmAll tot) (.returned (.tuple #[l, .int .i64 0])) w7 := by
  have e := h.all
  rw [frmAll_wait hs, List.append_nil] at e
  rw [e]
  exact ⟨l, u, rfl, h.rows.stays hst (fun k hk e => by omega), hrd, h.own.stays hst (fun k hk e => by have := (World.ownsRow.lt h.own k hk).1; omega), h.stays.trans hst (fun _ _ h => h)⟩
theorem RInv.fault {w7 : World} {er : Int} (h : RInv w g tot l wr fs cur u) (hg : g < w.heap.size) (hs : frmStep cur = .fault er) (hrd : RdR w7 g u er) (hst : Stays (· = g) wr w7) : RFeedPost w g (frmAll tot) (.returned (.tuple #[l, .int .i64 er])) (w7.setCell ⟨g, 0, none⟩ (.slice none 0 0)) := by
  have e := h.all
  rw [frmAll_fault hs, List.append_nil] at e
  rw [e]
  have h2 := hst.trans (Stays.set w7 g 0 (.slice none 0 0)) (fun _ _ h => h)
  exact ⟨l, _, rfl, h.rows.stays h2 (fun k hk e => by omega), Blk.set hrd 0 _, Own8.nil _ _, h.stays.trans h2 (fun _ _ h => h)⟩
theorem RInv.step {w7 w8 : World} {u' l' q : Value} {cm pl r : List (BitVec 8)} {o : Obj} (h : RInv w g tot l wr fs cur u) (hg : g < w.heap.size) (hs : frmStep cur = .frame cm pl r)
    (hst : Stays (· = g) wr w7) (hrd : RdR w7 g u' 0) (hou : Own8 w7 wr.heap.size u' r) (hq : Sl w7 q pl) (hqo : ∀ k, q.ownBlock = some k → wr.heap.size ≤ k ∧ k < w7.heap.size)
    (vs : List Value) (hvl : vs.length = fs.length) (hown : w7.ownsRow w.heap.size 24 2 l fs.length (frmCells fs vs))
    (hvs : ∀ (i : Nat) (f : List (BitVec 8) × List (BitVec 8)) (u : Value), fs[i]? = some f → vs[i]? = some u → Sl w7 u f.2 ∧ ∀ k, u.ownBlock = some k → w.heap.size ≤ k ∧ k < w7.heap.size ∧ l.ownBlock ≠ some k)
    (ho : w8.ownsRow w.heap.size 24 2 l' (fs.length + 1) (frmCells fs vs ++ [.string (strB cm), q])) (hgr : (w7.alloc o).grownBy w8 l.ownBlock) (hl : l'.ownBlock = l.ownBlock ∨ l'.ownBlock = some (w7.alloc o).heap.size) :
    RInv w g tot l' w8 (fs ++ [(cm, pl)]) r u' := by
  have hst8 : Stays (fun k => l.ownBlock = some k) w7 w8 := (Stays.of_below (below_new w7 o) (Nat.le_refl _) (fun k => l.ownBlock = some k)).trans (Stays.of_grown hgr (fun k hk => hk)) (fun k _ h => h)
  have hlb : ∀ k, l.ownBlock = some k → w.heap.size ≤ k ∧ k < wr.heap.size := by
    obtain ⟨vs', h1, h2, _⟩ := h.rows
    exact World.ownsRow.lt h2
  have hr24 := frmStep_rest hs
  have hlen := h.len
  have hub := World.ownsRow.lt hou
  have hsz := h.stays.size
  refine ⟨FrmRows.snoc ⟨vs, hvl, hown, hvs⟩ vs hvl hvs hq (fun k hk => ⟨?_, (hqo k hk).2, fun e => ?_⟩) ho hgr hl, ?_, ?_, ?_, ?_, ?_⟩
  · have := (hqo k hk).1; omega
  · have := hlb k e
    have := (hqo k hk).1
    omega
  · exact Blk.stays hrd hst8 (fun e => by have := (hlb g e).1; omega)
  · exact Own8.stays (hou.mono hsz) hst8 (fun k hk e => by have := (hlb k e).2; have := (hub k hk).1; omega)
  · exact (h.stays.trans hst (fun _ _ h => h)).trans hst8 (fun k hk h' => by have := (hlb k h').1; omega)
  · rw [h.all, frmAll_frame hs, List.append_assoc]
    rfl
  · rw [List.length_append, List.length_singleton]
    omega
end
theorem lenAt_rdr {w : World} {g : Nat} {p : Option Addr} {n c : Nat} {e : Int} (h : RdR w g (.slice p n c) e) : lenAt w g = n := by
  have := h.cell 0
  simp only [List.getElem?_toArray, List.getElem?_cons_zero] at this
  unfold lenAt
  rw [this]

theorem frmStep_ne {s : List (BitVec 8)} {er : Int} (h : frmStep s = .fault er) : (er == 0) = false := by
  rw [beq_eq_false_iff_ne]
  unfold frmStep at h
  split at h
  · cases h
  · split at h
    · split at h
      · cases h
      · split at h
        · cases h
        · injection h with h; omega
    · rename_i h1
      injection h with h
      rw [← h]
      exact h1
set_option maxRecDepth 100000 in
set_option maxHeartbeats 4000000 in
theorem rfeed_fault (g : Nat) (v u : Value) (e : Int) (w : World) (hB : RdR w g v e) (he : (e == 0) = false) :
    Calls Tryd.prog 17 #[.pointer (some ⟨g, 0, none⟩), u] w fun e' w' => e' = .returned (.tuple #[.slice none 0 0, .int .i64 e]) ∧ ∃ k, w' = w.drewN k := by
  have c1 := hB.cell 1
  have he2 : (e != 0) = true := by rw [bne, he]; rfl
  simp only [List.getElem?_toArray, List.getElem?_cons_zero, List.getElem?_cons_succ] at c1
  clear hB
  go_enter Tryd.func17, Tryd.ntmps17
  go_wp2_with fail
  go_quiet (fail)
  go_wp2
  go_ret2
  exact ⟨rfl, _, rfl⟩

set_option maxRecDepth 100000 in
set_option maxHeartbeats 8000000 in
theorem rfeed_any (g B : Nat) (v : Value) (s bs : List (BitVec 8)) (p : Option Addr) (n c : Nat) (w : World) (hB : RdR w g v 0) (hv : Own8 w B v s) (hr : Row8 w p bs) (hn : bs.length = n) (hlen : s.length + n ≤ 1000000000000) :
    Calls Tryd.prog 17 #[.pointer (some ⟨g, 0, none⟩), .slice p n c] w (RFeedPost w g (frmAll (s ++ bs))) := by
  have HR := Lib.hid hr
  have HN := Lib.hid hn
  have HB := Lib.hid hB
  have hglt := hB.lt
  have c0 := (Blk.alloc hB (.cells #[] 5)).cell 0
  have c1 := hB.cell 1
  have c1' := (Blk.alloc hB (.cells #[] 5)).cell 1
  simp only [List.getElem?_toArray, List.getElem?_cons_zero, List.getElem?_cons_succ] at c0 c1 c1'
  obtain ⟨q, m, d, rfl, hm, hmd, hd, hrs⟩ := hv.open
  obtain ⟨tot, htot⟩ : ∃ tot, tot = s ++ bs := ⟨_, rfl⟩
  have hsb : tot.length ≤ 1000000000000 := by rw [htot, List.length_append, hn]; exact hlen
  rw [← htot]
  have HTOT := Lib.hid htot
  have HRS := Lib.hid (hrs.fut (below_new w (.cells #[] 5)))
  have hm2 : m ≤ 1000000000000 := by have := hm.out; omega
  have hn2 : m + n ≤ 1000000000000 := by have := hm.out; omega
  clear hr hn hB hv htot hrs
  go_enter Tryd.func17, Tryd.ntmps17
  go_wp2_with (first
    | (with_reducible refine wp_append8 (o := ⟨some 24, _, _, _, _, _⟩) ?_ (.tmp 19) (.tmp 23) ?_ (w.heap.size) _ ([]) ?_ (own_lit0 w _ (Nat.le_refl _)) (q) (m) (d) (s) ?_ (hm.out) (HRS.out) ?_ ((by rw [World.size_alloc]; omega)) (w.heap.size) (w) (below_new w _) ?_ ?_
       · rfl
       · rfl
       · rfl
       · rfl
       · simp only [List.length_nil]; rw [hm.out]; omega
       · exact Nat.le_refl _
       intro v1 w1 ho1 hb1 _ _; rw [List.nil_append] at ho1; have hr1 := Lib.hid (HR.out.fut hb1); have hsz1 := hb1.size)
    | (with_reducible refine wp_append8 (o := ⟨some 26, _, _, _, _, _⟩) ?_ (.tmp 24) (.tmp 25) ?_ (w.heap.size) _ (s) ?_ (ho1) (p) (n) (c) (bs) ?_ (HN.out) (hr1.out) ?_ (hsz1) (w.heap.size) (w) (hb1) ?_ ?_
       · rfl
       · rfl
       · rfl
       · rfl
       · rw [hm.out, HN.out]; omega
       · exact Nat.le_refl _
       intro v2 w2 ho2 hb2 _ _; have hR2 := Lib.hid (Blk.fut HB.out hb2); have k0 := hR2.out.cell 0; have l0 := hR2.out.frozen 0; simp only [List.getElem?_toArray, List.getElem?_cons_zero] at k0; obtain ⟨p2, n2, c2, rfl, hn2', hl2, hm2', hr2⟩ := ho2.open))
  have hinv : ∃ fs cur p1 n1 c1, RInv w g tot (.slice none 0 0) (w2.setCell ⟨g, 0, none⟩ (.slice p2 n2 c2)) fs cur (.slice p1 n1 c1) := by
    have h1 : Stays (· = g) w2 (w2.setCell ⟨g, 0, none⟩ (.slice p2 n2 c2)) := Stays.set w2 g 0 _
    rw [HTOT.out]
    refine ⟨[], s ++ bs, p2, n2, c2, FrmRows.nil _ _, Blk.set hR2.out 0 _, ho2.stays h1 (fun k hk e => by have := (World.ownsRow.lt ho2 k hk).1; omega), (Stays.of_below hb2 (Nat.le_refl _) _).trans h1 (fun _ _ h => h), by simp, by simp⟩
  refine wp_abst (fun wr => ∃ fs cur p1 n1 c1, RInv w g tot (.slice none 0 0) wr fs cur (.slice p1 n1 c1)) hinv ?_
  clear hinv ho1 hb1 hr1 ho2 hb2 hR2 k0 l0 hr2 hn2' HTOT HRS HR HN c0 c1 c1' hm
  rintro w2 hinv
  go_loopw [6] (fun l wr => ∃ fs cur p1 n1 c1, RInv w g tot l wr fs cur (.slice p1 n1 c1)) (fun _ wr => lenAt wr g)
  case atStart => exact hinv
  case round =>
    clear hinv
    obtain ⟨fs, cur, p1, n1, d1, hI⟩ := hrel
    have HI := Lib.hid hI
    obtain ⟨p1', d1', e, hnd, hd1, hrc⟩ := hI.own.row
    injection e with e1 e2 e3
    subst e1 e3
    have hcl := Lib.hid e2.symm
    have hpn : Hid (p1 = none → d1 = 0) := Lib.hid (fun e => by
      rcases hI.own.2 with ⟨e', _⟩ | ⟨_, _, _, e', _⟩
      · injection e'
      · rw [e] at e'; injection e' with e'; cases e')
    rw [← e2] at hnd
    have hlen1 : n1 ≤ 1000000000000 := by have := hI.len; omega
    have HRC := Lib.hid hrc
    have HR0 := Lib.hid hI.rd
    have hd2 : d1 ≤ 9223372036854775807 := by unfold maxLen at hd1; omega
    clear hI hrc e2 hd1
    go_wp2_with fail
    refine (first_any g p1 n1 d1 cur _ HR0.out HRC.out hcl.out hnd hd2 hpn.out hlen1).mono ?_
    cases hx : frmStep cur with
    | wait =>
      have HX := Lib.hid hx
      clear hx
      rintro e w3 ⟨rfl, hrd3, hst3⟩
      have HF := Lib.hid (fun (W : World) (hb : Below w3.heap.size w3 W) => HI.out.wait hglt HX.out (hrd3.fut hb) (hst3.trans (Stays.of_below hb (Nat.le_refl _) (fun _ => False)) (fun _ _ h => h.elim)))
      have c1 := (Blk.alloc hrd3 (.cells #[.string ⟨#[]⟩, .slice none 0 0] 24)).cell 1
      simp only [List.getElem?_toArray, List.getElem?_cons_zero, List.getElem?_cons_succ] at c1
      unfold noFrm
      clear hrd3 hst3
      go_wp2_with fail
      go_quiet (fail)
      go_wp2
      go_ret2
      exact (HF.out _ (below_new w3 _)).drewN _
    | fault er =>
      have her := frmStep_ne hx
      have he2 : (er != 0) = true := by rw [bne, her]; rfl
      have HX := Lib.hid hx
      clear hx
      rintro e w3 ⟨rfl, hrd3, hst3⟩
      have HRD := Lib.hid (Blk.alloc hrd3 (.cells #[.string ⟨#[]⟩, .slice none 0 0] 24))
      have HST := Lib.hid (hst3.alloc (.cells #[.string ⟨#[]⟩, .slice none 0 0] 24))
      have c0 := HRD.out.cell 0
      have c1 := HRD.out.cell 1
      have f0 := HRD.out.frozen 0
      have c1' := (HRD.out.set 0 (.slice none 0 0)).cell 1
      simp only [List.getElem?_toArray, List.getElem?_cons_zero, List.getElem?_cons_succ, List.setIfInBounds_toArray, List.set_cons_zero] at c0 c1 c1'
      unfold noFrm
      clear hrd3 hst3
      go_wp2_with fail
      go_quiet (fail)
      go_wp2
      go_ret2
      exact (HI.out.fault hglt HX.out HRD.out HST.out).drewN _
    | frame nm pl r =>
      have HX := Lib.hid hx
      clear hx
      rintro e w3 ⟨v3, u3, rfl, hov, hou, hrd3, hst3, hne⟩
      have hbo := World.ownsRow.lt hov
      obtain ⟨p3, c3, rfl, hpc, hcm, hr3, hb3⟩ := hov.row'
      obtain ⟨l3, hl3⟩ : ∃ l3, l3 = pl.length := ⟨_, rfl⟩
      rw [← hl3] at hbo hpc hne ⊢
      obtain ⟨w4, hw4⟩ : ∃ w4, w4 = w3.alloc (.cells #[.string (strB nm), .slice p3 l3 c3] 24) := ⟨_, rfl⟩
      have hb34 : Below w3.heap.size w3 w4 := by rw [hw4]; exact below_new w3 _
      have hA := Blk.new w3 24 #[.string (strB nm), .slice p3 l3 c3]
      rw [← hw4] at hA
      have a0 := hA.cell 0
      have a1 := hA.cell 1
      simp only [List.getElem?_toArray, List.getElem?_cons_zero, List.getElem?_cons_succ] at a0 a1
      have hp0 : p3 = none → c3 = 0 := fun e => by
        rcases hov.2 with ⟨e', _⟩ | ⟨_, _, _, e', _⟩
        · injection e'
        · rw [e] at e'; injection e' with e'; cases e'
      have HQ : Hid (Sl w4 (.slice p3 l3 c3) pl) := Lib.hid ⟨_, _, _, rfl, hl3.symm, hpc, hcm, hr3.fut hb34, hp0⟩
      have HQO : Hid (∀ k, (Value.slice p3 l3 c3).ownBlock = some k → wr.heap.size ≤ k ∧ k < w4.heap.size) := Lib.hid (fun k hk => ⟨(hbo k hk).1, Nat.lt_of_lt_of_le (hbo k hk).2 hb34.size⟩)
      have HRD : Hid (RdR w4 g u3 0) := Lib.hid (Blk.fut hrd3 hb34)
      have HOU := Lib.hid (hou.fut hb34)
      have HST := Lib.hid (hst3.trans (Stays.of_below hb34 (Nat.le_refl _) (fun _ => False)) (fun _ _ h => h.elim))
      obtain ⟨vs, hvl, hown, hvs⟩ := HI.out.rows.stays HST.out (fun k hk e => by omega)
      have HOWN := Lib.hid hown
      have HVS := Lib.hid hvs
      have HVL := Lib.hid hvl
      have hfl : Hid (fs.length ≤ 50000000000) := Lib.hid (by have := HI.out.len; omega)
      have hszw : w.heap.size ≤ w4.heap.size := by have := HI.out.stays.size; have := HST.out.size; omega
      have HW4 := Lib.hid hw4
      clear hl3 hbo hpc hcm hr3 hb3 hov hou hrd3 hst3 hne hown hvs hvl hp0 hA hw4
      go_upto_region 7 with fail
      rw [← HW4.out]
      go_wp2_with (with_reducible refine wp_rowapp (o := ⟨some 39, _, _, _, _, _⟩) ?_ (.tmp 36) (.tmp 38) 34 24 ?_ _ 2 40 Tryd.underlying34 frm_info ?_ ?_ ?_ w.heap.size u6 fs.length (frmCells fs vs) ?_ (World.ownsRow.alloc HOWN.out _) w4.heap.size 1 1 [.string (strB nm), .slice p3 l3 c3] ?_ (Blk.new w4 _ _) ?_ ?_ ?_ ?_ ?_
                   · rfl
                   · rfl
                   · rfl
                   · omega
                   · omega
                   · rfl
                   · rfl
                   · rfl
                   · intro u hu; simp only [List.mem_cons, List.not_mem_nil, or_false] at hu; rcases hu with rfl | rfl <;> rfl
                   · have := hfl.out; omega
                   · rw [World.size_alloc]; omega
                   intro l8 w8 hl8 hg8 ho8)
      obtain ⟨p5, n5, c5, rfl, _⟩ := (HOU.out).open
      have hI8 : RInv w g tot l8 w8 (fs ++ [(nm, pl)]) r (.slice p5 n5 c5) :=
        RInv.step HI.out hglt HX.out HST.out HRD.out HOU.out HQ.out HQO.out vs HVL.out HOWN.out HVS.out hl8 hg8 ho8
      have hrr := frmStep_rest HX.out
      have e5 : n5 = r.length := by
        rcases HOU.out.2 with ⟨e', h0⟩ | ⟨_, _, _, e', _⟩
        · injection e' with _ e2 _; omega
        · injection e'
      go_roundw
      case rel => exact ⟨_, _, _, _, _, hI8⟩
      case measure =>
        rw [lenAt_rdr hI8.rd, lenAt_rdr HI.out.rd]
        have := hcl.out
        omega
end Go.Proofs.YtikjhnbehihbjaaDoor
