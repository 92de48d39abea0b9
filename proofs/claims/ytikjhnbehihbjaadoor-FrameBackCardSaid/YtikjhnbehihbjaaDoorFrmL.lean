/- The law FrameLives: the walk. -/
import Derived.Test.YtikjhnbehihbjaaDoorFrmI
import Derived.Test.YtikjhnbehihbjaaDoorFrmS
import Derived.Test.YtikjhnbehihbjaaDoorFrmW
import Derived.Test.YtikjhnbehihbjaaDoorSpoilS
namespace Go.Proofs.YtikjhnbehihbjaaDoor
open Go Go.RowKit
set_option linter.unusedVariables false

theorem feedE_any (g B : Nat) (v : Value) (s bs : List (BitVec 8)) (er : Int) (p : Option Addr) (n c : Nat) (w : World) (hK : Laid w) (hgB : gTop ≤ B) (hBg : B ≤ g) (hB : Rd w g v er) (hv : Sfx8 w B v s) (hs : er ≠ 0 → s = []) (hr : Row8 w p bs) (hn : bs.length = n) (hlen : s.length + n ≤ 1000000000000) :
    Calls Tryd.prog 14 #[.pointer (some ⟨g, 0, none⟩), .slice p n c] w (FeedPost w g B v (feedP s er bs)) := by
  by_cases he : er = 0
  · subst he
    unfold feedP
    rw [if_pos rfl]
    exact feed_any g B v s bs p n c w hK hgB hBg hB hv hr hn hlen
  · refine (feed_fault g v _ er w hB (by simpa using he)).mono fun e w' ⟨h1, k, h2⟩ => ?_
    subst h2
    unfold feedP
    rw [if_neg he]
    rw [hs he] at hv
    exact ⟨_, v, _, h1, Nat.le_refl _, FrmRows.nil _ _, hB, hv.fut (below_draws _ _), (Stays.refl _ _).drewN k, fun k h => .inl h⟩
def RFeedE (w : World) (g B : Nat) (u : Value) (x : Frms × List (BitVec 8) × Int) (e : Ending) (w' : World) : Prop :=
  ∃ l v', e = .returned (.tuple #[l, .int .i64 x.2.2]) ∧ FrmRows w' w.heap.size l x.1 ∧ RdR w' g v' x.2.2 ∧ Own8 w' B v' x.2.1 ∧ Stays (· = g) w w' ∧ (∀ k, v'.ownBlock = some k → u.ownBlock = some k ∨ w.heap.size ≤ k)
theorem rfeedE_any (g B : Nat) (u : Value) (s bs : List (BitVec 8)) (er : Int) (p : Option Addr) (n c : Nat) (w : World) (hBg : B ≤ g) (hB : RdR w g u er) (hv : Own8 w B u s) (hs : er ≠ 0 → s = []) (hr : Row8 w p bs) (hn : bs.length = n) (hlen : s.length + n ≤ 1000000000000) :
    Calls Tryd.prog 17 #[.pointer (some ⟨g, 0, none⟩), .slice p n c] w (RFeedE w g B u (feedP s er bs)) := by
  have hg := hB.lt
  by_cases he : er = 0
  · subst he
    unfold feedP
    rw [if_pos rfl]
    refine (rfeed_any g B u s bs p n c w hB hv hr hn hlen).mono fun e w' ⟨l, v', h1, h2, h3, h4, h5⟩ => ?_
    exact ⟨l, v', h1, h2, h3, h4.mono (by omega), h5, fun k hk => .inr (World.ownsRow.lt h4 k hk).1⟩
  · refine (rfeed_fault g u _ er w hB (by simpa using he)).mono fun e w' ⟨h1, k, h2⟩ => ?_
    subst h2
    unfold feedP
    rw [if_neg he]
    rw [hs he] at hv
    exact ⟨_, u, h1, FrmRows.nil _ _, hB, hv.drewN k, (Stays.refl _ _).drewN k, fun k h => .inl h⟩
theorem feedP_gone (s : List (BitVec 8)) (er : Int) (bs : List (BitVec 8)) : (feedP s er bs).2.2 ≠ 0 → (feedP s er bs).2.1 = [] := by
  unfold feedP
  split
  · exact frmAll_gone
  · exact fun _ => rfl
theorem feedP_len (s : List (BitVec 8)) (er : Int) (bs : List (BitVec 8)) : (feedP s er bs).2.1.length ≤ s.length + bs.length := by
  unfold feedP
  split
  · have := frmAll_len (s ++ bs)
    rwa [List.length_append] at this
  · exact Nat.zero_le _

/-- where the two readers stand -/
structure Lives (B : Nat) (w : World) (g h : Nat) (v u : Value) (s : List (BitVec 8)) (er : Int) : Prop where
  rd : Rd w g v er
  sf : Sfx8 w B v s
  rr : RdR w h u er
  ow : Own8 w B u s
  gone : er ≠ 0 → s = []
  far : ∀ k, v.ownBlock = some k → u.ownBlock ≠ some k
theorem Lives.ne {B : Nat} {w : World} {g h : Nat} {v u : Value} {s : List (BitVec 8)} {er : Int} (H : Lives B w g h v u s er) : g ≠ h := fun e => by
  subst e
  have := (Blk.inj H.rd H.rr).1
  exact absurd this (by decide)
theorem own_apart {w : World} {B : Nat} {v : Value} {bs : List (BitVec 8)} {g : Nat} {t : TypeId} {cs : Array Value} (h : Own8 w B v bs) (hg : Blk w g t cs) (ht : t ≠ 5) : v.ownBlock ≠ some g := Sfx8.apart (Sfx8.of h) hg ht
theorem Lives.stays {B : Nat} {w w' : World} {g h : Nat} {v u : Value} {s : List (BitVec 8)} {er : Int} {S : Nat → Prop} (H : Lives B w g h v u s er) (hs : Stays S w w') (h1 : ¬ S g) (h2 : ¬ S h) (h3 : ∀ k, v.ownBlock = some k → ¬ S k) (h4 : ∀ k, u.ownBlock = some k → ¬ S k) : Lives B w' g h v u s er :=
  ⟨Blk.stays H.rd hs h1, H.sf.stays hs h3, Blk.stays H.rr hs h2, H.ow.stays hs h4, H.gone, H.far⟩
theorem Lives.fut {B : Nat} {w w' : World} {g h : Nat} {v u : Value} {s : List (BitVec 8)} {er : Int} (H : Lives B w g h v u s er) (hb : Below w.heap.size w w') : Lives B w' g h v u s er :=
  H.stays (Stays.of_below hb (Nat.le_refl _) (fun _ => False)) (fun h => h) (fun h => h) (fun _ _ h => h) (fun _ _ h => h)

set_option maxRecDepth 100000 in
set_option maxHeartbeats 8000000 in
theorem frameLives_walk (q : Option Addr) (m d : Nat) (ls : List (List (BitVec 8))) (w : World) (hK : Laid w) (hm : ls.length = m) (hmd : m ≤ d) (hd : d ≤ maxLen) (hrs : Rows8 w q ls) (hls : lensSum ls ≤ 1048576) :
    Calls Tryd.prog 7 #[.slice q m d] w fun e w' => e = .returned (.bool true) ∧ Below w.heap.size w w' := by
  have HK := Lib.hid hK
  have HM := Lib.hid hm
  have HRS := Lib.hid hrs
  have HLS := Lib.hid hls
  have hKs := hK.size
  have hd2 : d ≤ 9223372036854775807 := by unfold maxLen at hd; omega
  have hbt : Tryd.prog.built 43 [] = some #[.slice none 0 0, .int .i64 0] := by kernel_rfl
  clear hK hm hrs hls hd
  go_enter Tryd.func7, Tryd.ntmps7
  go_wp2_with fail
  refine (new_any09 _).mono ?_
  rintro e w1 ⟨rfl, hrd1, hb1⟩
  have hL1 : Lives w.heap.size (w1.alloc (.cells #[.slice none 0 0, .int .i64 0] 43)) w.heap.size w1.heap.size (.slice none 0 0) (.slice none 0 0) [] 0 :=
    ⟨Blk.alloc hrd1 _, Sfx8.nil _ _, Blk.new w1 _ _, Own8.nil _ _, fun _ => rfl, fun k hk => by cases hk⟩
  have HL1 := Lib.hid hL1
  have hbw1 := below_fut hb1 (below_new w1 (.cells #[.slice none 0 0, .int .i64 0] 43)) (Nat.le_refl _)
  have hw1 := hb1.size
  clear hrd1 hL1 hb1
  go_wp2_with ((with_reducible refine wp_build (o := ⟨some 13, _, _, _, _, _⟩) ?_ 43 #[] ?_ [] ?_ #[.slice none 0 0, .int .i64 0] hbt ?_
                · rfl
                · rfl
                · rfl))
  obtain ⟨h, hh⟩ : ∃ h, h = w1.heap.size := ⟨_, rfl⟩
  rw [← hh] at HL1 hw1 ⊢
  go_loopw [17] (fun i wr => ∃ (k : Nat) (v u : Value) (s : List (BitVec 8)) (er : Int), k ≤ m ∧ i = .int .i64 k ∧ Hid (Lives w.heap.size wr w.heap.size h v u s er) ∧ Hid (s.length ≤ lensSum (ls.take k)) ∧ Below w.heap.size w wr) (fun i _ => m - (intOf i).toNat)
  case atStart => exact ⟨0, _, _, [], 0, by omega, rfl, HL1, Lib.hid (Nat.zero_le _), hbw1⟩
  case round =>
    clear HL1 hbw1 hh
    obtain ⟨k, v, u, s, er, hk, rfl, HL, hsl, hbw⟩ := hrel
    by_cases hkm : k < m
    · have hkmi : (k : Int) < (m : Int) := by omega
      obtain ⟨b, off, hqq, hlt, hall⟩ := HRS.out (by intro e; have := HM.out; rw [e] at this; simp at this; omega)
      subst hqq
      obtain ⟨x, hx⟩ : ∃ x, ls[k]? = some x := ⟨_, List.getElem?_eq_getElem (by rw [HM.out]; exact hkm)⟩
      obtain ⟨xv, hcell0, p3, n3, c3, rfl, hn3, hnc3, hc3, hr3, hp3⟩ := hall k x hx
      have hcell := (hbw.cell (p := ⟨b, off + k, none⟩) hlt).trans hcell0
      have hn3b : n3 ≤ 1048576 := by have := HLS.out; have := lensSum_mem (List.mem_of_getElem? hx); omega
      have hslb : s.length ≤ 1048576 := by have := hsl.out; have := HLS.out; have := lensSum_take ls k; omega
      have HSL : Hid ((feedP s er x).2.1.length ≤ lensSum (ls.take (k + 1))) := Lib.hid (by
        have := feedP_len s er x
        have := lensSum_succ ls k x hx
        have := hsl.out
        omega)
      have HR3 := Lib.hid hr3
      have HN3 := Lib.hid hn3
      have HP3 := Lib.hid hp3
      have hm63 : (k : Int) + 1 ≤ 9223372036854775807 := by omega
      clear hall hx hr3 hn3 hsl hp3 hcell0
      go_wp2_with fail
      refine (clone_any p3 n3 c3 x _ (HR3.out.fut hbw) HN3.out (by omega) (fun h => by have := HP3.out h; omega)).mono ?_
      rintro e w3 ⟨vg, rfl, hog, hb3⟩
      have hgo := World.ownsRow.lt hog
      obtain ⟨pg, cg, rfl, hgc, hgm, hgr, hgi⟩ := Mine.of hog
      rw [HN3.out] at hgc hgo hgi ⊢
      have HGO := Lib.hid hgo
      have HGR := Lib.hid hgr
      have HGI : Hid (MineS w3 (fun k => (Value.slice pg n3 cg).ownBlock = some k) pg n3) := Lib.hid (hgi.s (fun _ a ha => by rw [ha]; rfl))
      have hgm2 : cg ≤ 9223372036854775807 := by unfold maxLen at hgm; omega
      have HL3 := Lib.hid (HL.out.fut hb3)
      have hbw3 := below_fut hbw hb3 (Nat.le_refl _)
      have HK3 := Lib.hid (HK.out.below hbw3 hKs)
      have hvlt : Hid (∀ k, v.ownBlock = some k → k < wr.heap.size) := Lib.hid (fun k hk => (HL.out.sf.lt k hk).2)
      have hult : Hid (∀ k, u.ownBlock = some k → k < wr.heap.size) := Lib.hid (fun k hk => (World.ownsRow.lt HL.out.ow k hk).2)
      have hglt : w.heap.size < wr.heap.size := HL.out.rd.lt
      have hhlt : h < wr.heap.size := HL.out.rr.lt
      have hw3 := hb3.size
      have hgh := HL.out.ne
      clear hog hgr hgi hgm hb3 hgo hcell
      go_wp2_with fail
      refine (feedE_any w.heap.size w.heap.size v s x er pg n3 cg _ HK3.out hKs (Nat.le_refl _) HL3.out.rd HL3.out.sf HL3.out.gone HGR.out HN3.out (by omega)).mono ?_
      rintro e w4 ⟨l4, v4, H4, rfl, hH4, hf4', hrd4, hsf4, hst4, hov4'⟩
      have hf4 := hf4'.mono hH4
      have hov4 : ∀ k, v4.ownBlock = some k → v.ownBlock = some k ∨ w3.heap.size ≤ k := fun k hk => (hov4' k hk).imp id And.left
      clear hf4' hov4'
      have hrr4 : RdR w4 h u er := Blk.stays HL3.out.rr hst4 (fun e => by
        rcases e with e | e
        · exact hgh e.symm
        · exact HL3.out.sf.apart HL3.out.rr (by decide) e)
      have how4 : Own8 w4 w.heap.size u s := HL3.out.ow.stays hst4 (fun k hk e => by
        rcases e with e | e
        · subst e; exact own_apart HL3.out.ow HL3.out.rd (by decide) hk
        · exact HL3.out.far k e hk)
      have HGI4 : Hid (MineS w4 (fun k => (Value.slice pg n3 cg).ownBlock = some k) pg n3) := Lib.hid (HGI.out.stays hst4 (fun k hk e => by
        have := (HGO.out k hk).1
        rcases e with e | e
        · omega
        · have := hvlt.out k e; omega))
      have hbw4 : Below w.heap.size w w4 := hbw3.trans (hst4.below (by omega) (fun k hk => by
        rcases hk with e | e
        · omega
        · exact (HL3.out.sf.lt k e).1))
      have hw4 := hst4.size
      have HF4 := Lib.hid hf4
      have HRD4 := Lib.hid hrd4
      have HSF4 := Lib.hid hsf4
      have HRR4 := Lib.hid hrr4
      have HOW4 := Lib.hid how4
      have HOV4 := Lib.hid hov4
      have HR4 := Lib.hid (HR3.out.fut hbw4)
      obtain ⟨y, hy⟩ : ∃ y, y = feedP s er x := ⟨_, rfl⟩
      have HG4 : Hid (y.2.2 ≠ 0 → y.2.1 = []) := Lib.hid (by rw [hy]; exact feedP_gone s er x)
      have HRF := Lib.hid (rfeedE_any h w.heap.size u s x er p3 n3 c3 w4 hw1 HRR4.out HOW4.out HL3.out.gone HR4.out HN3.out (by omega))
      rw [← hy] at HSL HF4 HRD4 HSF4 HRF ⊢
      clear hf4 hrd4 hsf4 hst4 hrr4 how4 hov4 HK3 HGR hy
      obtain ⟨er', her'⟩ : ∃ e, e = y.2.2 := ⟨_, rfl⟩
      rw [← her'] at HRD4 HG4 ⊢
      have HER := Lib.hid her'
      clear her'
      go_wp2_with fail
      refine HRF.out.mono ?_
      rintro e w5 ⟨l5, u5, rfl, hf5, hrr5, how5, hst5, hov5⟩
      rw [← HER.out] at hrr5 ⊢
      have hL5 : Lives w.heap.size w5 w.heap.size h v4 u5 y.2.1 er' := ⟨Blk.stays HRD4.out hst5 hgh, HSF4.out.stays hst5 (fun k hk e => HSF4.out.apart HRR4.out (by decide) (by rw [hk, e])), hrr5, how5, HG4.out, fun k hk e => by
        have h1 := HOV4.out k hk
        have h2 := hov5 k e
        rcases h1 with h1 | h1
        · rcases h2 with h2 | h2
          · exact HL.out.far k h1 h2
          · have := hvlt.out k h1; omega
        · rcases h2 with h2 | h2
          · have := hult.out k h2; omega
          · have := (HSF4.out.lt k hk).2; omega⟩
      have hF5 := HF4.out.stays hst5 (fun k hk e => by omega)
      have hGI5 := HGI4.out.stays hst5 (fun k hk e => by
        have := (HGO.out k hk).1
        omega)
      have hbw5 : Below w.heap.size w w5 := hbw4.trans (hst5.below (by omega) (fun k hk => by omega))
      have HL5 := Lib.hid hL5
      have HF5 := Lib.hid hF5
      have HE5 := Lib.hid hf5
      have HGI5 := Lib.hid hGI5
      have HOV5 := Lib.hid hov5
      have hw5 := hst5.size
      clear hL5 hF5 hf5 hGI5 hov5 hst5 hrr5 how5 HRF
      have hA := Blk.new w5 22 #[.slice pg n3 cg]
      have hGIA := HGI5.out.stays (Stays.of_below (below_new w5 (.cells #[.slice pg n3 cg] 22)) (Nat.le_refl _) (fun _ => False)) (fun _ _ h => h)
      have hLA := Lib.hid (HL5.out.fut (below_new w5 (.cells #[.slice pg n3 cg] 22)))
      have hFA := Lib.hid (HF5.out.fut (below_new w5 (.cells #[.slice pg n3 cg] 22)))
      have hEA := Lib.hid (HE5.out.fut (below_new w5 (.cells #[.slice pg n3 cg] 22)))
      have hbwA := below_fut hbw5 (below_new w5 (.cells #[.slice pg n3 cg] 22)) (Nat.le_refl _)
      have HMR : Hid (MineRowsS (w5.alloc (.cells #[.slice pg n3 cg] 22)) (fun k => (Value.slice pg n3 cg).ownBlock = some k) (some ⟨w5.heap.size, 0, none⟩) 1) := Lib.hid (.inr ⟨w5.heap.size, 0, rfl, hA.lt, fun i hi => by
        obtain rfl : i = 0 := by omega
        refine ⟨pg, n3, cg, ?_, hgc, hgm2, hGIA, fun h0 a ha e => ?_⟩
        · exact hA.cell 0
        · have := (HGO.out a.block (by rw [ha]; rfl)).2
          omega⟩)
      clear hA hGIA HL5 HF5 HE5 HGI5 hbw5
      go_wp2_with fail
      refine (spoilS_any _ _ 1 1 _ (by omega) (by omega) HMR.out).mono ?_
      rintro e w7 ⟨rfl, hst7⟩
      have hL7 := hLA.out.stays hst7 (fun e => by have := (HGO.out _ e).1; omega) (fun e => by have := (HGO.out _ e).1; omega) (fun k hk e => by
        have h1 := (HGO.out k e)
        rcases HOV4.out k hk with h2 | h2
        · have := hvlt.out k h2; omega
        · omega) (fun k hk e => by
        have h1 := (HGO.out k e)
        rcases HOV5.out k hk with h2 | h2
        · have := hult.out k h2; omega
        · omega)
      have hF7 := hFA.out.stays hst7 (fun k hk e => by have := (HGO.out k e).2; omega)
      have hE7 := hEA.out.stays hst7 (fun k hk e => by have := (HGO.out k e).2; omega)
      have hbw7 : Below w.heap.size w w7 := hbwA.trans (hst7.below (by rw [World.size_alloc]; omega) (fun k hk => by have := (HGO.out k hk).1; omega))
      obtain ⟨pf, cf, rfl, hf1, hf2, hf3⟩ := hF7.at
      obtain ⟨pe, ce, rfl, he1, he2, he3⟩ := hE7.at
      have HL7 := Lib.hid hL7
      have HF7 := Lib.hid hf3
      have HE7 := Lib.hid he3
      clear hst7 hL7 hF7 hE7 hf3 he3 hLA hFA hEA hbwA HMR HF4 HRD4 HSF4 HRR4 HOW4 HOV4 HOV5 HGI4 HGI HL3 HGO HR4
      have hee : (er' == er') = true := by simp
      have hee2 : (er' != er') = false := by rw [bne, hee]; rfl
      go_upto_region 9 with fail
      obtain ⟨ny, hny⟩ : ∃ n, n = y.1.length := ⟨_, rfl⟩
      rw [← hny] at hf1 he1 ⊢
      have HNY := Lib.hid hny.symm
      obtain ⟨pv, nv, cv, rfl, hnv, _⟩ := HL7.out.sf.row
      obtain ⟨pu, nu, cu, rfl, hnu, _⟩ := HL7.out.ow.open
      have hnn : nu = nv := by have := hnv.out; have := hnu.out; omega
      subst hnn
      have hlf : ∀ k, Calls Tryd.prog 15 #[.pointer (some ⟨w.heap.size, 0, none⟩)] (w7.drewN k) fun e w' => e = .returned (.int .i64 (nu : Int)) ∧ w' = w7.drewN k := fun k => left_any _ _ _ _ _ _ _ (Blk.drewN HL7.out.rd k)
      have hrc := HL7.out.rr
      clear hny
      refine region_plan [qq 0, qq 1, qq 2, qq 3, qq 4, qq 5, oo 6, qq 7, qq 8, qq 9, qq 10, qq 11, qq 12, qq 13, qq 14, qq 15, qq 16, qq 17, qq 18] (fun W => Below w7.heap.size w7 W) (by kernel_rfl) (by kernel_rfl) (Below.refl _ _).drew ?_
      refine' plan_quiet (s := 69) (A1 := _) [0, 1, 2, 3, 4, 5] [_, _, _, _, _, _] _ rfl rfl rfl (fun W hW => ?hq1) _ (Below.refl _ _).drew (fun _ => ?hr1)
      case hq1 =>
        simp only [List.getElem_toArray, List.getElem_cons_zero, List.getElem_cons_succ]
        iterate 6 (go_big_quiet_step (fail))
        refine wpQuiet_nil ?_
        rfl
      case hr1 =>
      refine plan_one rfl fun k1 => ?_
      have hF1 : Below w7.heap.size w7 (w7.drew.drewN k1) := below_drewN (Below.refl _ _).drew k1
      generalize w7.drew.drewN k1 = W1 at hF1 ⊢
      go_wp2_with fail
      refine (sameFrames_any pf pe ny cf ny ce y.1 y.1 _ HNY.out HNY.out hf1 hf2 he1 he2 (HF7.out.fut hF1) (HE7.out.fut hF1)).mono ?_
      rw [decide_eq_true rfl]
      rintro e W2 ⟨rfl, hb12⟩
      have hF2 := below_fut hF1 hb12 (Nat.le_refl _)
      go_wp2_with fail
      refine planQ_normal (And.intro hF2 ?_)
      clear hF1 hb12
      refine' plan_quiet (s := 69) (A1 := _) (r := []) [7, 8, 9, 10, 11, 12, 13, 14, 15, 16, 17, 18] [_, _, _, _, _, _, _, _, _, _, _, _] _ rfl rfl rfl (fun W hW => ?hq2) _ hF2 (fun _ => ?hr2)
      case hq2 =>
        have hlf : ∀ k, Calls Tryd.prog 15 #[.pointer (some ⟨w.heap.size, 0, none⟩)] (W.drewN k) fun e w' => e = .returned (.int .i64 (nu : Int)) ∧ w' = W.drewN k := fun k => left_any _ _ _ _ _ _ _ (Blk.drewN (Blk.fut HL7.out.rd hW) k)
        have c0 : ∀ k, (W.drewN k).cell? ⟨h, 0, none⟩ = some (.slice pu nu cu) := fun k => by
          have := (Blk.drewN (Blk.fut HL7.out.rr hW) k).cell 0
          simpa using this
        simp only [List.getElem_toArray, List.getElem_cons_zero, List.getElem_cons_succ]
        iterate 12 (go_big_quiet_step ((exact Calls.quiet_of_same (hlf _))))
        refine wpQuiet_nil ?_
        rfl
      case hr2 =>
      refine plan_end fun k9 => NoPanic.normal ?_
      have HL8 := Lib.hid ((HL7.out.fut hF2).fut (below_draws W2 k9))
      have hbw8 : Below w.heap.size w (W2.drewN k9) := (hbw7.trans (hF2.mono hbw7.size)).trans (below_draws W2 k9 |>.mono (by have := hbw7.size; have := hF2.size; omega))
      generalize W2.drewN k9 = W3 at HL8 hbw8 ⊢
      clear hF2 hlf hrc
      go_wp2_with fail
      go_roundw
      case rel => exact ⟨k + 1, _, _, _, er', by omega, by go_num, HL8, HSL, hbw8⟩
      case measure => simp [intOf]; omega
    · have hkmi : ¬ (k : Int) < (m : Int) := by omega
      have HKr := Lib.hid (HK.out.below hbw hKs)
      have hwr := hbw.size
      obtain ⟨pv, nv, cv, rfl, hnv, _⟩ := HL.out.sf.row
      obtain ⟨pu, nu, cu, rfl, hnu, _⟩ := HL.out.ow.open
      have hnn : nu = nv := by have := hnv.out; have := hnu.out; omega
      subst hnn
      have hee : ((nu : Int) == (nu : Int)) = true := by simp
      go_upto_region 12 with fail
      refine region_plan [qq 0, qq 1, qq 2, qq 3, qq 4, qq 5, qq 6, qq 7, qq 8, oo 9, qq 10, qq 11] (fun W => Below wr.heap.size wr W) (by kernel_rfl) (by kernel_rfl) (Below.refl _ _).drew ?_
      refine' plan_quiet (s := 69) (A1 := _) [0, 1, 2, 3, 4, 5, 6, 7, 8] [_, _, _, _, _, _, _, _, _] _ rfl rfl rfl (fun W hW => ?hq3) _ (Below.refl _ _).drew (fun _ => ?hr3)
      case hq3 =>
        have hlf : ∀ k, Calls Tryd.prog 15 #[.pointer (some ⟨w.heap.size, 0, none⟩)] (W.drewN k) fun e w' => e = .returned (.int .i64 (nu : Int)) ∧ w' = W.drewN k := fun k => left_any _ _ _ _ _ _ _ (Blk.drewN (Blk.fut HL.out.rd hW) k)
        have c0 : ∀ k, (W.drewN k).cell? ⟨h, 0, none⟩ = some (.slice pu nu cu) := fun k => by
          have := (Blk.drewN (Blk.fut HL.out.rr hW) k).cell 0
          simpa using this
        simp only [List.getElem_toArray, List.getElem_cons_zero, List.getElem_cons_succ]
        iterate 9 (go_big_quiet_step ((exact Calls.quiet_of_same (hlf _))))
        refine wpQuiet_nil ?_
        rfl
      case hr3 =>
      refine plan_one rfl fun k1 => ?_
      have hF1 : Below wr.heap.size wr (wr.drew.drewN k1) := below_drewN (Below.refl _ _).drew k1
      generalize wr.drew.drewN k1 = W1 at hF1 ⊢
      go_wp2_with fail
      refine (awake09_any _ (HKr.out.below hF1 HKr.out.size)).mono ?_
      rintro e W2 ⟨rfl, hb12⟩
      have hF2 := below_fut hF1 hb12 (Nat.le_refl _)
      go_wp2_with fail
      refine planQ_normal (And.intro hF2 ?_)
      clear hF1 hb12
      refine' plan_quiet (s := 69) (A1 := _) (r := []) [10, 11] [_, _] _ rfl rfl rfl (fun W hW => ?hq4) _ hF2 (fun _ => ?hr4)
      case hq4 =>
        simp only [List.getElem_toArray, List.getElem_cons_zero, List.getElem_cons_succ]
        iterate 2 (go_big_quiet_step (fail))
        refine wpQuiet_nil ?_
        rfl
      case hr4 =>
      refine plan_end fun k9 => NoPanic.normal ?_
      have hbw3 : Below w.heap.size w (W2.drewN k9) := (hbw.trans (hF2.mono hwr)).trans (below_draws W2 k9 |>.mono (by have := hF2.size; omega))
      go_wp2
      go_ret
      exact ⟨rfl, hbw3⟩
end Go.Proofs.YtikjhnbehihbjaaDoor
