/- The law FrameFaults: the walk. -/
import Derived.Test.YtikjhnbehihbjaaDoorFrmF
import Derived.Test.YtikjhnbehihbjaaDoorFrmN
namespace Go.Proofs.YtikjhnbehihbjaaDoor
open Go Go.RowKit
set_option linter.unusedVariables false

theorem frmRun_fault : ∀ (f : Nat) (s : List (BitVec 8)), (frmRun f s).2.2 ≠ 0 → (frmRun f s).2.1 = []
  | 0, s, h => absurd rfl h
  | f + 1, s, h => by
    unfold frmRun at *
    split
    · rename_i hs
      rw [hs] at h
      exact absurd rfl h
    · rfl
    · rename_i hs
      rw [hs] at h
      exact frmRun_fault f _ h
theorem frmAll_gone {s : List (BitVec 8)} (h : (frmAll s).2.2 ≠ 0) : (frmAll s).2.1 = [] := frmRun_fault _ _ h
theorem frmRun_len : ∀ (f : Nat) (s : List (BitVec 8)), (frmRun f s).2.1.length ≤ s.length
  | 0, s => Nat.le_refl _
  | f + 1, s => by
    unfold frmRun
    split
    · exact Nat.le_refl _
    · exact Nat.zero_le _
    · rename_i hs
      have h1 := frmStep_rest hs
      have h2 := frmRun_len f (by assumption)
      exact Nat.le_trans (frmRun_len f _) (by omega)
theorem frmAll_len (s : List (BitVec 8)) : (frmAll s).2.1.length ≤ s.length := frmRun_len _ _
theorem make24 : ∀ w : World, (Instr.makeSlice 22 (.int .i64 24) (.int .i64 24)).run Tryd.prog w = .ok (.slice (some ⟨w.heap.size, 0, none⟩) 24 24) (w.alloc (.cells ((noughts 24).map u8).toArray 5)) := fun w => make8 w 24 (by omega)
theorem frmAll_zeros : (frmAll (noughts 24)).2.2 = 90 := by
  have h : frmStep (noughts 24) = .fault 90 := by
    have h1 : frmHead (noughts 24) = ([], 0, 90) := by unfold frmHead; rw [if_neg (fun h => absurd h.1 (by decide))]
    unfold frmStep
    rw [if_neg (by decide), h1, if_neg (by decide)]
  rw [frmAll_fault h]

/-- where a reader stands: what waits, or its fault -/
def RdAt (w : World) (g B : Nat) (s : List (BitVec 8)) (er : Int) : Prop := ∃ v, Rd w g v er ∧ Sfx8 w B v s ∧ (er ≠ 0 → s = [])
/-- a reader's Feed, whatever it stands at -/
def feedP (s : List (BitVec 8)) (er : Int) (bs : List (BitVec 8)) : List (List (BitVec 8) × List (BitVec 8)) × List (BitVec 8) × Int := if er = 0 then frmAll (s ++ bs) else ([], [], er)
def FeedsPost (w : World) (g B : Nat) (x : List (List (BitVec 8) × List (BitVec 8)) × List (BitVec 8) × Int) (e : Ending) (w' : World) : Prop :=
  ∃ l, e = .returned (.tuple #[l, .int .i64 x.2.2]) ∧ FrmRows w' w.heap.size l x.1 ∧ RdAt w' g B x.2.1 x.2.2 ∧ Below B w w'
theorem feeds_any (g B : Nat) (s bs : List (BitVec 8)) (er : Int) (p : Option Addr) (n c : Nat) (w : World) (hK : Laid w) (hgB : gTop ≤ B) (hBg : B ≤ g) (hR : RdAt w g B s er) (hr : Row8 w p bs) (hn : bs.length = n) (hlen : s.length + n ≤ 1000000000000) :
    Calls Tryd.prog 14 #[.pointer (some ⟨g, 0, none⟩), .slice p n c] w (FeedsPost w g B (feedP s er bs)) := by
  obtain ⟨v, hrd, hsf, hs⟩ := hR
  have hg := hrd.lt
  by_cases he : er = 0
  · subst he
    refine (feed_any g B v s bs p n c w hK hgB hBg hrd hsf hr hn hlen).mono fun e w' ⟨l, v', H, h1, hH, h2, h3, h4, h5, h6⟩ => ?_
    unfold feedP
    rw [if_pos rfl]
    refine ⟨l, h1, h2.mono hH, ⟨v', h3, h4, frmAll_gone⟩, h5.below (by omega) (fun k hk => ?_)⟩
    rcases hk with rfl | hk
    · exact hBg
    · exact (hsf.lt k hk).1
  · refine (feed_fault g v _ er w hrd (by simpa using he)).mono fun e w' ⟨h1, k, h2⟩ => ?_
    subst h2
    unfold feedP
    rw [if_neg he]
    rw [hs he] at hsf
    exact ⟨_, h1, FrmRows.nil _ _, ⟨v, hrd, hsf.fut (below_draws _ _), fun _ => rfl⟩, below_draws _ _ |>.mono (by omega)⟩
theorem leftAt_any (g B : Nat) (s : List (BitVec 8)) (er : Int) (w : World) (h : RdAt w g B s er) : Calls Tryd.prog 15 #[.pointer (some ⟨g, 0, none⟩)] w fun e w' => e = .returned (.int .i64 (s.length : Int)) ∧ w' = w := by
  obtain ⟨v, hrd, hsf, _⟩ := h
  obtain ⟨p, n, c, rfl, hl, _⟩ := hsf.row
  rw [hl.out]
  exact left_any w g p n c _ _ hrd
theorem FrmRows.len {w : World} {B : Nat} {l : Value} {fs : List (List (BitVec 8) × List (BitVec 8))} (h : FrmRows w B l fs) : ∃ p c, l = .slice p fs.length c := by
  obtain ⟨vs, h1, h2, _⟩ := h
  obtain ⟨p, c, h3, _⟩ := ownsRow_open h2
  exact ⟨p, c, h3⟩

set_option maxRecDepth 100000 in
set_option maxHeartbeats 8000000 in
theorem frameFaults_walk (p : Option Addr) (n c : Nat) (bs : List (BitVec 8)) (q : Option Addr) (m d : Nat) (ls : List (List (BitVec 8))) (w : World) (hK : Laid w) (hn : bs.length = n) (hnc : n ≤ c) (hc : c ≤ 1048576) (hr : Row8 w p bs) (_ : p = none → c = 0)
    (hm : ls.length = m) (hmd : m ≤ d) (hd : d ≤ maxLen) (hrs : Rows8 w q ls) (hls : lensSum ls ≤ 1048576) :
    Calls Tryd.prog 4 #[.slice p n c, .slice q m d] w fun e w' => e = .returned (.bool true) ∧ Below w.heap.size w w' := by
  have HK := Lib.hid hK
  have HN := Lib.hid hn
  have HM := Lib.hid hm
  have HR := Lib.hid hr
  have HRS := Lib.hid hrs
  have HLS := Lib.hid hls
  have hKs := hK.size
  have hd2 : d ≤ 9223372036854775807 := by unfold maxLen at hd; omega
  clear hK hn hm hr hrs hls hd
  go_enter Tryd.func4, Tryd.ntmps4
  go_wp2_with fail
  refine (new_any09 _).mono ?_
  rintro e w1 ⟨rfl, hrd1, hb1⟩
  have HR1 := Lib.hid (HR.out.fut hb1)
  have HK1 := Lib.hid (HK.out.below hb1 hKs)
  have hat1 : RdAt w1 w.heap.size w.heap.size [] 0 := ⟨_, hrd1, Sfx8.nil _ _, fun h => rfl⟩
  have HA1 := Lib.hid hat1
  clear hrd1 hat1
  go_wp2_with fail
  refine (feeds_any w.heap.size w.heap.size [] bs 0 p n c _ HK1.out hKs (Nat.le_refl _) HA1.out HR1.out HN.out (by simp only [List.length_nil]; omega)).mono ?_
  obtain ⟨x, hx⟩ : ∃ x, x = feedP [] 0 bs := ⟨_, rfl⟩
  have hxl : Hid (x.2.1.length ≤ 1048576) := Lib.hid (by
    rw [hx]
    unfold feedP
    rw [if_pos rfl, List.nil_append]
    have := frmAll_len bs
    have := HN.out
    omega)
  rw [← hx]
  clear hx
  rintro e w2 ⟨l2, rfl, hl2, hat2, hb2⟩
  obtain ⟨s, hs⟩ : ∃ s, s = x.2.1 := ⟨_, rfl⟩
  obtain ⟨er, her⟩ : ∃ er, er = x.2.2 := ⟨_, rfl⟩
  rw [← hs] at hat2 hxl
  rw [← her] at hat2 ⊢
  have HA2 := Lib.hid hat2
  have hbw2 : Below w.heap.size w w2 := hb1.trans hb2
  clear hs her hat2 hl2 hb1 hb2 HA1 HR1 HK1 HR
  go_wp2_with fail
  go_loopw [7, 23] (fun e i wr => ∃ (k : Nat) (s : List (BitVec 8)) (er : Int), k ≤ m ∧ i = .int .i64 k ∧ e = .int .i64 er ∧ Hid (RdAt wr w.heap.size w.heap.size s er) ∧ Hid (s.length ≤ 1048576 + lensSum (ls.take k)) ∧ Below w.heap.size w wr) (fun _ i _ => m - (intOf i).toNat)
  case atStart => exact ⟨0, s, er, by omega, rfl, rfl, HA2, Lib.hid (by have := hxl.out; omega), hbw2⟩
  case round =>
    clear HA2 hxl hbw2
    obtain ⟨k, s, er, hk, rfl, rfl, hat, hsl, hbw⟩ := hrel
    by_cases hkm : k < m
    · have hkmi : (k : Int) < (m : Int) := by omega
      obtain ⟨b, off, hqq, hlt, hall⟩ := (HRS.out.below hbw (Nat.le_refl _)) (by intro e; have := HM.out; rw [e] at this; simp at this; omega)
      subst hqq
      obtain ⟨x, hx⟩ : ∃ x, ls[k]? = some x := ⟨_, List.getElem?_eq_getElem (by rw [HM.out]; exact hkm)⟩
      obtain ⟨u, hcell, p3, n3, c3, rfl, hn3, hnc3, hc3, hr3, _⟩ := hall k x hx
      have HK2 := Lib.hid (HK.out.below hbw hKs)
      have hstep := lensSum_succ ls k x hx
      have htk := lensSum_take ls (k + 1)
      have hlen : s.length + n3 ≤ 1000000000000 := by have := hsl.out; have := HLS.out; omega
      have hlen2 : Hid ((feedP s er x).2.1.length ≤ 1048576 + lensSum (ls.take (k + 1))) := Lib.hid (by
        unfold feedP
        split
        · have := frmAll_len (s ++ x)
          rw [List.length_append] at this
          have := hsl.out
          omega
        · exact Nat.zero_le _)
      have HR3 := Lib.hid hr3
      have HN3 := Lib.hid hn3
      have hm63 : (k : Int) + 1 ≤ 9223372036854775807 := by omega
      clear hall hx hr3 hn3 hstep htk hsl
      by_cases her : er = 0
      · subst her
        go_wp2_with fail
        refine (feeds_any w.heap.size w.heap.size s x 0 p3 n3 c3 _ HK2.out hKs (Nat.le_refl _) hat.out HR3.out HN3.out hlen).mono ?_
        obtain ⟨y, hy⟩ : ∃ y, y = feedP s 0 x := ⟨_, rfl⟩
        rw [← hy] at hlen2 ⊢
        clear hy
        rintro e w4 ⟨l4, rfl, hl4, hat4, hb4⟩
        obtain ⟨s4, hs4⟩ : ∃ s, s = y.2.1 := ⟨_, rfl⟩
        obtain ⟨er4, her4⟩ : ∃ er, er = y.2.2 := ⟨_, rfl⟩
        rw [← hs4] at hat4 hlen2
        rw [← her4] at hat4 ⊢
        have HA4 := Lib.hid hat4
        have hbw4 : Below w.heap.size w w4 := hbw.trans hb4
        clear hs4 her4 hat4 hl4 hb4
        go_wp2_with fail
        go_roundw
        case rel => exact ⟨k + 1, s4, er4, by omega, by go_num, rfl, HA4, hlen2, hbw4⟩
        case measure => simp [intOf]; omega
      · have he1 : (er == 0) = false := by simpa using her
        have he2 : (er != 0) = true := by rw [bne, he1]; rfl
        have hy : feedP s er x = ([], [], er) := by unfold feedP; rw [if_neg her]
        have hfe := feeds_any w.heap.size w.heap.size s x er p3 n3 c3 wr HK2.out hKs (Nat.le_refl _) hat.out HR3.out HN3.out hlen
        rw [hy] at hlen2 hfe
        have HFE := Lib.hid hfe
        clear her hy hfe
        go_wp2_with fail
        refine HFE.out.mono ?_
        rintro e w4 ⟨l4, rfl, hl4, hat4, hb4⟩
        obtain ⟨p5, c5, rfl⟩ := hl4.len
        have HA4 := Lib.hid hat4
        have hbw4 : Below w.heap.size w w4 := hbw.trans hb4
        have hee : (er == er) = true := by simp
        clear hat4 hl4 hb4
        go_wp2_with fail
        refine (leftAt_any _ _ _ _ _ HA4.out).mono ?_
        rintro e w5 ⟨rfl, hw⟩
        replace hw := hw.symm
        subst hw
        go_wp2_with fail
        go_roundw
        case rel => exact ⟨k + 1, [], er, by omega, by go_num, rfl, HA4, hlen2, hbw4⟩
        case measure => simp [intOf]; omega
    · have hkmi : ¬ (k : Int) < (m : Int) := by omega
      have HKr := Lib.hid (HK.out.below hbw hKs)
      have hmk := make24
      have hwr := hbw.size
      go_wp2_with fail
      refine region_plan [pp 0 1, oo 2, qq 3, qq 4, qq 5, qq 6, qq 7] (fun W => Below w.heap.size wr W) (by kernel_rfl) (by kernel_rfl) (Below.refl _ _).drew ?_
      refine plan_two rfl rfl (fun k1 => ?gA) (fun k1 => ?gB)
      case' gA =>
        have hF1 : Below wr.heap.size wr (wr.drew.drewN k1) := below_drewN (Below.refl _ _).drew k1
        generalize wr.drew.drewN k1 = W1 at hF1 ⊢
        go_wp2_with fail
        refine (new_any09 _).mono ?_
        rintro e W2 ⟨rfl, hrd, hb12⟩
        have hF2 := below_fut hF1 hb12 (Nat.le_refl _)
        have hgw : wr.heap.size ≤ W1.heap.size := hF1.size
        generalize W1.heap.size = g at hrd hgw ⊢
        go_wp2_with fail
        refine planQ_normal (And.intro (hF2.mono hwr) fun k2 => ?_)
        have hF3 := below_fut hF2 (below_draws W2 k2) (Nat.le_refl _)
        have hrd3 : Rd (W2.drewN k2) g (.slice none 0 0) 0 := Blk.drewN hrd k2
        generalize W2.drewN k2 = W3 at hF3 hrd3 ⊢
        go_wp2_with fail
        have hF4 := below_fut hF3 (below_new W3 (.cells ((noughts 24).map Go.Proofs.YtikjhnbehihbjaaDoor.u8).toArray 5)) (Nat.le_refl _)
        refine planQ_normal (And.intro (hF4.mono hwr) ?_)
        have hrd4 : Rd (W3.alloc (.cells ((noughts 24).map Go.Proofs.YtikjhnbehihbjaaDoor.u8).toArray 5)) g (.slice none 0 0) 0 := Blk.alloc hrd3 _
        have hr4 : Row8 (W3.alloc (.cells ((noughts 24).map Go.Proofs.YtikjhnbehihbjaaDoor.u8).toArray 5)) (some ⟨W3.heap.size, 0, none⟩) (noughts 24) := hCells_row (l := noughts 24) (Blk.new W3 _ _)
        generalize W3.alloc (.cells ((noughts 24).map Go.Proofs.YtikjhnbehihbjaaDoor.u8).toArray 5) = W4 at hF4 hrd4 hr4 ⊢
        generalize W3.heap.size = z at hr4 ⊢
        clear hF1 hF2 hF3 hrd hrd3 hb12
      case' gB =>
        have hF1 : Below wr.heap.size wr (wr.drew.drewN k1) := below_drewN (Below.refl _ _).drew k1
        generalize wr.drew.drewN k1 = W3 at hF1 ⊢
        go_wp2_with fail
        have hF2 := below_fut hF1 (below_new W3 (.cells ((noughts 24).map Go.Proofs.YtikjhnbehihbjaaDoor.u8).toArray 5)) (Nat.le_refl _)
        refine planQ_normal (And.intro (hF2.mono hwr) fun k2 => ?_)
        have hr2 : Row8 (W3.alloc (.cells ((noughts 24).map Go.Proofs.YtikjhnbehihbjaaDoor.u8).toArray 5)) (some ⟨W3.heap.size, 0, none⟩) (noughts 24) := hCells_row (l := noughts 24) (Blk.new W3 _ _)
        have hF3 := below_fut hF2 (below_draws _ k2) (Nat.le_refl _)
        have hr3 := hr2.fut (below_draws _ k2)
        generalize (W3.alloc (.cells ((noughts 24).map Go.Proofs.YtikjhnbehihbjaaDoor.u8).toArray 5)).drewN k2 = W1 at hF3 hr3 ⊢
        generalize W3.heap.size = z at hr3 ⊢
        go_wp2_with fail
        refine (new_any09 _).mono ?_
        rintro e W4 ⟨rfl, hrd4, hb12⟩
        have hF4 := below_fut hF3 hb12 (Nat.le_refl _)
        have hr4 := hr3.fut hb12
        have hgw : wr.heap.size ≤ W1.heap.size := hF3.size
        generalize W1.heap.size = g at hrd4 hgw ⊢
        go_wp2_with fail
        refine planQ_normal (And.intro (hF4.mono hwr) ?_)
        clear hF1 hF2 hF3 hr2 hr3 hb12
      all_goals
        refine plan_one rfl fun k3 => ?_
        have hgg : w.heap.size ≤ g := Nat.le_trans hwr hgw
        have hF5 := below_fut hF4 (below_draws W4 k3) (Nat.le_refl _)
        have hat5 : RdAt (W4.drewN k3) g w.heap.size [] 0 := ⟨_, Blk.drewN hrd4 k3, Sfx8.nil _ _, fun _ => rfl⟩
        have hK5 := HKr.out.below hF5 HKr.out.size
        have hr5 := hr4.fut (below_draws W4 k3)
        generalize W4.drewN k3 = W5 at hF5 hat5 hK5 hr5 ⊢
        go_wp2_with fail
        refine (feeds_any g w.heap.size [] (noughts 24) 0 (some ⟨z, 0, none⟩) 24 24 _ hK5 hKs hgg hat5 hr5 rfl (by simp only [List.length_nil]; omega)).mono ?_
        have hz9 : (feedP [] 0 (noughts 24)).2.2 = 90 := by unfold feedP; rw [if_pos rfl, List.nil_append]; exact frmAll_zeros
        unfold FeedsPost
        rw [hz9]
        rintro e W6 ⟨l6, rfl, _, _, hb6⟩
        have hbw6 : Below w.heap.size w W6 := (hbw.trans (hF5.mono hwr)).trans hb6
        have hF6 : Below w.heap.size wr W6 := (hF5.mono hwr).trans hb6
        clear hF4 hF5 hrd4 hr4 hat5 hK5 hr5 hb6 hz9
        go_wp2_with fail
        refine planQ_normal (And.intro hF6 ?_)
        refine' plan_quiet (s := 60) (A1 := _) (r := []) [3, 4, 5, 6, 7] [_, _, _, _, _] _ rfl rfl rfl (fun W hW => ?hq1) _ hF6 (fun _ => ?hr1)
        case hq1 =>
          simp only [List.getElem_toArray, List.getElem_cons_zero, List.getElem_cons_succ]
          iterate 5 (go_big_quiet_step (fail))
          refine wpQuiet_nil ?_
          rfl
        case hr1 =>
        refine plan_end fun k9 => NoPanic.normal ?_
        go_wp2_with fail
        go_ret
        exact ⟨rfl, below_drewN hbw6 k9⟩
end Go.Proofs.YtikjhnbehihbjaaDoor
