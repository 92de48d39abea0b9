/- sporranlaw20.SessionBans: the walk.  -/
import Derived.Test.YtjbijcjcejfpcaaGreatDoorBSesG
namespace Go.Proofs.YtjbijcjcejfpcaaGreatDoor
open Go Go.RowKit
set_option linter.unusedVariables false
theorem feed_bad (g rv : Nat) (no : BitVec 64) (dn hl : Int) (ve ak : Bool) (aq : Option Addr) (u : Value) (w : World) (h : SesB w g no rv dn hl 1 ve ak aq) :
    Calls Tryz.prog 10 #[.pointer (some ⟨g, 0, none⟩), u] w fun e w' => e = .returned (.tuple #[.slice none 0 0, .slice none 0 0, .int .i64 201]) ∧ w' = w := by
  have HN := Lib.hid (none_any g no rv dn hl 1 ve ak aq w h)
  have HBL := Lib.hid (bool_load ⟨g, 6, none⟩ 1 w h.l.c6)
  clear h
  go_enter Tryz.func10, Tryz.ntmps10
  go_wp2_with fail
  refine HN.out.mono ?_
  rintro e w0 ⟨rfl, hw⟩
  replace hw := hw.symm
  subst hw
  go_wp2_with fail
  refine HBL.out.mono ?_
  rintro e w0 ⟨rfl, hw⟩
  replace hw := hw.symm
  subst hw
  go_wp2_with fail
  refine bodyPost_ret (results_tmp3 rfl _ _ _) rfl ?_
  exact ⟨rfl, rfl⟩
theorem ask_bad (g rv : Nat) (no : BitVec 64) (dn hl : Int) (ve ak : Bool) (aq : Option Addr) (cs : List Value) (now : Value) (w : World) (h : SesB w g no rv dn hl 1 ve ak aq) :
    Calls Tryz.prog 14 #[.pointer (some ⟨g, 0, none⟩), .agg cs.toArray, now] w fun e w' => e = .returned (.tuple #[.slice none 0 0, .int .i64 201]) ∧ Below w.heap.size w w' := by
  obtain ⟨W1, hW1⟩ : ∃ V, V = w.alloc (.cells cs.toArray 41) := ⟨_, rfl⟩
  have hb1 : Below w.heap.size w W1 := by rw [hW1]; exact below_new w _
  have h1 : SesB W1 g no rv dn hl 1 ve ak aq := h.fut hb1
  have HN := Lib.hid (none_any g no rv dn hl 1 ve ak aq W1 h1)
  have HBL := Lib.hid (bool_load ⟨g, 6, none⟩ 1 W1 h1.l.c6)
  have HB1 := Lib.hid hb1
  clear h h1 hb1
  go_enter Tryz.func14, Tryz.ntmps14
  go_upto_region 1 with fail
  rw [← hW1]
  clear hW1
  go_wp2_with fail
  refine HN.out.mono ?_
  rintro e w0 ⟨rfl, hw⟩
  replace hw := hw.symm
  subst hw
  go_wp2_with fail
  refine HBL.out.mono ?_
  rintro e w0 ⟨rfl, hw⟩
  replace hw := hw.symm
  subst hw
  go_wp2_with fail
  go_ret2
  exact ⟨rfl, HB1.out⟩
theorem frmRun_count : ∀ (f : Nat) (s : Bs), (frmRun f s).1.length ≤ f
  | 0, _ => Nat.le_refl _
  | f + 1, s => by
    unfold frmRun
    split
    · exact Nat.zero_le _
    · exact Nat.zero_le _
    · simp only [List.length_cons]
      exact Nat.succ_le_succ (frmRun_count f _)
theorem frmAll_count (s : Bs) : (frmAll s).1.length ≤ s.length := frmRun_count _ s
theorem bans_all (b : Bs) : feedP [] 0 ((Ev.ver 0#32 0#64).b ++ b) = ((Ev.ver 0#32 0#64).f :: (frmAll b).1, (frmAll b).2) := by
  unfold feedP
  rw [if_pos rfl, List.nil_append, Ev.all]
theorem bans_run (fs : Frms) : runS ⟨true, true⟩ ((Ev.ver 0#32 0#64).f :: fs) = none := by
  rw [run_ver, if_pos rfl]
set_option maxRecDepth 100000 in
set_option maxHeartbeats 8000000 in
theorem sessionBans_walk (q : Option Addr) (n c : Nat) (bs : Bs) (cs : List Value) (m : TMsg) (q2 : Option Addr) (n2 c2 : Nat) (rs : Bs) (W : World) (hK : Laid W) (hn : bs.length = n) (hl : n ≤ c) (hc : c ≤ 1048576) (hr : Row8 W q bs) (hp : q = none → c = 0)
    (hm : MsgC W m cs) (hn2 : rs.length = n2) (hl2 : n2 ≤ c2) (hc2 : c2 ≤ 1048576) (hr2 : Row8 W q2 rs) (hp2 : q2 = none → c2 = 0) :
    Calls Tryz.prog 4 #[.slice q n c, .agg cs.toArray, .slice q2 n2 c2] W fun e w' => e = .returned (.bool true) ∧ Below W.heap.size W w' := by
  have HCL := Lib.hid hm.len
  have HN := Lib.hid hn
  have HR := Lib.hid hr
  obtain ⟨zm, hzm⟩ : ∃ z, z = W.heap.size := ⟨_, rfl⟩
  obtain ⟨W1, hW1⟩ : ∃ V, V = W.alloc (.cells cs.toArray 41) := ⟨_, rfl⟩
  have hb0 : Below W.heap.size W W1 := by rw [hW1]; exact below_new W _
  have hB1 : Blk W1 zm 41 cs.toArray := by rw [hW1, hzm]; exact Blk.new W _ _
  have HKs : Hid (gTop ≤ W.heap.size ∧ W.heap.size < W1.heap.size) := Lib.hid ⟨hK.size, by rw [← hzm]; exact hB1.lt⟩
  have HK := Lib.hid (hK.below hb0 hK.size)
  have HG := Lib.hid (greeted_any W1 HK.out)
  have HB0 := Lib.hid hb0
  have HM := Lib.hid hB1
  clear hn hr hK hm hb0 hB1 hn2 hr2 hp hp2
  go_enter Tryz.func4, Tryz.ntmps4
  go_upto_region 1 with fail
  rw [← hW1, ← hzm]
  clear hW1 hzm
  go_wp2_with fail
  refine HG.out.mono ?_
  rintro e w1 ⟨g, rv, rfl, hra, hb1⟩
  have HRA := Lib.hid hra
  have HB1 := Lib.hid hb1
  have hbt1 := built_g 1
  obtain ⟨M1, hM1⟩ : ∃ M1, M1 = (msgK 1 0#32 0#64).toArray := ⟨_, rfl⟩
  have hf1 := (Ev.ver 0#32 0#64).ref (msgK 1 0#32 0#64) w1 (msgK_o 0 w1 1 0#32 0#64).c
  rw [← hM1] at hbt1 hf1
  have HF1 := Lib.hid hf1
  clear hra hb1 HG hM1 hf1
  go_wp2_with ((with_reducible refine wp_build (o := ⟨some 22, _, _, _, _, _⟩) ?_ 41 #[(0, .const (.int .i64 1))] ?_ [(0, .int .i64 1)] ?_ M1 hbt1 ?_
                · rfl
                · rfl
                · rfl))
  refine HF1.out.mono ?_
  intro e w2 h2
  obtain ⟨v2, rfl, hsl2, hb2⟩ := h2.sl (Ev.b_ne _)
  have HB2 := Lib.hid hb2
  have hr2 : Row8 w2 q bs := (HR.out.below HB0.out (Nat.le_refl _)).fut (below_fut HB1.out hb2 (Nat.le_refl _))
  have hw12 : w1.heap.size ≤ w2.heap.size := hb2.size
  obtain ⟨VB, hVB⟩ : ∃ VB, VB = (Ev.ver 0#32 0#64).b := ⟨_, rfl⟩
  rw [← hVB] at hsl2
  have hVl : VB.length ≤ 109 := by rw [hVB]; exact (Ev.b_len _).2
  have hlen : VB.length + bs.length ≤ 140737488355328 := by rw [HN.out]; omega
  have HNN := HN.out
  have HVB := Lib.hid hVB
  clear h2 hb2 HF1 hbt1 hVB
  go_wp2_with (first
      | (with_reducible refine wp_sl8e (o := ⟨some 30, _, _, _, _, _⟩) ?_ (.tmp 28) (.tmp 29) ?_ w1.heap.size v2 VB ?_ hsl2 q n c bs ?_ HNN hr2 ?_ hw12 ?_
         · rfl
         · rfl
         · rfl
         · rfl
         · exact hlen
         intro v4 w4 hs4 hb4))
  obtain ⟨q4, c4, rfl, hl4, hr4⟩ := hs4.row
  obtain ⟨n4, hn4⟩ : ∃ n4, n4 = (VB ++ bs).length := ⟨_, rfl⟩
  have hn4' : n4 ≤ 1048685 := by rw [hn4, List.length_append, HNN]; omega
  have hb14 : Below w1.heap.size w1 w4 := HB2.out.trans hb4
  obtain ⟨hs1, ⟨v5, hrd, hsf⟩, hBr, hBg⟩ := HRA.out
  have hs5 : SesB w4 g 5#64 rv 1 2 0 true true none := Blk.below hs1 hb14 hs1.lt
  have hr5 : Rd w4 rv v5 0 := Blk.below hrd hb14 hrd.lt
  have hv5 : Sfx8 w4 W1.heap.size v5 [] := hsf.fut hb14
  have hw1 : W1.heap.size ≤ w1.heap.size := HB1.out.size
  have hbw4 : Below W1.heap.size W1 w4 := HB1.out.trans (hb14.mono hw1)
  have hall : feedP [] 0 (VB ++ bs) = ((Ev.ver 0#32 0#64).f :: (frmAll bs).1, (frmAll bs).2) := by rw [HVB.out]; exact bans_all bs
  have hKw : gTop ≤ W1.heap.size := by have := HKs.out; omega
  have hfd := feed_small W1.heap.size g rv v5 [] (VB ++ bs) 0 q4 n4 c4 w4 5#64 1 ⟨true, true⟩ (HK.out.below hbw4 hKw) hKw ⟨hBr, hBg⟩ hs5 hr5 hv5 (fun h => absurd rfl h) hr4 hn4.symm (by simp only [List.length_nil]; omega) (by
      rw [hall]
      have := frmAll_count bs
      rw [HNN] at this
      show (frmAll bs).1.length + 1 ≤ 1000000000
      omega) (by
      rw [hall]
      exact ⟨Ev.ver 0#32 0#64, rfl, fun h => by cases h⟩)
  rw [hall] at hfd
  have hnone : (if ((Ev.ver 0#32 0#64).f :: (frmAll bs).1, (frmAll bs).2).2.2 = 0 then runS ⟨true, true⟩ ((Ev.ver 0#32 0#64).f :: (frmAll bs).1, (frmAll bs).2).1 else none) = none := by
    show (if (frmAll bs).2.2 = 0 then runS ⟨true, true⟩ ((Ev.ver 0#32 0#64).f :: (frmAll bs).1) else none) = none
    rw [bans_run]
    split <;> rfl
  rw [hnone] at hfd
  obtain ⟨Y, hY⟩ : ∃ Y, Y = ((Ev.ver 0#32 0#64).f :: (frmAll bs).1, (frmAll bs).2) := ⟨_, rfl⟩
  rw [← hY] at hfd
  rw [← hn4]
  have HFD := Lib.hid hfd
  have HBW4 := Lib.hid hbw4
  clear hs4 hb4 hr4 hn4 hb14 hs1 hrd hsf hs5 hr5 hv5 hbw4 hall hfd hnone hY hsl2 hr2 hlen HVB hl4
  go_wp2_with fail
  refine HFD.out.mono ?_
  intro e w5 h5
  obtain ⟨hb5, hst5, rfl, hl5, ve5, ak5, hs5⟩ := h5
  have HF5 := Lib.hid (fun u => feed_bad g rv 5#64 1 hl5 ve5 ak5 none u w5 hs5)
  have HA5 := Lib.hid (fun now => ask_bad g rv 5#64 1 hl5 ve5 ak5 none cs now w5 hs5)
  have HS5 := Lib.hid hs5
  have hbw5 : Below W1.heap.size W1 w5 := HBW4.out.trans hb5
  have lm := blk_range (Blk.below HM.out hbw5 HM.out.lt)
  have HBW5 : Hid (Below W.heap.size W w5) := Lib.hid (HB0.out.trans (hbw5.mono (by have := HKs.out; omega)))
  clear hb5 hst5 hs5 hbw5 HFD HBW4
  go_wp2_with fail
  refine (HF5.out _).mono ?_
  rintro e w6 ⟨rfl, hw⟩
  replace hw := hw.symm
  subst hw
  clear HF5
  go_wp2_with ((with_reducible refine wpList_load_mid (op := ⟨some 44, _, _, _, _, _⟩) ?_ 41 (.tmp 4) ?_ (zm) (0) ?_ (cs) _ (lm) Tryz.underlying41 ?_ ?_ ?_
                · rfl
                · rfl
                · rfl
                · rfl
                · exact ((info_Msg HCL.out))))
  refine (HA5.out _).mono ?_
  rintro e w7 ⟨rfl, hb7⟩
  have hs7 : SesB w7 g 5#64 rv 1 hl5 1 ve5 ak5 none := HS5.out.fut hb7
  have HRY := Lib.hid (ready_any g 5#64 rv 1 hl5 1 ve5 ak5 none w7 hs7)
  have HB7 := Lib.hid (below_fut HBW5.out hb7 (Nat.le_refl _))
  have hff : (hl5 == 2 && !((1 : Int) != 0)) = false := by cases (hl5 == 2) <;> rfl
  rw [hff] at HRY
  clear hs7 hb7 hff lm HA5
  go_wp2_with fail
  refine HRY.out.mono ?_
  rintro e w8 ⟨rfl, hw⟩
  replace hw := hw.symm
  subst hw
  go_wp2_with fail
  go_ret
  exact ⟨rfl, HB7.out⟩
end Go.Proofs.YtjbijcjcejfpcaaGreatDoor
