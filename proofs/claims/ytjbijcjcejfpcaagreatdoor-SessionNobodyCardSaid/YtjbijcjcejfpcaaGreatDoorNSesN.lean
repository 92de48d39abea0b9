/- sporranlaw20.SessionNobody: the walk.  -/
import Derived.Test.YtjbijcjcejfpcaaGreatDoorNSesG
namespace Go.Proofs.YtjbijcjcejfpcaaGreatDoor
open Go Go.RowKit
set_option linter.unusedVariables false
def doZ : List Value := [.int .i64 0, .int .i64 0, .int .i64 0] ++ (msgZ 0 ++ [.slice none 0 0, .bool false])
def NoneV (w : World) (s : Value) : Prop := s = .pointer none ∨ ∃ g, s = .pointer (some ⟨g, 0, none⟩) ∧ w.cell? ⟨g, 1, none⟩ = some (.pointer none)
theorem NoneV.fut {w w' : World} {s : Value} (h : NoneV w s) (hb : Below w.heap.size w w') : NoneV w' s := by
  rcases h with h | ⟨g, h1, h2⟩
  · exact .inl h
  · refine .inr ⟨g, h1, (hb.cell (p := ⟨g, 1, none⟩) ?_).trans h2⟩
    by_cases hlt : g < w.heap.size
    · exact hlt
    · exfalso
      simp only [World.cell?, Array.getElem?_eq_none (Nat.le_of_not_lt hlt)] at h2
      cases h2
theorem NoneV.ptr {w : World} {s : Value} (h : NoneV w s) : ∃ o, s = .pointer o := by
  rcases h with rfl | ⟨g, rfl, _⟩
  · exact ⟨_, rfl⟩
  · exact ⟨_, rfl⟩
theorem none_yes (s : Value) (w : World) (h : NoneV w s) : Calls Tryz.prog 22 #[s] w fun e w' => e = .returned (.bool true) ∧ w' = w := by
  rcases h with rfl | ⟨g, rfl, c1⟩
  · go_enter Tryz.func22, Tryz.ntmps22
    go_wp2_with fail
    go_ret
    exact ⟨rfl, rfl⟩
  · go_enter Tryz.func22, Tryz.ntmps22
    go_wp2_with fail
    go_ret
    exact ⟨rfl, rfl⟩
theorem feed_noneS (s u : Value) (w : World) (h : NoneV w s) : Calls Tryz.prog 10 #[s, u] w fun e w' => e = .returned (.tuple #[.slice none 0 0, .slice none 0 0, .int .i64 2]) ∧ w' = w := by
  have HN := Lib.hid (none_yes s w h)
  clear h
  go_enter Tryz.func10, Tryz.ntmps10
  go_wp2_with fail
  refine HN.out.mono ?_
  rintro e w0 ⟨rfl, hw⟩
  replace hw := hw.symm
  subst hw
  go_wp2_with fail
  refine bodyPost_ret (results_tmp3 rfl _ _ _) rfl ?_
  exact ⟨rfl, rfl⟩
theorem ask_none (s : Value) (cs : List Value) (now : Value) (w : World) (h : NoneV w s) : Calls Tryz.prog 14 #[s, .agg cs.toArray, now] w fun e w' => e = .returned (.tuple #[.slice none 0 0, .int .i64 2]) ∧ Below w.heap.size w w' := by
  obtain ⟨W1, hW1⟩ : ∃ V, V = w.alloc (.cells cs.toArray 41) := ⟨_, rfl⟩
  have hb1 : Below w.heap.size w W1 := by rw [hW1]; exact below_new w _
  have HN := Lib.hid (none_yes s W1 (h.fut hb1))
  have HB1 := Lib.hid hb1
  clear h hb1
  go_enter Tryz.func14, Tryz.ntmps14
  go_upto_region 1 with fail
  rw [← hW1]
  clear hW1
  go_wp2_with fail
  refine HN.out.mono ?_
  rintro e w0 ⟨rfl, hw⟩
  replace hw := hw.symm
  subst hw
  go_wp2_with fail
  go_ret2
  exact ⟨rfl, HB1.out⟩
theorem hello_none (s : Value) (w : World) (h : NoneV w s) : Calls Tryz.prog 13 #[s] w fun e w' => e = .returned (.slice none 0 0) ∧ Below w.heap.size w w' := by
  obtain ⟨o, rfl⟩ := h.ptr
  obtain ⟨z1, hz1⟩ : ∃ z, z = w.heap.size := ⟨_, rfl⟩
  obtain ⟨W1, hW1⟩ : ∃ V, V = w.alloc (.cells #[.pointer o] 23) := ⟨_, rfl⟩
  have hb1 : Below w.heap.size w W1 := by rw [hW1]; exact below_new w _
  have hB1 : Blk W1 z1 23 #[.pointer o] := by rw [hW1, hz1]; exact Blk.new w _ _
  have HN := Lib.hid (none_yes (.pointer o) W1 (h.fut hb1))
  have HB1 := Lib.hid hb1
  have hc := hB1.cell 0
  replace hc : W1.cell? ⟨z1, 0, none⟩ = some (.pointer o) := hc
  clear h hb1 hB1
  go_enter Tryz.func13, Tryz.ntmps13
  go_upto_region 1 with fail
  rw [← hW1, ← hz1]
  clear hW1 hz1
  go_wp2_with fail
  refine HN.out.mono ?_
  rintro e w0 ⟨rfl, hw⟩
  replace hw := hw.symm
  subst hw
  go_wp2_with fail
  go_ret
  exact ⟨rfl, HB1.out⟩
theorem ready_none (s : Value) (w : World) (h : NoneV w s) : Calls Tryz.prog 12 #[s] w fun e w' => e = .returned (.bool false) ∧ w' = w := by
  have HN := Lib.hid (none_yes s w h)
  clear h
  go_enter Tryz.func12, Tryz.ntmps12
  go_wp2_with fail
  refine HN.out.mono ?_
  rintro e w0 ⟨rfl, hw⟩
  replace hw := hw.symm
  subst hw
  go_wp2_with fail
  go_ret
  exact ⟨rfl, rfl⟩
theorem late_none (s now : Value) (w : World) (h : NoneV w s) : Calls Tryz.prog 15 #[s, now] w fun e w' => e = .returned (.bool false) ∧ w' = w := by
  have HN := Lib.hid (none_yes s w h)
  clear h
  go_enter Tryz.func15, Tryz.ntmps15
  go_wp2_with fail
  refine HN.out.mono ?_
  rintro e w0 ⟨rfl, hw⟩
  replace hw := hw.symm
  subst hw
  go_wp2_with fail
  go_ret
  exact ⟨rfl, rfl⟩
set_option maxRecDepth 100000 in
theorem waits_none (s : Value) (w : World) (h : NoneV w s) : Calls Tryz.prog 16 #[s] w fun e w' => e = .returned (.tuple #[.agg (msgZ 0).toArray, .bool false]) ∧ Below w.heap.size w w' := by
  have hz := zMsg
  have hbt := built_msg0
  have hy1 := msgZ_one
  have hy2 := msgZ_size 0
  obtain ⟨YL, hYL⟩ : ∃ Y, Y = msgZ 0 := ⟨_, rfl⟩
  rw [← hYL] at hz hbt hy1 hy2 ⊢
  have HYS : Hid (YL.toArray.size = 139) := Lib.hid hy2
  have HY1 : Hid (YL.toArray.all (·.oneCell') = true) := Lib.hid hy1
  obtain ⟨z1, hz1⟩ : ∃ z, z = w.heap.size := ⟨_, rfl⟩
  obtain ⟨W1, hW1⟩ : ∃ V, V = w.alloc (.cells YL.toArray 41) := ⟨_, rfl⟩
  have hb1 : Below w.heap.size w W1 := by rw [hW1]; exact below_new w _
  have hB1 : Blk W1 z1 41 YL.toArray := by rw [hW1, hz1]; exact Blk.new w _ _
  have HN := Lib.hid (none_yes s W1 (h.fut hb1))
  have HB1 := Lib.hid hb1
  have HM := Lib.hid hB1
  have hz1w : w.heap.size ≤ z1 := by omega
  have hbr := Below.refl w.heap.size W1
  clear h hb1 hB1 hYL hy1 hy2
  go_enter Tryz.func16, Tryz.ntmps16
  go_upto_region 1 with fail
  rw [← hW1, ← hz1]
  clear hW1 hz1
  go_wp2_with fail
  refine HN.out.mono ?_
  rintro e w0 ⟨rfl, hw⟩
  replace hw := hw.symm
  subst hw
  go_wp2_with (first
    | (with_reducible refine wp_build (o := ⟨some 14, _, _, _, _, _⟩) ?_ 41 #[] ?_ [] ?_ YL.toArray hbt ?_
       · rfl
       · rfl
       · rfl)
    | (with_reducible refine wp_store_blk (o := ⟨none, _, _, _, _, _⟩) ?_ 41 (.tmp 2) (.tmp 14) ?_ (z1) 41 (YL.toArray) (YL.toArray) ?_ ?_ (HM.out) ?_ ?_ ?_ (w.heap.size) (W1) ?_ ?_ ?_
       · rfl
       · rfl
       · rfl
       · rfl
       · exact (by rw [HYS.out]; kernel_rfl)
       · exact (rfl)
       · exact (HY1.out)
       · exact (hbr)
       · exact (hz1w)
       intro w5 hB5 hb5 hg5 hs5))
  refine bodyPost_ret (results_cell2 rfl _ _ _ z1 _ YL _ rfl hB5.out Tryz.underlying41 rfl (by have h := HYS.out; rw [List.size_toArray] at h; exact info_Msg h)) rfl ?_
  exact ⟨rfl, HB1.out.trans hb5⟩
theorem built_ses0 : Tryz.prog.built 77 [] = some #[.int .u64 0, .pointer none, .int .u32 0, .int .i32 0, .int .u32 0, .int .i32 0, .int .u32 0, .bool false, .bool false, .pointer none] := by kernel_rfl
set_option maxRecDepth 100000 in
set_option maxHeartbeats 8000000 in
theorem sessionNobody_walk (cs : List Value) (W : World) (hK : Laid W) (hcs : cs.length = 144) :
    Calls Tryz.prog 7 #[.agg cs.toArray] W fun e w' => e = .returned (.bool true) ∧ Below W.heap.size W w' := by
  have HCS := Lib.hid hcs
  have HKs := Lib.hid hK.size
  have HK := Lib.hid hK
  obtain ⟨zd, hzd⟩ : ∃ z, z = W.heap.size := ⟨_, rfl⟩
  obtain ⟨W1, hW1⟩ : ∃ V, V = W.alloc (.cells cs.toArray 56) := ⟨_, rfl⟩
  have hb0 : Below W.heap.size W W1 := by rw [hW1]; exact below_new W _
  have hB1 : Blk W1 zd 56 cs.toArray := by rw [hW1, hzd]; exact Blk.new W _ _
  have HB0 := Lib.hid hb0
  have HD := Lib.hid hB1
  obtain ⟨v1, hv1⟩ : ∃ v, cs[1]? = some v := ⟨_, List.getElem?_eq_getElem (by omega)⟩
  obtain ⟨v142, hv142⟩ : ∃ v, cs[142]? = some v := ⟨_, List.getElem?_eq_getElem (by omega)⟩
  have HV1 := Lib.hid hv1
  have HV142 := Lib.hid hv142
  obtain ⟨mc, hmc⟩ : ∃ mc, mc = (cs.drop 3).take 139 := ⟨_, rfl⟩
  have HML : Hid (mc.length = 139) := Lib.hid (by rw [hmc, List.length_take, List.length_drop, hcs]; rfl)
  have HMC := Lib.hid hmc
  have hbt := built_ses0
  obtain ⟨zs, hzs⟩ : ∃ z, z = W1.heap.size := ⟨_, rfl⟩
  obtain ⟨SC, hSC⟩ : ∃ SC, SC = (#[.int .u64 0, .pointer none, .int .u32 0, .int .i32 0, .int .u32 0, .int .i32 0, .int .u32 0, .bool false, .bool false, .pointer none] : Array Value) := ⟨_, rfl⟩
  obtain ⟨W2, hW2⟩ : ∃ V, V = W1.alloc (.cells SC 77) := ⟨_, rfl⟩
  have hb2 : Below W1.heap.size W1 W2 := by rw [hW2]; exact below_new W1 _
  have hB2 : Blk W2 zs 77 SC := by rw [hW2, hzs]; exact Blk.new W1 _ _
  obtain ⟨zl, hzl⟩ : ∃ z, z = W2.heap.size := ⟨_, rfl⟩
  obtain ⟨W3, hW3⟩ : ∃ V, V = W2.alloc (.cells #[.pointer none, .pointer (some ⟨zs, 0, none⟩)] 23) := ⟨_, rfl⟩
  have hb3 : Below W2.heap.size W2 W3 := by rw [hW3]; exact below_new W2 _
  have hzl' : zl = zs + 1 := by rw [hzl, hW2, World.size_alloc, hzs]
  have hB3 : Blk W3 zl 23 #[.pointer none, .pointer (some ⟨zs, 0, none⟩)] := by rw [hW3, hzl]; exact Blk.new W2 _ _
  have HNV : Hid (NoneV W3 (.pointer (some ⟨zs, 0, none⟩))) := Lib.hid (.inr ⟨zs, rfl, by
    have h := (hB2.fut hb3).cell 1
    rw [hSC] at h
    exact h⟩)
  have HL := Lib.hid hB3
  have HB13 := Lib.hid (below_fut hb2 hb3 (Nat.le_refl _))
  have HB3 := Lib.hid (below_fut hb0 HB13.out (Nat.le_refl _))
  have HD3 := Lib.hid (HD.out.fut HB13.out)
  have hz := zMsg
  have hy1 := msgZ_one
  have hy2 := msgZ_size 0
  have hwn := fun s V h => waits_none s V h
  obtain ⟨Y0, hY0⟩ : ∃ Y, Y = (msgZ 0).toArray := ⟨_, rfl⟩
  rw [← hY0] at hz hy1 hy2
  simp only [← hY0] at hwn
  have HWN := Lib.hid hwn
  have HYS : Hid (Y0.size = 139) := Lib.hid hy2
  have HY1 : Hid (Y0.all (·.oneCell') = true) := Lib.hid hy1
  rw [← hSC] at hbt
  clear hcs hK hb0 hB1 hv1 hv142 hmc hb2 hB2 hb3 hB3 hSC hY0 hy1 hy2 hwn
  go_enter Tryz.func7, Tryz.ntmps7
  go_upto_region 1 with fail
  rw [← hW1, ← hzd]
  clear hW1 hzd
  go_upto_block 0 with ((with_reducible refine wp_build (o := ⟨some 12, _, _, _, _, _⟩) ?_ 77 #[] ?_ [] ?_ SC hbt ?_
                         · rfl
                         · rfl
                         · rfl))
  rw [← hzs, ← hW2, ← hzl', ← hW3]
  clear hzs hW2 hzl hzl' hW3
  go_wp2_with fail
  go_loopw [16] (fun i wx => ∃ k : Nat, k ≤ 2 ∧ i = .int .i64 k ∧ Hid (Below W3.heap.size W3 wx)) (fun i _ => 2 - (intOf i).toNat)
  case atStart => exact ⟨0, by omega, rfl, Lib.hid (Below.refl _ _)⟩
  case round =>
    obtain ⟨k, hk, rfl, HB⟩ := hrel
    have HBW := Lib.hid (below_fut HB3.out HB.out (Nat.le_refl _))
    by_cases hk2 : k < 2
    · have hlt : (k : Int) < 2 := by omega
      obtain ⟨s, hcell, hnv⟩ : ∃ s, wr.cell? ⟨zl, k, none⟩ = some s ∧ NoneV wr s := by
        rcases (show k = 0 ∨ k = 1 by omega) with rfl | rfl
        · exact ⟨_, (HL.out.fut HB.out).cell 0, .inl rfl⟩
        · exact ⟨_, (HL.out.fut HB.out).cell 1, HNV.out.fut HB.out⟩
      have hd := HD3.out.fut HB.out
      have hc142 : wr.cell? ⟨zd, 142, none⟩ = some v142 := by rw [hd.cell 142, List.getElem?_toArray]; exact HV142.out
      have hc1 : wr.cell? ⟨zd, 1, none⟩ = some v1 := by rw [hd.cell 1, List.getElem?_toArray]; exact HV1.out
      have lm : wr.rangeAt zd 3 mc := Blk.rangeAt hd 3 mc (fun j v hj => by
        rw [HMC.out] at hj
        rw [List.getElem?_toArray]
        rw [List.getElem?_take] at hj
        split at hj
        · rw [List.getElem?_drop] at hj; exact hj
        · cases hj)
      have HF := Lib.hid (feed_noneS s v142 wr hnv)
      have HA := Lib.hid (ask_none s mc v1 wr hnv)
      have HNW := Lib.hid hnv
      have HBR := Lib.hid HB.out
      have HBW3 := Lib.hid (Below.refl W3.heap.size W3)
      clear hd hnv HB
      go_wp2_with fail
      refine HF.out.mono ?_
      rintro e w5 ⟨rfl, hw⟩
      replace hw := hw.symm
      subst hw
      clear HF
      go_wp2_with ((with_reducible refine wpList_load_mid (op := ⟨some 31, _, _, _, _, _⟩) ?_ 41 (.tmp 30) ?_ (zd) (3) ?_ (mc) _ (lm) Tryz.underlying41 ?_ ?_ ?_
                    · rfl
                    · rfl
                    · rfl
                    · rfl
                    · exact ((info_Msg HML.out))))
      refine HA.out.mono ?_
      rintro e w6 ⟨rfl, hb6⟩
      have HB6 := Lib.hid hb6
      clear HA hb6 lm
      go_wp2_with fail
      refine (HWN.out s w6 (HNW.out.fut HB6.out)).mono ?_
      rintro e w7 ⟨rfl, hb7⟩
      have HB7 := Lib.hid (below_fut HB6.out hb7 (Nat.le_refl _))
      have hbn := below_new w7 (.cells Y0 41)
      clear hb7 HB6
      go_upto_region 7 with ((with_reducible refine wp_store_blk (o := ⟨none, _, _, _, _, _⟩) ?_ 41 (.tmp 10) (.tmp 40) ?_ (w7.heap.size) 41 (Y0) (Y0) ?_ ?_ (Blk.new w7 _ _) ?_ ?_ ?_ (w7.heap.size) (w7) ?_ ?_ ?_
                              · rfl
                              · rfl
                              · rfl
                              · rfl
                              · exact (by rw [HYS.out]; kernel_rfl)
                              · exact (rfl)
                              · exact (HY1.out)
                              · exact (hbn)
                              · exact (Nat.le_refl _)
                              intro w8 hB8 hb8 hg8 hs8))
      try simp only [put_none]
      have HB8 := Lib.hid (below_fut HB7.out hb8 (Nat.le_refl _))
      have hn8 := HNW.out.fut HB8.out
      have HH := Lib.hid (hello_none s w8 hn8)
      clear hB8 hb8 hg8 hs8 hbn hz HB7 hn8
      go_wp2_with fail
      refine HH.out.mono ?_
      rintro e w9 ⟨rfl, hb9⟩
      have HB9 := Lib.hid (below_fut HB8.out hb9 (Nat.le_refl _))
      have hn9 := HNW.out.fut HB9.out
      have HR9 := Lib.hid (ready_none s w9 hn9)
      have hd9 := (HD3.out.fut (below_fut (below_fut HBW3.out HBR.out (Nat.le_refl _)) HB9.out (Nat.le_refl _)))
      have hc19 : w9.cell? ⟨zd, 1, none⟩ = some v1 := by rw [hd9.cell 1, List.getElem?_toArray]; exact HV1.out
      have HL9 := Lib.hid (late_none s v1 w9 hn9)
      clear hb9 hn9 HH HB8 hd9
      go_wp2_with fail
      refine HR9.out.mono ?_
      rintro e wa ⟨rfl, hw⟩
      replace hw := hw.symm
      subst hw
      clear HR9
      go_wp2_with fail
      refine HL9.out.mono ?_
      rintro e wa ⟨rfl, hw⟩
      replace hw := hw.symm
      subst hw
      have HBE := Lib.hid (below_fut HBR.out HB9.out (Nat.le_refl _))
      clear HL9
      go_wp2_with fail
      go_roundw
      case rel => exact ⟨k + 1, by omega, by go_num, HBE⟩
      case measure => simp [intOf]; omega
    · have hlt : ¬ (k : Int) < 2 := by omega
      have HAW := Lib.hid (awake20_any wr (HK.out.below HBW.out HKs.out))
      go_wp2_with fail
      refine HAW.out.mono ?_
      rintro e w5 ⟨rfl, hb5⟩
      have HB5 := Lib.hid (below_fut HBW.out hb5 (Nat.le_refl _))
      clear hb5 HAW
      go_wp2_with fail
      go_ret
      exact ⟨rfl, HB5.out⟩
end Go.Proofs.YtjbijcjcejfpcaaGreatDoor
