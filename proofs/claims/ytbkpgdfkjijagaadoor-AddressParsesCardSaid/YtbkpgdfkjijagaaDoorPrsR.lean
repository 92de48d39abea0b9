/- sporranref14.Parse: the walk. -/
import Derived.Test.YtbkpgdfkjijagaaDoorPrs
import Derived.Test.YtbkpgdfkjijagaaDoorScriptJ
import Derived.Test.YtbkpgdfkjijagaaDoorAdrC
namespace Go.Proofs.YtbkpgdfkjijagaaDoor
open Go.RowKit
set_option linter.unusedVariables false

/-- the address of a kind's script -/
def txtK (K : Int) (b : List (BitVec 8)) : List (BitVec 8) × Int := textB (cls ((made K b).getD [])).1 (cls ((made K b).getD [])).2
def b20 (s : List (BitVec 8)) : List (BitVec 8) := ((unb58 s).1.take 21).drop 1
def firstR (s : List (BitVec 8)) : Option (List (BitVec 8)) :=
  if (unb58 s).2 = 0 ∧ (unb58 s).1.length = 25 then (if (txtK 1 (b20 s)).1 = s then some ((made 1 (b20 s)).getD []) else if (txtK 2 (b20 s)).1 = s then some ((made 2 (b20 s)).getD []) else none) else none
def smallR (s : List (BitVec 8)) : List (BitVec 8) := if s.any isLo then s else s.map lowC
def tryR (t b : List (BitVec 8)) (K : Int) : Option (List (BitVec 8)) := if (made K b).isSome ∧ (txtK K b).1 = t then some ((made K b).getD []) else none
def secondR (t : List (BitVec 8)) : Option (List (BitVec 8)) := if (cand t).2 = true then ((tryR t (cand t).1 3).or ((tryR t (cand t).1 4).or (tryR t (cand t).1 5))) else none
def prsR (s : List (BitVec 8)) : List (BitVec 8) × Int := match firstR s with
  | some x => (x, 0)
  | none => match secondR (smallR s) with
    | some x => (x, 0)
    | none => ([], 140)
def DecR (w : World) (x : List (BitVec 8) × Int) (e : Ending) (w' : World) : Prop := ∃ p n c, e = .returned (.tuple #[.slice p n c, .int .i64 x.2]) ∧ Row8 w' p x.1 ∧ x.1.length = n ∧ Below w.heap.size w w'
theorem cls_short (x y : List (BitVec 8)) (k : Nat) (h : cls x = (k, y)) : y.length ≤ x.length := by
  rcases made_back x y k h with ⟨_, rfl⟩ | ⟨_, _, h⟩
  · exact Nat.zero_le _
  · exact h
theorem made_size (K : Int) (h1 : 1 ≤ K) (h5 : K ≤ 5) (b : List (BitVec 8)) : ((made K b).getD []).length ≤ b.length + 5 ∧ (cls ((made K b).getD [])).2.length ≤ b.length := by
  cases h : made K b with
  | none => exact ⟨Nat.zero_le _, Nat.le_trans (cls_short [] _ _ rfl) (Nat.zero_le _)⟩
  | some t =>
    obtain ⟨h1, h2⟩ := cls_back K h1 (by omega) b t h
    refine ⟨h2, ?_⟩
    show (cls t).2.length ≤ b.length
    rw [h1]
    exact Nat.le_refl _
theorem cand_len (t : List (BitVec 8)) : (cand t).1.length ≤ 90 := by
  unfold cand
  split
  · rename_i h
    have h1 := (b8_ok (grp t) (fun x hx => by
      unfold grp at hx
      obtain ⟨c, hc, rfl⟩ := List.mem_map.1 (List.mem_of_mem_drop hx)
      exact h.2 c hc)).len
    have h2 : (grp t).length ≤ 90 := by
      unfold grp
      rw [List.length_drop, List.length_map, mid_len h.1.1]
      have := h.1.2.1
      omega
    show (ofNats _).length ≤ _
    rw [ofNats_len]
    omega
  · exact Nat.zero_le _
theorem refText_txt (K : Int) (D : List (BitVec 8)) (p : Option Addr) (n c : Nat) (w : World) (hr : Row8 w p ((made K D).getD [])) (hn : ((made K D).getD []).length = n) (hl : n ≤ c) (hb : n ≤ 1000) (hcm : c ≤ 9223372036854775807) (hd : (cls ((made K D).getD [])).2.length ≤ 100) :
    Calls Tryd.prog 28 #[.slice p n c] w (TextPost w (txtK K D)) :=
  refText_any p n c _ (cls ((made K D).getD [])).1 (cls ((made K D).getD [])).2 w hr hn hl hb hcm rfl hd
theorem str_same (x y : List (BitVec 8)) : ((strB x).toList == (strB y).toList) = decide (x = y) := strB_eq x y

set_option maxRecDepth 100000 in
set_option maxHeartbeats 8000000 in
theorem refParse_any (s : List (BitVec 8)) (w : World) (hs : s.length ≤ 140737488355328) : Calls Tryd.prog 13 #[.string (strB s)] w (DecR w (prsR s)) := by
  have HU := Lib.hid (refUnbase58_any s w)
  have HSL := Lib.hid hs
  have HUP := Lib.hid (fun W => upper_any s W hs)
  have HLO := Lib.hid (fun W => lower_any s W hs)
  have HCA := Lib.hid (fun W => candidate_any (smallR s) W (by unfold smallR; split; exact hs; rw [List.length_map]; exact hs))
  obtain ⟨S, hS⟩ : ∃ S, S = strB s := ⟨_, rfl⟩
  rw [← hS] at HU HUP HLO ⊢
  obtain ⟨SM, hSM⟩ : ∃ SM, SM = strB (smallR s) := ⟨_, rfl⟩
  rw [← hSM] at HCA
  have HS := Lib.hid hS
  have HSM := Lib.hid hSM
  clear hS hSM hs
  go_enter Tryd.func13, Tryd.ntmps13
  go_wp2_with fail
  refine HU.out.mono ?_
  rintro e2 w2 ⟨v2, rfl, ho2, hb2⟩
  obtain ⟨q2, n2, c2, rfl, hn2, hnc2, hcm2, hr2⟩ := ho2.open
  have HR2 := Lib.hid hr2
  obtain ⟨bs, hbs⟩ : ∃ bs, bs = (unb58 s).1 := ⟨_, rfl⟩
  obtain ⟨er, her⟩ : ∃ er, er = (unb58 s).2 := ⟨_, rfl⟩
  have HF : Hid (firstR s = if er = 0 ∧ bs.length = 25 then (if (txtK 1 ((bs.take 21).drop 1)).1 = s then some ((made 1 ((bs.take 21).drop 1)).getD []) else if (txtK 2 ((bs.take 21).drop 1)).1 = s then some ((made 2 ((bs.take 21).drop 1)).getD []) else none) else none) := Lib.hid (by rw [hbs, her]; rfl)
  rw [← hbs] at HR2 hn2
  rw [← her]
  clear HU ho2 hr2 hbs her
  obtain ⟨FB, hFB⟩ : ∃ FB, FB = decide (er = 0 ∧ n2 = 25) := ⟨_, rfl⟩
  have HFB := Lib.hid hFB
  clear hFB
  go_upto_region 2 with fail
  go_cut [31] (fun v wx => v = .bool FB ∧ wx = w2)
  case first =>
    by_cases he : er = 0
    · subst he
      by_cases h25 : n2 = 25
      · have hf : FB = true := by rw [HFB.out]; exact decide_eq_true ⟨rfl, h25⟩
        subst hf h25
        go_wp2_with fail
        go_meet
        exact ⟨rfl, rfl⟩
      · have hf : FB = false := by rw [HFB.out]; exact decide_eq_false (fun h => h25 h.2)
        have hne : ((n2 : Int) == 25) = false := by rw [beq_eq_false_iff_ne]; omega
        subst hf
        clear h25
        go_wp2_with fail
        go_meet
        exact ⟨rfl, rfl⟩
    · have hf : FB = false := by rw [HFB.out]; exact decide_eq_false (fun h => he h.1)
      have hne : (er == 0) = false := by rw [beq_eq_false_iff_ne]; exact he
      subst hf
      clear he
      go_wp2_with fail
      go_meet
      exact ⟨rfl, rfl⟩
  case rest =>
  obtain ⟨rfl, hwc⟩ := hcut
  subst hwc
  go_upto_if 31 with fail
  go_cut [5] (fun _ wx => Hid (firstR s = none) ∧ Hid (Below w.heap.size w wx))
  case first =>
    cases FB with
    | false =>
      have HE : Hid (firstR s = none) := Lib.hid (by
        have h := of_decide_eq_false HFB.out.symm
        rw [HF.out, if_neg (fun e => h ⟨e.1, hn2.out.symm.trans e.2⟩)])
      go_wp2_with fail
      go_meet
      exact ⟨HE, Lib.hid hb2⟩
    | true =>
      obtain ⟨he, h25⟩ := of_decide_eq_true HFB.out.symm
      subst h25
      go_wp2_with fail
      refine (kinds_any wc).mono ?_
      rintro e3 w3 ⟨p3, c3, rfl, hc3, hr3, hb3⟩
      have hbw3 := below_fut hb2 hb3 (Nat.le_refl _)
      have HR3 := Lib.hid (HR2.out.fut hb3)
      have HK3 : Hid (RowZ w3 p3 [1, 2]) := Lib.hid (hr3.take 2)
      have HF2 : Hid (firstR s = if (txtK 1 ((bs.take 21).drop 1)).1 = s then some ((made 1 ((bs.take 21).drop 1)).getD []) else if (txtK 2 ((bs.take 21).drop 1)).1 = s then some ((made 2 ((bs.take 21).drop 1)).getD []) else none) := Lib.hid (by
        rw [HF.out, if_pos ⟨he, hn2.out⟩])
      have hsl2 := fun W => slice_toZ W p3 5 c3 (by omega)
      obtain ⟨D, hD⟩ : ∃ D, D = (bs.take 21).drop 1 := ⟨_, rfl⟩
      rw [← hD] at HF2
      have HDD := Lib.hid hD
      clear hD
      clear HR2 hr3 hb2 he HF
      go_wp2_with fail
      go_loopw [7, 8, 9, 10, 11, 35] (fun _ _ _ _ _ i wx => ∃ k : Nat, k ≤ 2 ∧ i = .int .i64 k ∧ Hid (∀ j, j < k → (txtK ((j : Int) + 1) D).1 ≠ s) ∧ Hid (Below w3.heap.size w3 wx)) (fun _ _ _ _ _ i _ => 2 - (intOf i).toNat)
      case atStart => exact ⟨0, by omega, rfl, Lib.hid (fun j hj => by omega), Lib.hid (Below.refl _ _)⟩
      case round =>
        obtain ⟨k, hk, rfl, HN, HB⟩ := hrel
        by_cases hk2 : k < 2
        · have hlt : (k : Int) < 2 := by omega
          obtain ⟨z, hz⟩ : ∃ z : Int, z = (k : Int) + 1 := ⟨_, rfl⟩
          have hz15 : 1 ≤ z ∧ z ≤ 5 := by omega
          have hzl : ([1, 2] : List Int)[k]? = some z := by
            rcases (show k = 0 ∨ k = 1 by omega) with rfl | rfl
            · rw [hz]; rfl
            · rw [hz]; rfl
          obtain ⟨b3, o3, rfl, _, hcl⟩ := (HK3.out.fut HB.out) (fun e => by cases e)
          have hcell := hcl k z hzl
          have HRr := Lib.hid (HR3.out.fut HB.out)
          obtain ⟨c0, hc0⟩ : ∃ c0, bs[0]? = some c0 := ⟨_, List.getElem?_eq_getElem (by rw [hn2.out]; omega)⟩
          obtain ⟨b2, o2, rfl, _, _⟩ := HRr.out (fun e => by rw [e] at hc0; cases hc0)
          have hn1 : ¬ c2 = 1 := by omega
          have HRM : Hid (Row8 wr (some ⟨b2, o2 + 1, none⟩) ((bs.take 21).drop 1)) := Lib.hid (by
            have h := (HRr.out.take 21).drop (k := 1) (c := c2) (by rw [List.length_take]; omega)
            rw [if_neg hn1] at h
            exact h)
          have HML : Hid (((bs.take 21).drop 1).length = 20) := Lib.hid (by rw [List.length_drop, List.length_take, hn2.out]; rfl)
          rw [← HDD.out] at HRM HML
          have HMK := Lib.hid (refMake_any z (some ⟨b2, o2 + 1, none⟩) 20 (c2 - 1) D wr HRM.out HML.out (by omega))
          have HSZ := Lib.hid (made_size z hz15.1 hz15.2 D)
          have HBW := Lib.hid (below_fut hbw3 HB.out (Nat.le_refl _))
          have HZ := Lib.hid hz
          clear hz hzl hcl hz15 hc0 HRM HRr hbw3
          go_wp2_with fail
          refine HMK.out.mono ?_
          rintro e4 w4 ⟨hb4, p4, c4, rfl, hr4, hl4, hm4⟩
          have HTX := Lib.hid (refText_txt z D p4 _ c4 w4 hr4 rfl hl4 (by have := HSZ.out.1; have := HML.out; omega) (by unfold maxLen at hm4; omega) (by have := HSZ.out.2; have := HML.out; omega))
          obtain ⟨T, hT⟩ : ∃ T, T = txtK z D := ⟨_, rfl⟩
          rw [← hT] at HTX
          have HR4 := Lib.hid hr4
          obtain ⟨X, hX⟩ : ∃ X, X = (made z D).getD [] := ⟨_, rfl⟩
          rw [← hX] at HTX HR4 hl4 ⊢
          have hl4' := hl4
          obtain ⟨ok, hok⟩ : ∃ ok, ok = (made z D).isSome := ⟨_, rfl⟩
          rw [← hok]
          have HT := Lib.hid hT
          have HX := Lib.hid hX
          have HBW4 := Lib.hid (below_fut HB.out hb4 (Nat.le_refl _))
          have HBW5 := Lib.hid (below_fut HBW.out hb4 (Nat.le_refl _))
          obtain ⟨xl, hxl⟩ : ∃ xl, xl = X.length := ⟨_, rfl⟩
          rw [← hxl] at HTX hl4 ⊢
          have HXL := Lib.hid hxl
          clear hT hX hok hxl hr4 hl4' hb4 HSZ HMK HB HBW
          go_wp2_with fail
          refine HTX.out.mono ?_
          rintro e5 w5 ⟨rfl, hb5⟩
          obtain ⟨b, hb⟩ : ∃ b, b = decide (T.1 = s) := ⟨_, rfl⟩
          have heq : ((strB T.1).toList == S.toList) = b := by rw [HS.out, hb]; exact str_same _ _
          obtain ⟨TS, hTS⟩ : ∃ TS, TS = strB T.1 := ⟨_, rfl⟩
          rw [← hTS] at heq ⊢
          have HBB := Lib.hid hb
          have HB5 := Lib.hid (below_fut HBW4.out hb5 (Nat.le_refl _))
          have HB6 := Lib.hid (below_fut HBW5.out hb5 (Nat.le_refl _))
          have HR5 := Lib.hid (HR4.out.fut hb5)
          clear hb hTS HBW4 HBW5 HR4 hb5 HTX
          cases b with
          | true =>
            have hy : T.1 = s := of_decide_eq_true HBB.out.symm
            have HE : Hid (firstR s = some X) := Lib.hid (by
              rcases (show k = 0 ∨ k = 1 by omega) with rfl | rfl
              · have e1 : z = 1 := HZ.out
                rw [HF2.out, HX.out, ← e1, ← HT.out, if_pos hy]
              · have e1 : z = 2 := HZ.out
                have h1 : (txtK 1 D).1 ≠ s := HN.out 0 (by omega)
                rw [HF2.out, if_neg h1, HX.out, ← e1, ← HT.out, if_pos hy])
            have HPR : Hid (prsR s = (X, 0)) := Lib.hid (by unfold prsR; rw [HE.out])
            go_wp2_with fail
            go_ret2
            rw [HPR.out]
            exact ⟨_, _, _, rfl, HR5.out, HXL.out.symm, HB6.out⟩
          | false =>
            have hy : T.1 ≠ s := of_decide_eq_false HBB.out.symm
            have HN2 : Hid (∀ j, j < k + 1 → (txtK ((j : Int) + 1) D).1 ≠ s) := Lib.hid (fun j hj => by
              by_cases h : j < k
              · exact HN.out j h
              · obtain rfl : j = k := by omega
                rw [← HZ.out, ← HT.out]
                exact hy)
            go_wp2_with fail
            go_roundw
            case rel => exact ⟨k + 1, by omega, by go_num, HN2, HB5⟩
            case measure => simp [intOf]; omega
        · have hlt : ¬ (k : Int) < 2 := by omega
          have HE : Hid (firstR s = none) := Lib.hid (by
            have h1 : (txtK 1 D).1 ≠ s := HN.out 0 (by omega)
            have h2 : (txtK 2 D).1 ≠ s := HN.out 1 (by omega)
            rw [HF2.out, if_neg h1, if_neg h2])
          have HBW := Lib.hid (below_fut hbw3 HB.out (Nat.le_refl _))
          go_wp2_with fail
          go_meet
          exact ⟨HE, HBW⟩
  case rest =>
  obtain ⟨HF0, HB0⟩ := hcut
  have HPR0 : Hid (prsR s = match secondR (smallR s) with | some x => (x, 0) | none => ([], 140)) := Lib.hid (by unfold prsR; rw [HF0.out])
  obtain ⟨L, hL⟩ : ∃ L, L = s.any isLo := ⟨_, rfl⟩
  rw [← hL] at HUP
  have HLL := Lib.hid hL
  clear HR2 hn2 HF HFB HF0 hb2 hL
  generalize wc = w6 at *
  go_wp2_with fail
  refine (HUP.out _).mono ?_
  rintro e6 w6' ⟨rfl, hw6⟩
  replace hw6 := hw6.symm
  subst hw6
  clear HUP
  go_upto_if 58 with fail
  go_cut [12] (fun v wx => v = .string SM ∧ Hid (Below w.heap.size w wx))
  case first =>
    cases L with
    | true =>
      have HE : Hid (S = SM) := Lib.hid (by rw [HS.out, HSM.out]; unfold smallR; rw [if_pos HLL.out.symm])
      go_wp2_with fail
      go_meet
      exact ⟨congrArg Value.string HE.out, HB0⟩
    | false =>
      have HE : Hid (strB (s.map lowC) = SM) := Lib.hid (by rw [HSM.out]; unfold smallR; rw [if_neg (by rw [← HLL.out]; decide)])
      go_wp2_with fail
      refine (HLO.out _).mono ?_
      rintro e7 w7 ⟨rfl, hb7⟩
      have HB7 := Lib.hid (below_fut HB0.out hb7 (Nat.le_refl _))
      clear hb7
      rw [HE.out]
      go_wp2_with fail
      go_meet
      exact ⟨rfl, HB7⟩
  case rest =>
  obtain ⟨rfl, HB1⟩ := hcut
  clear HB0 HLO
  go_wp2_with fail
  refine (HCA.out _).mono ?_
  rintro e7 w7 ⟨v7, rfl, ho7, hb7⟩
  obtain ⟨q7, n7, c7, rfl, hn7, hnc7, hcm7, hr7⟩ := ho7.open
  obtain ⟨D, hD⟩ : ∃ D, D = (cand (smallR s)).1 := ⟨_, rfl⟩
  obtain ⟨cok, hcok⟩ : ∃ cok, cok = (cand (smallR s)).2 := ⟨_, rfl⟩
  have HDL : Hid (D.length ≤ 90) := Lib.hid (by rw [hD]; exact cand_len _)
  obtain ⟨sm, hsm⟩ : ∃ sm, sm = smallR s := ⟨_, rfl⟩
  have HP : Hid (prsR s = match (if cok = true then ((tryR sm D 3).or ((tryR sm D 4).or (tryR sm D 5))) else none) with | some x => (x, 0) | none => ([], 140)) := Lib.hid (by rw [HPR0.out, hcok, hD, hsm]; rfl)
  rw [← hsm] at HSM
  rw [← hD] at hn7 hr7
  rw [← hcok]
  have hbw7 := below_fut HB1.out hb7 (Nat.le_refl _)
  have HN7 : Hid (D.length = n7) := hn7
  have hn90 : n7 ≤ 90 := by rw [← HN7.out]; exact HDL.out
  have HR7 := Lib.hid hr7
  clear HPR0 hD hcok hsm hr7 hn7 ho7 HCA HB1 hb7
  cases cok with
  | false =>
    have HE : Hid (prsR s = ([], 140)) := Lib.hid HP.out
    go_wp2_with fail
    go_ret2
    rw [HE.out]
    exact ⟨_, _, _, rfl, Row8.nil _ _, rfl, hbw7⟩
  | true =>
    replace HP : Hid (prsR s = match ((tryR sm D 3).or ((tryR sm D 4).or (tryR sm D 5))) with | some x => (x, 0) | none => ([], 140)) := HP
    go_wp2_with fail
    refine (kinds_any w7).mono ?_
    rintro e3 w3 ⟨p3, c3, rfl, hc3, hr3, hb3⟩
    have hbw3 := below_fut hbw7 hb3 (Nat.le_refl _)
    have HR3 := Lib.hid (HR7.out.fut hb3)
    obtain ⟨b3, o3, rfl, _, _⟩ := hr3 (fun e => by cases e)
    have hn2 : ¬ c3 = 2 := by omega
    have HK3 : Hid (RowZ w3 (some ⟨b3, o3 + 2, none⟩) [3, 4, 5]) := Lib.hid (by
      have h := hr3.cut (k := 2) (c := c3) (by simpa using hc3)
      rw [if_neg hn2] at h
      exact h)
    clear hr3 hb3 hbw7 HR7
    go_wp2_with fail
    go_loopw [15, 16, 17, 18, 19, 71] (fun _ _ _ _ _ i wx => ∃ k : Nat, k ≤ 3 ∧ i = .int .i64 k ∧ Hid (∀ j, j < k → tryR sm D ((j : Int) + 3) = none) ∧ Hid (Below w3.heap.size w3 wx)) (fun _ _ _ _ _ i _ => 3 - (intOf i).toNat)
    case atStart => exact ⟨0, by omega, rfl, Lib.hid (fun j hj => by omega), Lib.hid (Below.refl _ _)⟩
    case round =>
      obtain ⟨k, hk, rfl, HN, HB⟩ := hrel
      by_cases hk2 : k < 3
      · have hlt : (k : Int) < 3 := by omega
        obtain ⟨z, hz⟩ : ∃ z : Int, z = (k : Int) + 3 := ⟨_, rfl⟩
        have hz15 : 1 ≤ z ∧ z ≤ 5 := by omega
        have hzl : ([3, 4, 5] : List Int)[k]? = some z := by
          rcases (show k = 0 ∨ k = 1 ∨ k = 2 by omega) with rfl | rfl | rfl
          · rw [hz]; rfl
          · rw [hz]; rfl
          · rw [hz]; rfl
        obtain ⟨b3', o3', he3, _, hcl⟩ := (HK3.out.fut HB.out) (fun e => by cases e)
        obtain ⟨rfl, rfl⟩ : b3 = b3' ∧ o3 + 2 = o3' := by injection he3 with he3; injection he3 with h1 h2; exact ⟨h1, h2⟩
        have hcell := hcl k z hzl
        have HMK := Lib.hid (refMake_any z q7 n7 c7 D wr (HR3.out.fut HB.out) HN7.out (by omega))
        have HSZ := Lib.hid (made_size z hz15.1 hz15.2 D)
        have HBW := Lib.hid (below_fut hbw3 HB.out (Nat.le_refl _))
        have HZ := Lib.hid hz
        clear hz hzl hcl hz15 he3
        go_wp2_with fail
        refine HMK.out.mono ?_
        rintro e4 w4 ⟨hb4, p4, c4, rfl, hr4, hl4, hm4⟩
        have HTX := Lib.hid (refText_txt z D p4 _ c4 w4 hr4 rfl hl4 (by have := HSZ.out.1; have := HDL.out; omega) (by unfold maxLen at hm4; omega) (by have := HSZ.out.2; have := HDL.out; omega))
        obtain ⟨T, hT⟩ : ∃ T, T = txtK z D := ⟨_, rfl⟩
        rw [← hT] at HTX
        have HR4 := Lib.hid hr4
        obtain ⟨X, hX⟩ : ∃ X, X = (made z D).getD [] := ⟨_, rfl⟩
        rw [← hX] at HTX HR4 hl4 ⊢
        obtain ⟨ok, hok⟩ : ∃ ok, ok = (made z D).isSome := ⟨_, rfl⟩
        rw [← hok]
        have HT := Lib.hid hT
        have HX := Lib.hid hX
        have HOK := Lib.hid hok
        have HBW4 := Lib.hid (below_fut HB.out hb4 (Nat.le_refl _))
        have HBW5 := Lib.hid (below_fut HBW.out hb4 (Nat.le_refl _))
        obtain ⟨xl, hxl⟩ : ∃ xl, xl = X.length := ⟨_, rfl⟩
        rw [← hxl] at HTX hl4 ⊢
        have HXL := Lib.hid hxl
        clear hT hX hok hxl hr4 hb4 HSZ HMK HB HBW
        go_wp2_with fail
        refine HTX.out.mono ?_
        rintro e5 w5 ⟨rfl, hb5⟩
        obtain ⟨b, hb⟩ : ∃ b, b = decide (T.1 = sm) := ⟨_, rfl⟩
        have heq : ((strB T.1).toList == SM.toList) = b := by rw [HSM.out, hb]; exact str_same _ _
        obtain ⟨TS, hTS⟩ : ∃ TS, TS = strB T.1 := ⟨_, rfl⟩
        rw [← hTS] at heq ⊢
        have HBB := Lib.hid hb
        have HB5 := Lib.hid (below_fut HBW4.out hb5 (Nat.le_refl _))
        have HB6 := Lib.hid (below_fut HBW5.out hb5 (Nat.le_refl _))
        have HR5 := Lib.hid (HR4.out.fut hb5)
        clear hb hTS HBW4 HBW5 HR4 hb5 HTX
        have HTRY : Hid (tryR sm D z = if ok = true ∧ b = true then some X else none) := Lib.hid (by
          unfold tryR
          rw [← HT.out, ← HX.out, ← HOK.out, HBB.out]
          simp only [decide_eq_true_eq])
        have HN2 : Hid (tryR sm D z = none → ∀ j, j < k + 1 → tryR sm D ((j : Int) + 3) = none) := Lib.hid (fun hno j hj => by
          by_cases h : j < k
          · exact HN.out j h
          · obtain rfl : j = k := by omega
            rw [← HZ.out]
            exact hno)
        cases ok with
        | false =>
          have HN3 := Lib.hid (HN2.out HTRY.out)
          clear HN2 HTRY
          go_wp2_with fail
          go_roundw
          case rel => exact ⟨k + 1, by omega, by go_num, HN3, HB5⟩
          case measure => simp [intOf]; omega
        | true =>
          cases b with
          | true =>
            have HE : Hid (prsR s = (X, 0)) := Lib.hid (by
              have hy : tryR sm D z = some X := HTRY.out
              rw [HP.out]
              rcases (show k = 0 ∨ k = 1 ∨ k = 2 by omega) with rfl | rfl | rfl
              · obtain rfl : z = 3 := HZ.out
                rw [hy]; rfl
              · obtain rfl : z = 4 := HZ.out
                have h1 : tryR sm D 3 = none := HN.out 0 (by omega)
                rw [h1, hy]; rfl
              · obtain rfl : z = 5 := HZ.out
                have h1 : tryR sm D 3 = none := HN.out 0 (by omega)
                have h2 : tryR sm D 4 = none := HN.out 1 (by omega)
                rw [h1, h2, hy]; rfl)
            clear HN2 HTRY
            go_wp2_with fail
            go_ret2
            rw [HE.out]
            exact ⟨_, _, _, rfl, HR5.out, HXL.out.symm, HB6.out⟩
          | false =>
            have HN3 := Lib.hid (HN2.out HTRY.out)
            clear HN2 HTRY
            go_wp2_with fail
            go_roundw
            case rel => exact ⟨k + 1, by omega, by go_num, HN3, HB5⟩
            case measure => simp [intOf]; omega
      · have hlt : ¬ (k : Int) < 3 := by omega
        have HE : Hid (prsR s = ([], 140)) := Lib.hid (by
          have h1 : tryR sm D 3 = none := HN.out 0 (by omega)
          have h2 : tryR sm D 4 = none := HN.out 1 (by omega)
          have h3 : tryR sm D 5 = none := HN.out 2 (by omega)
          rw [HP.out, h1, h2, h3]
          rfl)
        have HBW := Lib.hid (below_fut hbw3 HB.out (Nat.le_refl _))
        go_wp2_with fail
        go_ret2
        rw [HE.out]
        exact ⟨_, _, _, rfl, Row8.nil _ _, rfl, HBW.out⟩
end Go.Proofs.YtbkpgdfkjijagaaDoor
