/- address.bits: the walk. -/
import Derived.Test.YtbkpgdfkjijagaaDoorAdrJ
import Derived.Test.YtbkpgdfkjijagaaDoorScriptD
namespace Go.Proofs.YtbkpgdfkjijagaaDoor
open Go.RowKit
set_option linter.unusedVariables false

theorem data_inj {x y : List (BitVec 8)} (h : (strB x).data.toList = (strB y).data.toList) : x = y := by
  have e : strB x = strB y := ByteArray.ext (Array.toList_inj.1 h)
  have h2 := strB_eq x y
  rw [e] at h2
  simpa using h2
theorem head_is (s : List (BitVec 8)) : Lib.hasPrefix (strB s).data.toList [98, 99, 49] = decide (s.take 3 = bc1) := by
  have hb : (strB bc1).data.toList = [98, 99, 49] := by decide +kernel
  rw [← hb]
  unfold Lib.hasPrefix
  rw [Bool.eq_iff_iff, List.isPrefixOf_iff_prefix, List.prefix_iff_eq_take, decide_eq_true_iff, show (strB bc1).data.toList.length = 3 by rw [hb]; rfl]
  have ht : (strB s).data.toList.take 3 = (strB (s.take 3)).data.toList := by rw [strB_data, strB_data, List.map_take]
  rw [ht]
  exact ⟨fun h => (data_inj h).symm, fun h => by rw [h]⟩
theorem head_any (s : List (BitVec 8)) (w : World) : Calls Tryd.prog 43 #[.string (strB s), .string ⟨#[98, 99, 49]⟩] w fun e w' => e = .returned (.bool (decide (s.take 3 = bc1))) ∧ w' = w :=
  (Tryd.strings_HasPrefix (strB s) ⟨#[98, 99, 49]⟩ w).mono fun e w' ⟨h1, h2⟩ => ⟨by rw [h1]; exact congrArg (fun z => Ending.returned (.bool z)) (head_is s), h2⟩
theorem idx32 (c : BitVec 8) : Lib.indexByte U32 ((iv8 c).toNat.toUInt8) = placeI alph32 c := by revert c; decide +kernel
theorem idx32_any (c : BitVec 8) (w : World) : Calls Tryd.prog 14 #[.string (strB alph32), .int .u8 (iv8 c)] w fun e w' => e = .returned (.int .i64 (placeI alph32 c)) ∧ w' = w :=
  (Tryd.strings_IndexByte (strB alph32) (iv8 c) w).mono fun e w' ⟨h1, h2⟩ => ⟨by rw [h1]; exact congrArg (fun z => Ending.returned (.int .i64 z)) (idx32 c), h2⟩

def lowS (s : List (BitVec 8)) : List (BitVec 8) := s.map lowC
def okS (s : List (BitVec 8)) : Bool := !(s.any isUp && s.any isLo)
/-- the numbers of the letters behind the head -/
def bitsI (s : List (BitVec 8)) : List Int := ((lowS s).drop 3).map (placeI alph32)
def bitsN (s : List (BitVec 8)) : List Nat := ((lowS s).drop 3).map pl32
def groupsN (s : List (BitVec 8)) : List Nat := ((bitsN s).take ((bitsN s).length - 6)).drop 1
def bitsOk (s : List (BitVec 8)) : Prop := okS s = true ∧ (lowS s).take 3 = bc1 ∧ (lowS s).length ≤ 90 ∧ 7 ≤ (bitsI s).length ∧ ∀ c ∈ (lowS s).drop 3, pl32 c < 32
instance (s : List (BitVec 8)) : Decidable (bitsOk s) := by unfold bitsOk; infer_instance
def bitsP (s : List (BitVec 8)) : Option (List (BitVec 8)) :=
  if bitsOk s ∧ (decide ((b8all (groupsN s)).2.2 < 5) && decide ((b8all (groupsN s)).2.1 = 0)) = true ∧ (bitsN s).foldl stepP ([3, 3, 0, 2, 3].foldl stepP 1) = wantN ((bitsN s).headD 0) then
    made (kindAt (((bitsN s).headD 0 : Nat) : Int) (((b8all (groupsN s)).1.length : Nat) : Int)) (ofNats (b8all (groupsN s)).1)
  else none
theorem MakePost.no {w w' : World} {o : Option (List (BitVec 8))} (h : Hid (o = none)) (hb : Below w.heap.size w w') : MakePost w o (.returned (.tuple #[.slice none 0 0, .bool false])) w' := by
  rw [h.out]; exact ⟨hb, rfl⟩

theorem MakePost.later {w w1 w' : World} {o : Option (List (BitVec 8))} {e : Ending} (hb : Below w.heap.size w w1) (h : MakePost w1 o e w') : MakePost w o e w' := by
  obtain ⟨h1, h2⟩ := h
  refine ⟨below_fut hb h1 (Nat.le_refl _), ?_⟩
  cases o with
  | none => exact h2
  | some t =>
    obtain ⟨v, he, ho⟩ := h2
    exact ⟨v, he, ho.mono hb.size⟩
theorem MakePost.shape {w w' : World} {o : Option (List (BitVec 8))} {e : Ending} (h : MakePost w o e w') : ∃ v b, e = .returned (.tuple #[v, .bool b]) := by
  obtain ⟨_, h⟩ := h
  cases o with
  | none => exact ⟨_, _, h⟩
  | some t => obtain ⟨v, he, _⟩ := h; exact ⟨v, _, he⟩
theorem wf_nat (n : Nat) (h : n < 1000000) : (Lit.int .i64 (n : Int)).wf = true := by
  simp [Lit.wf, IntKind.min, IntKind.max, IntKind.signed, IntKind.bits]; omega
theorem places {T : List (BitVec 8)} (h : ∀ c ∈ T, pl32 c < 32) : T.map (placeI alph32) = zl (T.map pl32) := by
  unfold zl
  rw [List.map_map]
  exact List.map_congr_left fun c hc => by rw [ix32, if_pos (h c hc)]; rfl
theorem slice_oneToZ (w : World) (p : Option Addr) (m c k : Nat) (h1 : 1 ≤ k) (h2 : k ≤ c) :
    (Instr.sliceAt 51 (.slice p m c) (some (.int .i64 1)) (some (.int .i64 (k : Int))) none).run Tryd.prog w = .ok (.slice (cutA p c 1) (k - 1) (c - 1)) w := by
  have hs : (sizeOf (Tryd.prog.elem 51)).run Tryd.prog w = .ok 1 w := by kernel_rfl
  have hu : Tryd.prog.underlying 51 = some (.slice (Tryd.prog.elem 51)) := by kernel_rfl
  rw [run_sliceAt_slice w _ _ _ _ _ hu, run_slice_lh w _ _ _ _ hu _ _ _ _ (by omega) (by omega) (by omega), hs]
  have e1 : ((k : Int) - 1).toNat = k - 1 := by omega
  simp [Result.andThen, sliced, cutA]

set_option maxRecDepth 100000 in
set_option maxHeartbeats 8000000 in
theorem bits_any (s : List (BitVec 8)) (w : World) (hs : s.length ≤ 140737488355328) : Calls Tryd.prog 25 #[.string (strB s)] w (MakePost w (bitsP s)) := by
  have HSM := Lib.hid (small_any s w hs)
  obtain ⟨S, hS⟩ : ∃ S, S = strB s := ⟨_, rfl⟩
  rw [← hS] at HSM ⊢
  clear hS
  have HHD := Lib.hid (fun V => head_any (lowS s) V)
  have hLs : (strB (lowS s)).size = (lowS s).length := strB_size _
  have HP : Hid (¬ bitsOk s → bitsP s = none) := Lib.hid (fun h => by unfold bitsP; rw [if_neg (fun e => h e.1)])
  have HSM2 : Hid (Calls Tryd.prog 49 #[.string S] w fun e w' => e = .returned (.tuple #[.string (strB (lowS s)), .bool (okS s)]) ∧ Below w.heap.size w w') := Lib.hid HSM.out
  obtain ⟨L, hL⟩ : ∃ L, L = strB (lowS s) := ⟨_, rfl⟩
  rw [← hL] at HSM2 HHD hLs
  have HL := Lib.hid hL
  obtain ⟨N, hN⟩ : ∃ N, N = (lowS s).length := ⟨_, rfl⟩
  have HN := Lib.hid hN
  rw [← hN] at hLs
  clear hL hN HSM
  go_enter Tryd.func25, Tryd.ntmps25
  go_wp2_with fail
  refine HSM2.out.mono ?_
  rintro e w2 ⟨rfl, hb2⟩
  clear HSM2
  cases hok : okS s with
  | false =>
    have HE := Lib.hid (HP.out (fun e => by rw [e.1] at hok; cases hok))
    go_wp2_with fail
    go_ret2
    exact MakePost.no HE hb2
  | true =>
    by_cases hhd : (lowS s).take 3 = bc1
    case neg =>
      have HE := Lib.hid (HP.out (fun e => hhd e.2.1))
      have h3 := HHD.out w2
      rw [decide_eq_false hhd] at h3
      clear hhd
      go_wp2_with fail
      refine h3.mono ?_
      rintro e w3 ⟨rfl, rfl⟩
      clear h3
      go_wp2_with fail
      go_ret2
      exact MakePost.no HE hb2
    have h3 := HHD.out w2
    rw [decide_eq_true hhd] at h3
    go_wp2_with fail
    refine h3.mono ?_
    rintro e w3 ⟨rfl, rfl⟩
    clear h3
    by_cases h90 : 90 < N
    · have hn : 90 < (N : Int) := by omega
      have HE := Lib.hid (HP.out (fun e => by have := e.2.2.1; have := HN.out; omega))
      go_wp2_with fail
      go_ret2
      exact MakePost.no HE hb2
    have hn : ¬ 90 < (N : Int) := by omega
    have h3l : 3 ≤ (lowS s).length := by
      have := congrArg List.length hhd
      rw [List.length_take] at this
      have e : bc1.length = 3 := rfl
      omega
    have hcut : ∀ W, (Instr.sliceAt 9 (.string L) (some (.int .i64 3)) none none).run Tryd.prog W = .ok (.string (strB ((lowS s).drop 3))) W := fun W => by rw [HL.out]; exact strB_cut (lowS s) 3 h3l W
    obtain ⟨T, hT⟩ : ∃ T, T = (lowS s).drop 3 := ⟨_, rfl⟩
    have HT := Lib.hid hT
    have HTL : Hid (T.length = N - 3) := Lib.hid (by rw [hT, List.length_drop, HN.out])
    have HHB := Lib.hid hhd
    rw [← hT] at hcut
    obtain ⟨TS, hTS⟩ : ∃ x, x = strB T := ⟨_, rfl⟩
    rw [← hTS] at hcut
    have HTS := Lib.hid hTS
    have hT90 : T.length ≤ 140737488355328 := by have := HTL.out; omega
    clear hT hTS hhd h90
    go_wp2_with (
      with_reducible refine wp_sl8n (o := ⟨some 33, _, _, _, _, _⟩) ?_ (.tmp 32) ?_ w3.heap.size T ?_ ?_ ?_ ?_
      · rfl
      · rfl
      · exact congrArg Value.string HTS.out
      · exact hT90
      · exact Nat.le_refl _
      intro v4 w4 ho4 hb4
      obtain ⟨q4, c4, rfl, _, hr4⟩ := ho4.row)
    have HR4 := Lib.hid hr4
    have hb24 : Below w.heap.size w w4 := below_fut hb2 hb4 (Nat.le_refl _)
    obtain ⟨M, hM⟩ : ∃ M, M = T.length := ⟨_, rfl⟩
    have HM := Lib.hid hM
    have hM90 : M ≤ 90 := by have := HTL.out; omega
    have HIXA := Lib.hid (fun c V => idx32_any c V)
    rw [str32] at HIXA
    unfold U32 at HIXA
    rw [← hM]
    clear hr4 ho4 hb4 hM hT90
    go_wp2_with fail
    go_loopw [5, 35] (fun lv i wx => ∃ k : Nat, k ≤ M ∧ i = .int .i64 k ∧ Hid (OwnZ wx w4.heap.size lv ((T.take k).map (placeI alph32))) ∧ Hid (Below w4.heap.size w4 wx)) (fun _ i _ => M - (intOf i).toNat)
    case atStart => exact ⟨0, by omega, rfl, Lib.hid (OwnZ.nil _ _), Lib.hid (Below.refl _ _)⟩
    case round =>
      obtain ⟨k, hk, rfl, HO, HB⟩ := hrel
      by_cases hkm : k < M
      · have hlt : (k : Int) < (M : Int) := by omega
        obtain ⟨c, hc⟩ : ∃ c, T[k]? = some c := ⟨_, List.getElem?_eq_getElem (by rw [← HM.out]; exact hkm)⟩
        obtain ⟨bb, o, rfl, _, hcl⟩ := (HR4.out.fut HB.out) (fun e => by rw [e] at hc; cases hc)
        have hcell : wr.cell? ⟨bb, o + k, none⟩ = some (.int .u8 (iv8 c)) := hcl k _ hc
        have hix := HIXA.out c wr
        have HNX : Hid ((T.take (k + 1)).map (placeI alph32) = (T.take k).map (placeI alph32) ++ [placeI alph32 c]) := Lib.hid (by rw [List.take_add_one, hc, List.map_append]; rfl)
        obtain ⟨z, hz⟩ : ∃ z, z = placeI alph32 c := ⟨_, rfl⟩
        rw [← hz] at hix HNX
        have HIX := Lib.hid hix
        have hsz2 := HB.out.size
        have hb3 := HB.out.alloc hsz2 (.cells #[.int .i64 z] 3)
        have hsz3 := hb3.size
        have ho3 := HO.out.alloc (.cells #[.int .i64 z] 3)
        have hrow3 := new_oneZ wr z
        have hdl : ((T.take k).map (placeI alph32)).length + 1 ≤ 1000000 := by rw [List.length_map, List.length_take]; have := HM.out; omega
        clear hc hcl hix hz
        go_wp2_with fail
        refine HIX.out.mono ?_
        rintro e w5 ⟨rfl, rfl⟩
        clear HIX
        go_wp2_with (
          with_reducible refine wp_appendZ (o := ⟨some 43, _, _, _, _, _⟩) ?_ (.tmp 39) (.tmp 42) ?_ w4.heap.size _ ((T.take k).map (placeI alph32)) ?_ ho3 (some ⟨w5.heap.size, 0, none⟩) 1 1 [z] ?_ rfl hrow3 ?_ hsz3 w4.heap.size w4 hb3 ?_ ?_
          · rfl
          · rfl
          · rfl
          · rfl
          · exact hdl
          · exact Nat.le_refl _
          intro v6 w6 ho6 hb6)
        go_roundw
        case rel => exact ⟨k + 1, by omega, by go_num, Lib.hid (by rw [HNX.out]; exact ho6), Lib.hid hb6⟩
        case measure => simp [intOf]; omega
      · have hlt : ¬ (k : Int) < (M : Int) := by omega
        have HTK : Hid (T.take k = T) := Lib.hid (List.take_of_length_le (by rw [← HM.out]; omega))
        rw [HTK.out] at HO
        obtain ⟨p, m, cc, rfl, hm, hmc, hcm, hrz⟩ := HO.out.open
        have hmM : m = M := by rw [← hm.out, List.length_map, HM.out]
        subst hmM
        have HRZ := Lib.hid hrz
        have HBW : Hid (Below w.heap.size w wr) := Lib.hid (below_fut hb24 HB.out (Nat.le_refl _))
        clear hrz hm HO
        by_cases h7 : m < 7
        · have h7' : (m : Int) < 7 := by omega
          have HE := Lib.hid (HP.out (fun e => by have h := e.2.2.2.1; unfold bitsI at h; rw [List.length_map, ← HT.out, ← HM.out] at h; omega))
          go_wp2_with fail
          go_ret2
          exact MakePost.no HE HBW.out
        have h7' : ¬ (m : Int) < 7 := by omega
        obtain ⟨bb, o, rfl, _, hcl⟩ := HRZ.out (fun e => by have h := congrArg List.length e; rw [List.length_map, ← HM.out] at h; simp only [List.length_nil] at h; omega)
        have hcon := Tryd.slices_Contains_int bb o m cc (T.map (placeI alph32)) (-1) wr (by rw [List.length_map, ← HM.out]; exact Nat.le_refl _) (by omega) (fun j hj => by rw [hcl j _ (List.getElem?_eq_getElem hj)]; rw [List.getD_eq_getElem?_getD, List.getElem?_eq_getElem hj]; rfl)
        rw [List.take_of_length_le (by rw [List.length_map, ← HM.out]; exact Nat.le_refl _)] at hcon
        by_cases hall : ∀ c ∈ T, pl32 c < 32
        case neg =>
          have HE := Lib.hid (HP.out (fun e => hall (by rw [HT.out]; exact e.2.2.2.2)))
          have hyes : (T.map (placeI alph32)).contains (-1) = true := by
            rw [List.contains_iff_mem]
            obtain ⟨c, hc⟩ := Classical.not_forall.1 hall
            obtain ⟨hc1, hc2⟩ := Classical.not_imp.1 hc
            exact List.mem_map.2 ⟨c, hc1, by rw [ix32, if_neg hc2]⟩
          rw [hyes] at hcon
          have HCN := Lib.hid hcon
          clear hcon hyes hall hcl
          go_wp2_with fail
          refine HCN.out.mono ?_
          rintro e w7 ⟨rfl, rfl⟩
          go_wp2_with fail
          go_ret2
          exact MakePost.no HE HBW.out
        have hno : (T.map (placeI alph32)).contains (-1) = false := by
          rw [Bool.eq_false_iff]
          intro e
          rw [List.contains_iff_mem] at e
          obtain ⟨c, hc, he⟩ := List.mem_map.1 e
          rw [ix32, if_pos (hall c hc)] at he
          omega
        rw [hno] at hcon
        have HCN := Lib.hid hcon
        have HALL := Lib.hid hall
        clear hcon hno hall hcl
        go_wp2_with fail
        refine HCN.out.mono ?_
        rintro e w7 ⟨rfl, rfl⟩
        clear HCN
        go_upto_region 12 with fail
        have hF0 : Below w7.heap.size w7 w7.drew := (Below.refl _ _).drew
        refine region_tree (.qs [1, 3, 5] (.o 0 (.three 2 (.two 4 (.o 6 (.qs [7, 8] (.done))) 6 (.o 4 (.qs [7, 8] (.done)))) 4 (.two 2 (.o 6 (.qs [7, 8] (.done))) 6 (.o 2 (.qs [7, 8] (.done)))) 6 (.two 2 (.o 4 (.qs [7, 8] (.done))) 4 (.o 2 (.qs [7, 8] (.done))))))) (Below w7.heap.size w7) (by kernel_rfl) (by kernel_rfl) hF0 ?_
        refine' tree_quiet (s := 102) (A1 := _) [1, 3, 5] [_, _, _] _ rfl rfl rfl (fun W hW => ?hq1) _ hF0 (fun _ => ?hr1)
        case hq1 =>
          simp only [List.getElem_toArray, List.getElem_cons_zero, List.getElem_cons_succ]
          iterate 3 (go_big_quiet_step (fail))
          refine wpQuiet_nil ?_
          rfl
        case hr1 =>
        refine tree_one rfl (fun k1 => ?gM)
        case gM =>
          have hF1 : Below w7.heap.size w7 (w7.drew.drewN k1) := below_drewN hF0 k1
          generalize w7.drew.drewN k1 = W1 at hF1 ⊢
          have hmk := run_makeMap_plain (P := Tryd.prog) (w := W1) 84
          go_wp2_with fail
          have hF2 := hF1.alloc hF1.size (.map #[] 0)
          refine planQ_normal (Grows.same hF2 ?_)
          refine map_three rfl rfl rfl ⟨rfl, rfl, rfl⟩ ⟨rfl, rfl, rfl⟩ ⟨rfl, rfl, rfl⟩ rfl ⟨rfl, rfl⟩ ⟨rfl, rfl⟩ ⟨rfl, rfl⟩ (MapHas.made W1) hF2 hF1.size (Nat.le_refl _) ?_
          intro w8 hM hB8
          obtain ⟨y, hy⟩ : ∃ y, y = W1.heap.size := ⟨_, rfl⟩
          rw [← hy] at hM ⊢
          have hyl := hM.lt
          clear hy hF2 hmk hF1
          refine' tree_quiet (s := 102) (A1 := _) [7, 8] [_, _] _ rfl rfl rfl (fun W hW => ?hq2) _ hB8 (fun _ => ?hr2)
          case hq2 =>
            simp only [List.getElem_toArray, List.getElem_cons_zero, List.getElem_cons_succ]
            iterate 2 (go_big_quiet_step (fail))
            refine wpQuiet_nil ?_
            rfl
          case hr2 =>
          refine tree_end fun k2 => NoPanic.normal ?_
          replace hM : MapIs (w8.drewN k2) y := hM
          replace hB8 := below_drewN hB8 k2
          replace hyl : y < (w8.drewN k2).heap.size := hyl
          generalize w8.drewN k2 = W9 at *
          have HM9 := Lib.hid hM
          have hb9 : Below w.heap.size w W9 := below_fut HBW.out hB8 (Nat.le_refl _)
          obtain ⟨NL, hNL⟩ : ∃ NL, NL = bitsN s := ⟨_, rfl⟩
          have hTN : T.map pl32 = NL := by rw [hNL]; unfold bitsN; rw [← HT.out]
          have hZL := places HALL.out
          rw [hTN] at hZL
          have hr9 := HRZ.out.fut hB8
          rw [hZL] at hr9
          have hNm : NL.length = m := by rw [← hTN, List.length_map, HM.out]
          have hN32 : ∀ x ∈ NL, x < 32 := fun x hx => by rw [← hTN] at hx; obtain ⟨c, hc, rfl⟩ := List.mem_map.1 hx; exact HALL.out c hc
          have hOK : bitsOk s := ⟨hok, HHB.out, by rw [← HN.out]; omega, by unfold bitsI; rw [List.length_map, ← HT.out, ← HM.out]; omega, by rw [← HT.out]; exact HALL.out⟩
          obtain ⟨v0, NR, hcons⟩ : ∃ v0 NR, NL = v0 :: NR := by
            cases hN0 : NL with
            | nil => rw [hN0] at hNm; simp at hNm; omega
            | cons v0 NR => exact ⟨v0, NR, rfl⟩
          have hv32 : v0 < 32 := hN32 v0 (by rw [hcons]; exact List.mem_cons_self)
          have hcell0 : W9.cell? ⟨bb, o, none⟩ = some (.int .i64 (v0 : Int)) := by
            obtain ⟨b2, o2, he, _, hcl⟩ := hr9 (fun e => by rw [hcons] at e; cases e)
            obtain ⟨rfl, rfl⟩ : bb = b2 ∧ o = o2 := by injection he with he; injection he with h1 h2; exact ⟨h1, h2⟩
            exact hcl 0 _ (by rw [hcons]; rfl)
          obtain ⟨G, hG⟩ : ∃ G, G = (NL.take (NL.length - 6)).drop 1 := ⟨_, rfl⟩
          have hGs : groupsN s = G := by unfold groupsN; rw [← hNL, hG]
          have hP : Hid (bitsP s = if (decide ((b8all G).2.2 < 5) && decide ((b8all G).2.1 = 0)) = true ∧ NL.foldl stepP ([3, 3, 0, 2, 3].foldl stepP 1) = wantN v0 then made (kindAt (v0 : Int) (((b8all G).1.length : Nat) : Int)) (ofNats (b8all G).1) else none) := Lib.hid (by
            unfold bitsP
            rw [hGs, ← hNL, hcons]
            simp only [hOK, true_and, List.headD_cons])
          have HRG : Hid (RowZ W9 (cutA (some ⟨bb, o, none⟩) cc 1) (zl G)) := Lib.hid (by
            have h := ((hr9.take (NL.length - 6)).cut (k := 1) (c := cc) (by rw [List.length_take, zl_len]; omega))
            rw [hG]
            unfold zl at h ⊢
            rw [List.map_drop, List.map_take]
            exact h)
          obtain ⟨g, hg⟩ : ∃ g, g = m - 6 - 1 := ⟨_, rfl⟩
          have HGL : Hid (G.length = g) := Lib.hid (by rw [hG, List.length_drop, List.length_take, hNm, hg]; omega)
          have hg90 : g ≤ 1000 := by omega
          have HG32 : Hid (∀ x ∈ G, x < 32) := Lib.hid (fun x hx => hN32 x (by rw [hG] at hx; exact List.mem_of_mem_take (List.mem_of_mem_drop hx)))
          have hsl : ∀ W, (Instr.sliceAt 51 (.slice (some ⟨bb, o, none⟩) m cc) (some (.int .i64 1)) (some (.int .i64 ((m : Int) - 6))) none).run Tryd.prog W = .ok (.slice (cutA (some ⟨bb, o, none⟩) cc 1) g (cc - 1)) W := fun W => by
            rw [show (m : Int) - 6 = ((m - 6 : Nat) : Int) by omega, slice_oneToZ W _ _ _ _ (by omega) (by omega), hg]
          obtain ⟨pG, hpG⟩ : ∃ pG, pG = cutA (some ⟨bb, o, none⟩) cc 1 := ⟨_, rfl⟩
          obtain ⟨cG, hcG⟩ : ∃ cG, cG = cc - 1 := ⟨_, rfl⟩
          rw [← hpG] at HRG hsl
          rw [← hcG] at hsl
          have HCN2 := Lib.hid hcons
          have HR9 := Lib.hid hr9
          have HN32 := Lib.hid hN32
          have HNM := Lib.hid hNm
          have h6 : 6 ≤ (m : Int) := by omega
          clear hB8 hM hNL hTN hZL hr9 hNm hN32 hOK hcons hG hGs hg hpG hcG HALL HRZ HBW hF0 hyl
          go_upto_if 60 with fail
          go_cut [9] (fun v9 wx => v9 = .int .i64 (wantN v0 : Nat) ∧ wx = W9)
          case first =>
            by_cases hv0 : v0 = 0
            · subst hv0
              go_wp2_with fail
              go_meet
              case rel => exact ⟨rfl, rfl⟩
            · have hv1 : 0 < (v0 : Int) := by omega
              have hw1 : wantN v0 = 734539939 := by unfold wantN; rw [if_neg hv0]
              have HW1 := Lib.hid hw1
              clear hw1
              go_wp2_with fail
              go_meet
              case rel => exact ⟨by rw [HW1.out]; rfl, rfl⟩
          case rest =>
            obtain ⟨rfl, hwc⟩ := hcut
            subst hwc
            obtain ⟨T0, hT0⟩ : ∃ T0, T0 = ([3, 3, 0, 2, 3] ++ NL).foldl stepP 1 := ⟨_, rfl⟩
            obtain ⟨WV, hWV⟩ : ∃ WV, WV = wantN v0 := ⟨_, rfl⟩
            obtain ⟨B8, hB8⟩ : ∃ B8, B8 = (decide ((b8all G).2.2 < 5) && decide ((b8all G).2.1 = 0)) := ⟨_, rfl⟩
            have hD256 : ∀ d ∈ (b8all G).1, d < 256 := (b8_ok G HG32.out).bytes
            have hDl : (b8all G).1.length ≤ 1000 := by have h := (b8_ok G HG32.out).len; rw [HGL.out] at h; omega
            have HRGP := Lib.hid (fun (V : World) (hb : Below wc.heap.size wc V) => regroup_any pG g cG G V (HRG.out.fut hb) HGL.out hg90 HG32.out)
            have HTOT := Lib.hid (fun (V : World) (hb : Below wc.heap.size wc V) => total_any (some ⟨bb, o, none⟩) m cc NL V (HR9.out.fut hb) HNM.out (by omega) HN32.out)
            rw [← hT0] at HTOT
            unfold RgPost at HRGP
            rw [← hB8] at HRGP
            have HP2 : Hid (bitsP s = if B8 = true ∧ T0 = WV then made (kindAt (v0 : Int) (((b8all G).1.length : Nat) : Int)) (ofNats (b8all G).1) else none) := Lib.hid (by
              rw [hP.out, hB8, hWV, hT0, List.foldl_append])
            obtain ⟨D, hD⟩ : ∃ D, D = (b8all G).1 := ⟨_, rfl⟩
            rw [← hD] at HP2 HRGP hD256 hDl
            have HD256 := Lib.hid hD256
            rw [← hWV]
            clear hP hT0 hWV hB8 hD256 HG32 HRG HGL hD HN32 HCN2 HP
            go_wp2_with fail
            refine (HRGP.out wc (Below.refl _ _)).mono ?_
            rintro e w10 ⟨v10, rfl, ho10, hb10⟩
            obtain ⟨q10, m10, c10, rfl, hm10, hmc10, hcm10, hr10⟩ := ho10.open
            have HM10 : Hid (D.length = m10) := Lib.hid (by rw [← hm10.out, zl_len])
            have HR10 := Lib.hid hr10
            have hmk10 : m10 ≤ 1000 := by rw [← HM10.out]; exact hDl
            have hbw10 := below_fut hb9 hb10 (Nat.le_refl _)
            have HTT := Lib.hid (HTOT.out w10 hb10)
            have HM10' := Lib.hid (HM9.out.below hb10 HM9.out.lt)
            have hcell10 := (hb10.cell (p := ⟨bb, o, none⟩) (by
              by_cases hlt : bb < wc.heap.size
              · exact hlt
              · exfalso
                simp only [World.cell?, Array.getElem?_eq_none (Nat.le_of_not_lt hlt)] at hcell0
                cases hcell0)).trans hcell0
            clear HRGP HTOT ho10 hm10 hr10 hDl hcell0 HM9 HR9
            cases B8 with
            | false =>
              have HE : Hid (bitsP s = none) := Lib.hid (by rw [HP2.out, if_neg (fun h => by cases h.1)])
              go_wp2_with fail
              go_ret2
              exact MakePost.no HE hbw10
            | true =>
              go_wp2_with fail
              refine HTT.out.mono ?_
              rintro e w11 ⟨rfl, hb11⟩
              have hbw11 := below_fut hbw10 hb11 (Nat.le_refl _)
              have HR11 := Lib.hid (HR10.out.fut hb11)
              have HM11 := Lib.hid (HM10'.out.below hb11 HM10'.out.lt)
              have hcell11 := (hb11.cell (p := ⟨bb, o, none⟩) (by
                by_cases hlt : bb < w10.heap.size
                · exact hlt
                · exfalso
                  simp only [World.cell?, Array.getElem?_eq_none (Nat.le_of_not_lt hlt)] at hcell10
                  cases hcell10)).trans hcell10
              clear HTT HM10' HR10 hcell10
              by_cases hTW : T0 = WV
              case neg =>
                have HE : Hid (bitsP s = none) := Lib.hid (by rw [HP2.out, if_neg (fun h => hTW h.2)])
                have hne : ((T0 : Int) == (WV : Int)) = false := by rw [beq_eq_false_iff_ne]; omega
                go_wp2_with fail
                go_ret2
                exact MakePost.no HE hbw11
              have HY : Hid (bitsP s = made (kindAt (v0 : Int) ((m10 : Nat) : Int)) (ofNats D)) := Lib.hid (by rw [HP2.out, if_pos ⟨trivial, hTW⟩, HM10.out])
              subst hTW
              clear HP2
              go_wp2_with fail
              go_loopw [11, 13, 80] (fun bv xv i wx => ∃ k : Nat, k ≤ m10 ∧ i = .int .i64 k ∧ Hid (Own8 wx w11.heap.size bv (ofNats (D.take k))) ∧ Hid (Below w11.heap.size w11 wx)) (fun _ _ i _ => m10 - (intOf i).toNat)
              case atStart => exact ⟨0, by omega, rfl, Lib.hid (Own8.nil _ _), Lib.hid (Below.refl _ _)⟩
              case round =>
                obtain ⟨k2, hk2, rfl, HO, HB⟩ := hrel
                have HBW := Lib.hid (below_fut hbw11 HB.out (Nat.le_refl _))
                by_cases hkm2 : k2 < m10
                · have hlt : (k2 : Int) < (m10 : Int) := by omega
                  obtain ⟨x, hx⟩ : ∃ x, D[k2]? = some x := ⟨_, List.getElem?_eq_getElem (by rw [HM10.out]; exact hkm2)⟩
                  have hx256 := HD256.out x (List.mem_of_getElem? hx)
                  obtain ⟨b2, o2, rfl, _, hcl⟩ := (HR11.out.fut HB.out) (fun e => by have := zl_at hx; rw [e] at this; cases this)
                  have hcell := hcl k2 _ (zl_at hx)
                  have HNX : Hid (ofNats (D.take (k2 + 1)) = ofNats (D.take k2) ++ [BitVec.ofNat 8 x]) := Lib.hid (by rw [List.take_add_one, hx]; exact ofNats_app _ _)
                  have hw3 : iv8 (BitVec.ofNat 8 x) = (x : Int) := by
                    have h := toByte x
                    rw [Nat.mod_eq_of_lt hx256] at h
                    omega
                  have hsz3 : w11.heap.size ≤ wr.heap.size := HB.out.size
                  have hb3 := HB.out.alloc hsz3 (.cells #[.int .u8 (iv8 (BitVec.ofNat 8 x))] 5)
                  have ho3 := HO.out.fut (below_new wr (.cells #[.int .u8 (iv8 (BitVec.ofNat 8 x))] 5))
                  have hrow3 := new_one wr (BitVec.ofNat 8 x)
                  have hdl : (ofNats (D.take k2)).length + [BitVec.ofNat 8 x].length ≤ 140737488355328 := by rw [ofNats_len, List.length_take]; simp only [List.length_cons, List.length_nil]; omega
                  have hsz4 := hb3.size
                  rw [hw3] at hb3 ho3 hrow3 hsz4
                  clear hx hcl HO hw3 HB
                  go_wp2_with ((with_reducible refine wp_append8 (o := ⟨some 88, _, _, _, _, _⟩) ?_ ((.tmp 84)) ((.tmp 87)) ?_ (w11.heap.size) _ ((ofNats (D.take k2))) ?_ (ho3) ((some ⟨wr.heap.size, 0, none⟩)) (1) (1) ([BitVec.ofNat 8 x]) ?_ (rfl) (hrow3) ?_ (hsz4) (w11.heap.size) (w11) (hb3) ?_ ?_
                                · rfl
                                · rfl
                                · rfl
                                · rfl
                                · exact hdl
                                · exact Nat.le_refl _
                                intro v4 w4 ho4 hb4 hg4 hs4))
                  go_roundw
                  case rel => exact ⟨k2 + 1, by omega, by go_num, Lib.hid (by rw [HNX.out]; exact ho4), Lib.hid hb4⟩
                  case measure => simp [intOf]; omega
                · have hlt : ¬ (k2 : Int) < (m10 : Int) := by omega
                  have HTK2 : Hid (D.take k2 = D) := Lib.hid (List.take_of_length_le (by rw [HM10.out]; omega))
                  rw [HTK2.out] at HO
                  obtain ⟨p5, n5, c5, rfl, hn5, hnc5, hcm5, hr5⟩ := HO.out.open
                  have hn5m : n5 = m10 := by rw [← hn5.out, ofNats_len, HM10.out]
                  subst hn5m
                  have HMW := Lib.hid (HM11.out.below HB.out HM11.out.lt)
                  have hlk := HMW.out.at (v0 : Int) (n5 : Int) (wf_nat v0 (by omega)) (wf_nat n5 (by omega))
                  have hcellr := (HB.out.cell (p := ⟨bb, o, none⟩) (by
                    by_cases hlt : bb < w11.heap.size
                    · exact hlt
                    · exfalso
                      simp only [World.cell?, Array.getElem?_eq_none (Nat.le_of_not_lt hlt)] at hcell11
                      cases hcell11)).trans hcell11
                  have hMK := make_any (kindAt (v0 : Int) (n5 : Int)) p5 n5 c5 (ofNats D) wr hr5 hn5.out hnc5 (by omega) hcm5
                  rw [← HY.out] at hMK
                  obtain ⟨KD, hKD⟩ : ∃ KD, KD = kindAt (v0 : Int) (n5 : Int) := ⟨_, rfl⟩
                  rw [← hKD] at hMK hlk
                  have HMK := Lib.hid hMK
                  clear hMK hKD HO hr5 hn5 HM11
                  go_wp2_with fail
                  refine HMK.out.mono ?_
                  intro e w12 h12
                  have h13 := MakePost.later HBW.out h12
                  clear h12 HMK
                  obtain ⟨vm, bm, rfl⟩ := h13.shape
                  have H13 := Lib.hid h13
                  clear h13
                  go_wp2_with fail
                  go_ret2
                  exact H13.out
end Go.Proofs.YtbkpgdfkjijagaaDoor
