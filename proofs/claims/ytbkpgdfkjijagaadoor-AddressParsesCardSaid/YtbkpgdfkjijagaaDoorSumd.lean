/- address.summed: the walk. -/
import Derived.Test.YtbkpgdfkjijagaaDoorAdrF
import Derived.Test.YtbkpgdfkjijagaaDoorAdrA
import Derived.Test.YtbkpgdfkjijagaaDoorGS
namespace Go.Proofs.YtbkpgdfkjijagaaDoor
open Go.RowKit
set_option linter.unusedVariables false

theorem slice_hA (w : World) (p : Option Addr) (m c k : Nat) (h2 : k ≤ c) :
    (Instr.sliceAt 22 (.slice p m c) none (some (.int .i64 (k : Int))) none).run Tryd.prog w = .ok (.slice p k c) w := by
  have hu : Tryd.prog.underlying 22 = some (.slice (Tryd.prog.elem 22)) := by kernel_rfl
  have hs : (sizeOf (Tryd.prog.elem 22)).run Tryd.prog w = .ok 1 w := by kernel_rfl
  rw [run_sliceAt_slice w _ _ _ _ _ hu, run_slice_h w _ _ _ _ hu _ _ (by omega) (by omega)]
  rw [hs]
  have e : p.map (fun x => x.add 0) = p := by
    cases p with
    | none => rfl
    | some a => simp [Addr.add]
  simp [Result.andThen, sliced, e]
theorem slice_lA (w : World) (p : Option Addr) (m c k : Nat) (h : k ≤ m) :
    (Instr.sliceAt 22 (.slice p m c) (some (.int .i64 (k : Int))) none none).run Tryd.prog w = .ok (.slice (cutA p c k) (m - k) (c - k)) w := by
  have hs : (sizeOf (Tryd.prog.elem 22)).run Tryd.prog w = .ok 1 w := by kernel_rfl
  have hu : Tryd.prog.underlying 22 = some (.slice (Tryd.prog.elem 22)) := by kernel_rfl
  rw [run_sliceAt_slice w _ _ _ _ _ hu, run_slice_l w _ _ _ _ hu _ _ (by omega) (by omega), hs]
  simp [Result.andThen, sliced, cutA]
theorem slice_lhA (w : World) (p : Option Addr) (m c l k : Nat) (h1 : l ≤ k) (h2 : k ≤ c) :
    (Instr.sliceAt 22 (.slice p m c) (some (.int .i64 (l : Int))) (some (.int .i64 (k : Int))) none).run Tryd.prog w = .ok (.slice (cutA p c l) (k - l) (c - l)) w := by
  have hs : (sizeOf (Tryd.prog.elem 22)).run Tryd.prog w = .ok 1 w := by kernel_rfl
  have hu : Tryd.prog.underlying 22 = some (.slice (Tryd.prog.elem 22)) := by kernel_rfl
  rw [run_sliceAt_slice w _ _ _ _ _ hu, run_slice_lh w _ _ _ _ hu _ _ _ _ (by omega) (by omega) (by omega), hs]
  simp [Result.andThen, sliced, cutA]

/-- the script of an address with a sum: of the bytes of its digits -/
def sumK (bs : List (BitVec 8)) : Int := if bs.head? = some 0#8 then 1 else if bs.head? = some 5#8 then 2 else 0
def sumP (s : List (BitVec 8)) : Option (List (BitVec 8)) :=
  if (unb58 s).2 = 0 ∧ (unb58 s).1.length = 25 ∧ (sha (sha ((unb58 s).1.take 21))).take 4 = (unb58 s).1.drop 21 then made (sumK (unb58 s).1) (((unb58 s).1.take 21).drop 1) else none
theorem byte_ne0 : ∀ c : BitVec 8, c ≠ 0#8 → (iv8 c == 0) = false := by decide +kernel
theorem byte_ne5 : ∀ c : BitVec 8, c ≠ 5#8 → (iv8 c == 5) = false := by decide +kernel
theorem made_0 (bs : List (BitVec 8)) : made 0 bs = none := by
  unfold made
  rw [if_neg (by decide), if_pos (by decide)]

set_option maxRecDepth 100000 in
set_option maxHeartbeats 8000000 in
theorem summed_any (s : List (BitVec 8)) (w : World) (hK : Laid w) : Calls Tryd.prog 24 #[.string (strB s)] w (MakePost w (sumP s)) := by
  have HU := Lib.hid (unbase58_any s w)
  have HK := Lib.hid hK
  have HP : Hid (sumP s = if (unb58 s).2 = 0 ∧ (unb58 s).1.length = 25 ∧ (sha (sha ((unb58 s).1.take 21))).take 4 = (unb58 s).1.drop 21 then made (sumK (unb58 s).1) (((unb58 s).1.take 21).drop 1) else none) := Lib.hid rfl
  obtain ⟨O, hO⟩ : ∃ O, O = sumP s := ⟨_, rfl⟩
  rw [← hO] at HP ⊢
  obtain ⟨x, hx⟩ : ∃ x, x = unb58 s := ⟨_, rfl⟩
  rw [← hx] at HP HU
  obtain ⟨S, hS⟩ : ∃ S, S = strB s := ⟨_, rfl⟩
  rw [← hS] at HU ⊢
  clear hO hx hS hK
  obtain ⟨bs, e⟩ := x
  go_enter Tryd.func24, Tryd.ntmps24
  go_wp2_with fail
  refine HU.out.mono ?_
  rintro e2 w2 ⟨v2, rfl, ho2, hb2⟩
  obtain ⟨q2, n2, c2, rfl, hn2, hnc2, hcm2, hr2⟩ := ho2.open
  replace hn2 : Hid (bs.length = n2) := hn2
  have HR2 : Hid (Row8 w2 q2 bs) := Lib.hid hr2
  replace HP : Hid (O = if e = 0 ∧ bs.length = 25 ∧ (sha (sha (bs.take 21))).take 4 = bs.drop 21 then made (sumK bs) ((bs.take 21).drop 1) else none) := HP
  clear HU ho2 hr2
  by_cases he : e = 0
  case neg =>
    have HE : Hid (O = none) := Lib.hid (by rw [HP.out, if_neg (fun h => he h.1)])
    have hne : (e == 0) = false := by rw [beq_eq_false_iff_ne]; exact he
    clear he
    go_wp2_with fail
    go_ret2
    exact MakePost.no HE hb2
  by_cases h25 : n2 = 25
  case neg =>
    have HE : Hid (O = none) := Lib.hid (by rw [HP.out, if_neg (fun h => h25 (hn2.out.symm.trans h.2.1))])
    have hne : ((n2 : Int) == 25) = false := by rw [beq_eq_false_iff_ne]; omega
    subst he
    clear h25
    go_wp2_with fail
    go_ret2
    exact MakePost.no HE hb2
  subst he h25
  have hK2 : Laid w2 := HK.out.below hb2 HK.out.size
  have hr21 := HR2.out.take 21
  have hl21 : (bs.take 21).length = 21 := by rw [List.length_take, hn2.out]; rfl
  have hh := fun W => slice_hA W q2 25 c2 21 (by omega)
  have HD := Lib.hid (shaDouble_any q2 21 c2 (bs.take 21) w2 hK2 hr21 hl21 (by omega) hcm2 (by omega))
  obtain ⟨R, hRe⟩ : ∃ R, R = sha (sha (bs.take 21)) := ⟨_, rfl⟩
  have hRl : R.length = 32 := by rw [hRe, sha_len]
  rw [← hRe] at HD
  have HP2 : Hid (O = if R.take 4 = bs.drop 21 then made (sumK bs) ((bs.take 21).drop 1) else none) := Lib.hid (by
    rw [HP.out, ← hRe]
    simp only [hn2.out, true_and])
  have HRl := Lib.hid hRl
  clear hRe hRl hr21 hl21 hK2 HP
  go_wp2_with fail
  refine HD.out.mono ?_
  rintro e5 w5 ⟨rfl, hb5⟩
  have hz32 := zero32
  obtain ⟨Y, hY⟩ : ∃ Y, Y = ((noughts 32).map u8).toArray := ⟨_, rfl⟩
  rw [← hY] at hz32
  have hYl : Hid (Y.size = 32) := Lib.hid (by rw [hY]; rfl)
  clear hY HD hh
  go_upto_region 5 with (first
    | (with_reducible refine wp_store_blk (o := ⟨none, _, _, _, _, _⟩) ?_ 78 (.tmp 6) (.tmp 21) ?_ (w5.heap.size) 78 (Y) ((hCells R).toArray) ?_ ?_ (Blk.new w5 _ _) ?_ ?_ ?_ (w5.heap.size) (w5) ?_ ?_ ?_
       · rfl
       · rfl
       · rfl
       · rfl
       · exact (hCells_info' HRl.out)
       · exact ((hYl.out).trans (hCells_sizeA HRl.out).symm)
       · exact (hCells_one _)
       · exact (below_new w5 _)
       · exact (Nat.le_refl _)
       intro w6 hR6 hb7 hg7 hs7))
  have hb56 : Below w2.heap.size w2 w6 := below_fut hb5 hb7 (Nat.le_refl _)
  have hbw6 := below_fut hb2 hb56 (Nat.le_refl _)
  have HR6 : Hid (Row8 w6 (some ⟨w5.heap.size, 0, none⟩) (R.take 4)) := Lib.hid ((hCells_row hR6.out).take 4)
  have HRt : Hid ((R.take 4).length = 4) := Lib.hid (by rw [List.length_take, HRl.out]; rfl)
  have HRB := Lib.hid (HR2.out.fut hb56)
  obtain ⟨c0, hc0⟩ : ∃ c0, bs[0]? = some c0 := ⟨_, List.getElem?_eq_getElem (by rw [hn2.out]; omega)⟩
  obtain ⟨bb, oo, rfl, _, hcl⟩ := HRB.out (fun e => by rw [e] at hc0; cases hc0)
  have hcell0 := hcl 0 c0 hc0
  rw [Nat.add_zero] at hcell0
  have hn21 : ¬ c2 = 21 := by omega
  have HRD : Hid (Row8 w6 (some ⟨bb, oo + 21, none⟩) (bs.drop 21)) := Lib.hid (by
    have h := HRB.out.drop (k := 21) (c := c2) (by rw [hn2.out]; omega)
    rw [if_neg hn21] at h
    exact h)
  have HSK : Hid (sumK bs = if c0 = 0#8 then 1 else if c0 = 5#8 then 2 else 0) := Lib.hid (by
    unfold sumK
    rw [List.head?_eq_getElem?, hc0]
    simp only [Option.some.injEq])
  have HDl : Hid ((bs.drop 21).length = 4) := Lib.hid (by rw [List.length_drop, hn2.out])
  generalize w5.heap.size = g5 at HR6 hR6 ⊢
  obtain ⟨b, hb⟩ : ∃ b, b = decide (R.take 4 = bs.drop 21) := ⟨_, rfl⟩
  have HBB := Lib.hid hb
  have heq : ∀ k, Calls Tryd.prog 10 #[.slice (some ⟨g5, 0, none⟩) 4 32, .slice (some ⟨bb, oo + 21, none⟩) 4 (c2 - 21)] (w6.drewN k) fun e w' => e = .returned (.bool b) ∧ w' = w6.drewN k := fun k => by
    rw [hb]
    exact equal_any _ _ 4 32 4 (c2 - 21) (R.take 4) (bs.drop 21) _ (HR6.out.fut (below_draws _ _)) (HRD.out.fut (below_draws _ _)) HRt.out HDl.out
  have HEQ := Lib.hid heq
  clear hb hb7 hg7 hs7 hb5 hR6 hYl HR6 HRD hz32 heq hb56 HR2 HK hb2 hc0 hcl HRl HRt HDl
  simp only [put_none]
  cases b
  · have HE : Hid (O = none) := Lib.hid (by rw [HP2.out, if_neg (of_decide_eq_false HBB.out.symm)])
    go_quiet ((exact Calls.quiet_of_same (HEQ.out _)))
    have HI7 := Lib.hid (below_drewN hbw6 nq)
    go_wp2_with fail
    go_ret2
    exact MakePost.no HE HI7.out
  · have HE : Hid (O = made (sumK bs) ((bs.take 21).drop 1)) := Lib.hid (by rw [HP2.out, if_pos (of_decide_eq_true HBB.out.symm)])
    go_quiet ((exact Calls.quiet_of_same (HEQ.out _)))
    have HI7 := Lib.hid (below_drewN hbw6 nq)
    have hcell : (w6.drewN nq).cell? ⟨bb, oo, none⟩ = some (.int .u8 (iv8 c0)) := hcell0
    clear hcell0
    have HR7 := Lib.hid (HRB.out.fut (below_draws w6 nq))
    generalize w6.drewN nq = w7 at *
    clear HEQ HRB hbw6 HBB HP2
    have hn1 : ¬ c2 = 1 := by omega
    have HRM : Hid (Row8 w7 (some ⟨bb, oo + 1, none⟩) ((bs.take 21).drop 1)) := Lib.hid (by
      have h := (HR7.out.take 21).drop (k := 1) (c := c2) (by rw [List.length_take]; omega)
      rw [if_neg hn1] at h
      exact h)
    have HML : Hid (((bs.take 21).drop 1).length = 20) := Lib.hid (by rw [List.length_drop, List.length_take, hn2.out]; rfl)
    have HMK : Hid (∀ K, Calls Tryd.prog 48 #[.int .i64 K, .slice (some ⟨bb, oo + 1, none⟩) 20 (c2 - 1)] w7 (MakePost w7 (made K ((bs.take 21).drop 1)))) := Lib.hid (fun K => make_any K _ 20 _ _ w7 HRM.out HML.out (by omega) (by omega) (by omega))
    obtain ⟨D20, hD20⟩ : ∃ D20, D20 = (bs.take 21).drop 1 := ⟨_, rfl⟩
    rw [← hD20] at HMK HE
    clear hD20 HRM HML
    by_cases h0 : c0 = 0#8
    · subst h0
      rw [HSK.out, if_pos rfl] at HE
      replace hcell : w7.cell? ⟨bb, oo, none⟩ = some (.int .u8 0) := hcell
      go_wp2_with fail
      refine (HMK.out 1).mono ?_
      intro e w12 h12
      rw [← HE.out] at h12
      have h13 := MakePost.later HI7.out h12
      clear h12 HMK
      obtain ⟨vm, bm, rfl⟩ := h13.shape
      have H13 := Lib.hid h13
      clear h13
      go_wp2_with fail
      go_ret2
      exact H13.out
    · by_cases h5 : c0 = 5#8
      · subst h5
        rw [HSK.out, if_neg h0, if_pos rfl] at HE
        replace hcell : w7.cell? ⟨bb, oo, none⟩ = some (.int .u8 5) := hcell
        clear h0
        go_wp2_with fail
        refine (HMK.out 2).mono ?_
        intro e w12 h12
        rw [← HE.out] at h12
        have h13 := MakePost.later HI7.out h12
        clear h12 HMK
        obtain ⟨vm, bm, rfl⟩ := h13.shape
        have H13 := Lib.hid h13
        clear h13
        go_wp2_with fail
        go_ret2
        exact H13.out
      · rw [HSK.out, if_neg h0, if_neg h5, made_0] at HE
        have n0 : (iv8 c0 == 0) = false := byte_ne0 c0 h0
        have n5 : (iv8 c0 == 5) = false := byte_ne5 c0 h5
        clear h0 h5
        go_wp2_with fail
        go_ret2
        exact MakePost.no HE HI7.out
end Go.Proofs.YtbkpgdfkjijagaaDoor
