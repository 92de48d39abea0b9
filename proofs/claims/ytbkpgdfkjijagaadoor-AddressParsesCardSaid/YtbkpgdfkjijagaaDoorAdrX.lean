/- address.small: the walk. -/
import Derived.Test.YtbkpgdfkjijagaaDoorAdrS
namespace Go.Proofs.YtbkpgdfkjijagaaDoor
open Go.RowKit
set_option linter.unusedVariables false
def SmallPost (w : World) (s : List (BitVec 8)) (e : Ending) (w' : World) : Prop := e = .returned (.tuple #[.string (strB (s.map lowC)), .bool (!(s.any isUp && s.any isLo))]) ∧ Below w.heap.size w w'
theorem any_next {f : BitVec 8 → Bool} {s : List (BitVec 8)} {k : Nat} {c : BitVec 8} (h : s[k]? = some c) : (s.take (k + 1)).any f = ((s.take k).any f || f c) := by
  rw [List.take_add_one, h, List.any_append]; simp
theorem isUp_yes : ∀ c : BitVec 8, isUp c = true → (65 ≤ iv8 c ∧ iv8 c ≤ 90) ∧ ¬ 97 ≤ iv8 c ∧ isLo c = false := by decide +kernel
theorem isUp_no : ∀ c : BitVec 8, isUp c = false → (isLo c = true ∧ 97 ≤ iv8 c ∧ iv8 c ≤ 122 ∧ 65 ≤ iv8 c ∧ ¬ iv8 c ≤ 90) ∨ (isLo c = false ∧ 97 ≤ iv8 c ∧ ¬ iv8 c ≤ 122 ∧ 65 ≤ iv8 c ∧ ¬ iv8 c ≤ 90) ∨ (isLo c = false ∧ ¬ 97 ≤ iv8 c ∧ 65 ≤ iv8 c ∧ ¬ iv8 c ≤ 90) ∨ (isLo c = false ∧ ¬ 97 ≤ iv8 c ∧ ¬ 65 ≤ iv8 c) := by decide +kernel
set_option maxRecDepth 100000 in
set_option maxHeartbeats 8000000 in
theorem small_any (s : List (BitVec 8)) (w : World) (hs : s.length ≤ 140737488355328) : Calls Tryd.prog 49 #[.string (strB s)] w (SmallPost w s) := by
  obtain ⟨S, hS⟩ : ∃ S, S = strB s := ⟨_, rfl⟩
  rw [← hS]
  have HS := Lib.hid hS
  clear hS
  go_enter Tryd.func49, Tryd.ntmps49
  go_wp2_with (with_reducible refine wp_sl8n (o := ⟨some 10, _, _, _, _, _⟩) ?_ (.tmp 9) ?_ w.heap.size s ?_ ?_ ?_ ?_
               · rfl
               · rfl
               · exact congrArg Value.string HS.out
               · exact hs
               · exact Nat.le_refl _
               intro v2 w2 ho2 hb2
               obtain ⟨g, cap, rfl, hgB, hcap, hcm, _, _⟩ := ho2.one)
  obtain ⟨N, hN⟩ : ∃ N, N = s.length := ⟨_, rfl⟩
  have HN := Lib.hid hN
  have HO2 : Hid (Sl8 w2 w.heap.size (.slice (some ⟨g, 0, none⟩) N cap) s) := Lib.hid (by rw [hN]; exact ho2)
  have HB2 := Lib.hid hb2
  rw [← hN] at hcap hs ⊢
  clear hN ho2 hb2
  go_loopw [5, 6, 13] (fun gu gl i wx => ∃ (k : Nat) (gU gL : Bool), k ≤ N ∧ i = .int .i64 k ∧ gu = .bool gU ∧ gl = .bool gL ∧ Hid (gU = (s.take k).any isUp) ∧ Hid (gL = (s.take k).any isLo) ∧ Hid (Sl8 wx w.heap.size (.slice (some ⟨g, 0, none⟩) N cap) (lowK s k)) ∧ Hid (Below w.heap.size w wx)) (fun _ _ i _ => N - (intOf i).toNat)
  case atStart => exact ⟨0, false, false, by omega, rfl, rfl, rfl, Lib.hid rfl, Lib.hid rfl, HO2, HB2⟩
  case round =>
    obtain ⟨k, gU, gL, hk, rfl, rfl, rfl, HU, HL, HO, HB⟩ := hrel
    obtain ⟨g', cap', he, _, _, _, hcl, hfz⟩ := HO.out.one
    obtain ⟨rfl, rfl⟩ : g = g' ∧ cap = cap' := by injection he with e1 _ e3; injection e1 with e1; injection e1 with e1; exact ⟨e1, e3⟩
    by_cases hkn : k < N
    · have hlt : (k : Int) < (N : Int) := by omega
      obtain ⟨c, hc⟩ : ∃ c, s[k]? = some c := ⟨_, List.getElem?_eq_getElem (by rw [← HN.out]; exact hkn)⟩
      have hcell := hcl k c (lowK_at hc).1
      have hfz := hfz k (by rw [lowK_len, ← HN.out]; exact hkn)
      have HC := Lib.hid hc
      have HU2 : Hid ((gU || isUp c) = (s.take (k + 1)).any isUp) := Lib.hid (by rw [any_next hc, ← HU.out])
      have HL2 : Hid ((gL || isLo c) = (s.take (k + 1)).any isLo) := Lib.hid (by rw [any_next hc, ← HL.out])
      clear hcl hc he HU HL
      by_cases hup : isUp c = true
      · obtain ⟨⟨h1, h2⟩, h3, h4⟩ := isUp_yes c hup
        have HLA := Lib.hid (lowC_add c hup)
        have hnx := HO.out.put k hkn (lowC c)
        rw [(lowK_at HC.out).2] at hnx
        have HNX := Lib.hid hnx
        rw [hup] at HU2
        rw [h4] at HL2
        clear hup hnx h4
        cases gL
        all_goals
          go_wp2_with fail
          go_roundw
          case rel =>
            rw [HLA.out.2.2]
            exact ⟨k + 1, _, _, by omega, by go_num, rfl, rfl, Lib.hid (by rw [← HU2.out]; cases gU <;> rfl), Lib.hid (by rw [← HL2.out]; rfl), HNX, Lib.hid (HB.out.setCell hgB _)⟩
          case measure => simp [intOf]; omega
      · have hup : isUp c = false := by simpa using hup
        have HNX : Hid (Sl8 wr w.heap.size (.slice (some ⟨g, 0, none⟩) N cap) (lowK s (k + 1))) := Lib.hid (by rw [lowK_same HC.out (lowC_not c hup)]; exact HO.out)
        have HB3 := HB.out
        have h12 := isUp_no c hup
        rw [hup, Bool.or_false] at HU2
        clear hup HB
        rcases h12 with ⟨h0, h1, h2, h3, h4⟩ | ⟨h0, h1, h2, h3, h4⟩ | ⟨h0, h1, h3, h4⟩ | ⟨h0, h1, h3⟩
        all_goals
          rw [h0] at HL2
          clear h0
          cases gL
        all_goals
          go_wp2_with fail
          go_roundw
          case rel => exact ⟨k + 1, _, _, by omega, by go_num, rfl, rfl, HU2, Lib.hid (by rw [← HL2.out]; rfl), HNX, Lib.hid HB3⟩
          case measure => simp [intOf]; omega
    · have hlt : ¬ (k : Int) < (N : Int) := by omega
      obtain ⟨q, c', hq, _, hrow⟩ := HO.out.row
      obtain ⟨rfl, rfl⟩ : some (⟨g, 0, none⟩ : Addr) = q ∧ cap = c' := by injection hq with e1 _ e3; exact ⟨e1, e3⟩
      have hcv := hrow.convert N cap (by rw [lowK_len, HN.out])
      have HT : Hid (s.take k = s) := Lib.hid (List.take_of_length_le (by rw [← HN.out]; omega))
      rw [HT.out] at HU HL
      have HE : Hid (strB (lowK s k) = strB (s.map lowC)) := Lib.hid (by rw [lowK_all s k (by rw [← HN.out]; omega)])
      clear hrow hq hcl he hfz
      cases gU <;> cases gL
      all_goals
        go_wp2_with fail
        go_ret2
        exact ⟨by rw [← HE.out, ← HU.out, ← HL.out]; rfl, HB.out⟩
end Go.Proofs.YtbkpgdfkjijagaaDoor
