/- Great letters turned small: sporranref14.lower, upper, address.small: the walks. -/
import Derived.Test.YtbkpgdfkjijagaaDoorAdrK
import Derived.Test.YtbkpgdfkjijagaaDoorSl8
namespace Go.Proofs.YtbkpgdfkjijagaaDoor
open Go.RowKit
set_option linter.unusedVariables false

def isUp (c : BitVec 8) : Bool := decide (65 ≤ iv8 c) && decide (iv8 c ≤ 90)
def isLo (c : BitVec 8) : Bool := decide (97 ≤ iv8 c) && decide (iv8 c ≤ 122)
def lowC (c : BitVec 8) : BitVec 8 := if isUp c then c ||| 32#8 else c
theorem lowC_add (c : BitVec 8) (h : isUp c = true) : (iv8 c + 32) % 256 = iv8 (lowC c) ∧ iv8 c + 32 = iv8 (lowC c) ∧ bits .or .u8 (iv8 c) 32 = iv8 (lowC c) := by
  refine ⟨?_, ?_, ?_⟩
  · revert h; revert c; decide +kernel
  · revert h; revert c; decide +kernel
  · rw [show (32 : Int) = iv8 32#8 from rfl, or8]; unfold lowC; rw [if_pos h]
theorem lowC_not (c : BitVec 8) (h : isUp c = false) : lowC c = c := by unfold lowC; rw [h]; rfl
/-- so many are turned -/
def lowK (s : List (BitVec 8)) (k : Nat) : List (BitVec 8) := (s.take k).map lowC ++ s.drop k
theorem lowK_zero (s : List (BitVec 8)) : lowK s 0 = s := rfl
theorem lowK_all (s : List (BitVec 8)) (k : Nat) (h : s.length ≤ k) : lowK s k = s.map lowC := by unfold lowK; rw [List.take_of_length_le h, List.drop_eq_nil_of_le h, List.append_nil]
theorem lowK_len (s : List (BitVec 8)) (k : Nat) : (lowK s k).length = s.length := by unfold lowK; rw [List.length_append, List.length_map, ← List.length_append, List.take_append_drop]
theorem lowK_at {s : List (BitVec 8)} {k : Nat} {c : BitVec 8} (h : s[k]? = some c) : (lowK s k)[k]? = some c ∧ (lowK s k).set k (lowC c) = lowK s (k + 1) := by
  obtain ⟨hk, hc⟩ := List.getElem?_eq_some_iff.1 h
  have hl : ((s.take k).map lowC).length = k := by rw [List.length_map, List.length_take]; omega
  have e : s.drop k = c :: s.drop (k + 1) := by rw [List.drop_eq_getElem_cons hk, hc]
  unfold lowK
  rw [e]
  constructor
  · rw [List.getElem?_append_right (by omega), hl, Nat.sub_self]; rfl
  · rw [List.set_append_right _ _ (by omega), hl, Nat.sub_self, List.take_add_one, h, List.map_append, List.append_assoc]; rfl
theorem lowK_same {s : List (BitVec 8)} {k : Nat} {c : BitVec 8} (h : s[k]? = some c) (hc : lowC c = c) : lowK s (k + 1) = lowK s k := by
  obtain ⟨h1, h2⟩ := lowK_at h
  rw [← h2, hc]
  obtain ⟨hk, he⟩ := List.getElem?_eq_some_iff.1 h1
  rw [← he, List.set_getElem_self]
theorem Sl8.put {w : World} {B g n cap : Nat} {bs : List (BitVec 8)} (h : Sl8 w B (.slice (some ⟨g, 0, none⟩) n cap) bs) (j : Nat) (hj : j < n) (b : BitVec 8) : Sl8 (w.setCell ⟨g, j, none⟩ (u8 b)) B (.slice (some ⟨g, 0, none⟩) n cap) (bs.set j b) := by
  obtain ⟨g', cap', e, hB, hg, h1, h2, hc, hs, hf⟩ := h
  injection e with e1 e2 e3
  injection e1 with e1
  injection e1 with e1
  subst e1
  subst e3
  have hsz : g < (w.setCell ⟨g, j, none⟩ (u8 b)).heap.size := by simpa [World.setCell] using hg
  refine ⟨g, cap, by rw [List.length_set, e2], hB, hsz, by rw [List.length_set]; exact h1, h2, fun i u hu => ?_, fun i hi => ?_, fun i hi => by rw [World.frozen?_setCell]; exact hf i hi⟩
  · rw [List.map_set, List.getElem?_set] at hu
    by_cases hij : j = i
    · subst hij
      rw [if_pos rfl] at hu
      split at hu
      · injection hu with hu
        rw [← hu]
        exact World.cell?_setCell_same' _ _ _ (hs j (by omega))
      · cases hu
    · rw [if_neg hij] at hu
      rw [World.cell?_setCell_other _ _ _ _ (by first | (simp; done) | (simp [hij]; done) | (simp; omega))]
      exact hc i u hu
  · by_cases hij : j = i
    · subst hij
      rw [World.cell?_setCell_same' _ _ _ (hs j hi)]; rfl
    · rw [World.cell?_setCell_other _ _ _ _ (by first | (simp; done) | (simp [hij]; done) | (simp; omega))]
      exact hs i hi
theorem Sl8.one {w : World} {B : Nat} {v : Value} {bs : List (BitVec 8)} (h : Sl8 w B v bs) : ∃ g cap, v = .slice (some ⟨g, 0, none⟩) bs.length cap ∧ B ≤ g ∧ bs.length ≤ cap ∧ cap ≤ 9223372036854775807 ∧ (∀ j x, bs[j]? = some x → w.cell? ⟨g, j, none⟩ = some (.int .u8 (iv8 x))) ∧ ∀ j, j < bs.length → w.frozen? ⟨g, j, none⟩ = false := by
  obtain ⟨g, cap, e, hB, hg, h1, h2, hc, hs, hf⟩ := h
  exact ⟨g, cap, e, hB, h1, by unfold maxLen at h2; omega, fun j x hx => hc j _ (by rw [List.getElem?_map, hx]; rfl), fun j hj => hf j (by omega)⟩

set_option maxRecDepth 100000 in
set_option maxHeartbeats 4000000 in
theorem lower_any (s : List (BitVec 8)) (w : World) (hs : s.length ≤ 140737488355328) : Calls Tryd.prog 30 #[.string (strB s)] w fun e w' => e = .returned (.string (strB (s.map lowC))) ∧ Below w.heap.size w w' := by
  obtain ⟨S, hS⟩ : ∃ S, S = strB s := ⟨_, rfl⟩
  rw [← hS]
  have HS := Lib.hid hS
  clear hS
  go_enter Tryd.func30, Tryd.ntmps30
  go_wp2_with (with_reducible refine wp_sl8n (o := ⟨some 7, _, _, _, _, _⟩) ?_ (.tmp 6) ?_ w.heap.size s ?_ ?_ ?_ ?_
               · rfl
               · rfl
               · exact congrArg Value.string HS.out
               · exact hs
               · exact Nat.le_refl _
               intro v2 w2 ho2 hb2
               obtain ⟨g, cap, rfl, hgB, hcap, hcm, _, _⟩ := ho2.one)
  obtain ⟨N, hN⟩ : ∃ N, N = s.length := ⟨_, rfl⟩
  have HN := Lib.hid hN
  have HO2 : Hid (Sl8 w2 w.heap.size (.slice (some ⟨g, 0, none⟩) N cap) s) := Lib.hid (by rw [hN]; exact ho2)
  have HB2 := Lib.hid hb2
  rw [← hN] at hcap hs ⊢
  clear hN ho2 hb2
  go_loopw [10] (fun i wx => ∃ k : Nat, k ≤ N ∧ i = .int .i64 k ∧ Hid (Sl8 wx w.heap.size (.slice (some ⟨g, 0, none⟩) N cap) (lowK s k)) ∧ Hid (Below w.heap.size w wx)) (fun i _ => N - (intOf i).toNat)
  case atStart => exact ⟨0, by omega, rfl, HO2, HB2⟩
  case round =>
    obtain ⟨k, hk, rfl, HO, HB⟩ := hrel
    obtain ⟨g', cap', he, _, _, _, hcl, hfz⟩ := HO.out.one
    obtain ⟨rfl, rfl⟩ : g = g' ∧ cap = cap' := by injection he with e1 _ e3; injection e1 with e1; injection e1 with e1; exact ⟨e1, e3⟩
    by_cases hkn : k < N
    · have hlt : (k : Int) < (N : Int) := by omega
      obtain ⟨c, hc⟩ : ∃ c, s[k]? = some c := ⟨_, List.getElem?_eq_getElem (by rw [← HN.out]; exact hkn)⟩
      have hcell := hcl k c (lowK_at hc).1
      have hfz := hfz k (by rw [lowK_len, ← HN.out]; exact hkn)
      have HC := Lib.hid hc
      clear hcl hc he
      by_cases h1 : 65 ≤ iv8 c
      · by_cases h2 : iv8 c ≤ 90
        · have hup : isUp c = true := by unfold isUp; rw [decide_eq_true h1, decide_eq_true h2]; rfl
          have HLA := Lib.hid (lowC_add c hup)
          have hnx := HO.out.put k hkn (lowC c)
          rw [(lowK_at HC.out).2] at hnx
          have HNX := Lib.hid hnx
          clear hup hnx
          go_wp2_with fail
          go_roundw
          case rel =>
            first | rw [HLA.out.1] | rw [HLA.out.2.1]
            exact ⟨k + 1, by omega, by go_num, HNX, Lib.hid (HB.out.setCell hgB _)⟩
          case measure => simp [intOf]; omega
        · have hup : isUp c = false := by unfold isUp; rw [decide_eq_false h2, Bool.and_false]
          have HNX : Hid (Sl8 wr w.heap.size (.slice (some ⟨g, 0, none⟩) N cap) (lowK s (k + 1))) := Lib.hid (by rw [lowK_same HC.out (lowC_not c hup)]; exact HO.out)
          have HB3 := HB.out
          clear hup HB
          go_wp2_with fail
          go_roundw
          case rel => exact ⟨k + 1, by omega, by go_num, HNX, Lib.hid HB3⟩
          case measure => simp [intOf]; omega
      · have hup : isUp c = false := by unfold isUp; rw [decide_eq_false h1, Bool.false_and]
        have HNX : Hid (Sl8 wr w.heap.size (.slice (some ⟨g, 0, none⟩) N cap) (lowK s (k + 1))) := Lib.hid (by rw [lowK_same HC.out (lowC_not c hup)]; exact HO.out)
        have HB3 := HB.out
        clear hup HB
        go_wp2_with fail
        go_roundw
        case rel => exact ⟨k + 1, by omega, by go_num, HNX, Lib.hid HB3⟩
        case measure => simp [intOf]; omega
    · have hlt : ¬ (k : Int) < (N : Int) := by omega
      obtain ⟨q, c', hq, _, hrow⟩ := HO.out.row
      obtain ⟨rfl, rfl⟩ : some (⟨g, 0, none⟩ : Addr) = q ∧ cap = c' := by injection hq with e1 _ e3; exact ⟨e1, e3⟩
      have hcv := hrow.convert N cap (by rw [lowK_len, HN.out])
      have HE : Hid (strB (lowK s k) = strB (s.map lowC)) := Lib.hid (by rw [lowK_all s k (by rw [← HN.out]; omega)])
      clear hrow hq hcl he hfz
      go_wp2_with fail
      go_ret
      exact ⟨by rw [← HE.out]; rfl, HB.out⟩
set_option maxRecDepth 100000 in
set_option maxHeartbeats 4000000 in
theorem upper_any (s : List (BitVec 8)) (w : World) (hs : s.length ≤ 140737488355328) : Calls Tryd.prog 29 #[.string (strB s)] w fun e w' => e = .returned (.bool (!s.any isLo)) ∧ w' = w := by
  have hsz : (strB s).size = s.length := strB_size s
  have HIX : Hid (∀ (k : Nat) (x : BitVec 8), s[k]? = some x → ∀ W, (Instr.index 9 (.string (strB s)) (.int .i64 (k : Int))).run Tryd.prog W = .ok (.int .u8 (iv8 x)) W) := Lib.hid (fun k x h W => strB_index s k x h W)
  obtain ⟨S, hS⟩ : ∃ S, S = strB s := ⟨_, rfl⟩
  rw [← hS] at hsz HIX ⊢
  clear hS
  obtain ⟨N, hN⟩ : ∃ N, N = s.length := ⟨_, rfl⟩
  have HN := Lib.hid hN
  rw [← hN] at hsz hs
  clear hN
  go_enter Tryd.func29, Tryd.ntmps29
  go_wp2_with fail
  go_loop [3] (fun i => ∃ k : Nat, k ≤ N ∧ i = .int .i64 k ∧ Hid ((s.take k).any isLo = false)) (fun i => N - (intOf i).toNat)
  case atStart => exact ⟨0, by omega, rfl, Lib.hid rfl⟩
  case round =>
    obtain ⟨k, hk, rfl, HA⟩ := hrel
    by_cases hkn : k < N
    · have hkl : (k : Int) < (S.size : Int) := by rw [hsz]; omega
      obtain ⟨c, hc⟩ : ∃ c, s[k]? = some c := ⟨_, List.getElem?_eq_getElem (by rw [← HN.out]; exact hkn)⟩
      have hix := HIX.out k c hc
      have HC := Lib.hid hc
      clear hc
      have hno : ∀ (h : isLo c = false), Hid ((s.take (k + 1)).any isLo = false) := fun h => Lib.hid (by rw [List.take_add_one, HC.out, List.any_append, HA.out]; simp [h])
      have HNO := Lib.hid hno
      clear hno
      by_cases h1 : 97 ≤ iv8 c
      · by_cases h2 : iv8 c ≤ 122
        · have HE : Hid (s.any isLo = true) := Lib.hid (by
            rw [List.any_eq_true]
            exact ⟨c, List.mem_of_getElem? HC.out, by unfold isLo; rw [decide_eq_true h1, decide_eq_true h2]; rfl⟩)
          go_wp2_with fail
          go_ret
          exact ⟨by rw [HE.out]; rfl, rfl⟩
        · have hlo := HNO.out (by unfold isLo; rw [decide_eq_false h2, Bool.and_false])
          go_wp2_with fail
          go_round
          case rel => exact ⟨k + 1, by omega, by simp, hlo⟩
          case measure => simp [intOf]; omega
      · have hlo := HNO.out (by unfold isLo; rw [decide_eq_false h1, Bool.false_and])
        go_wp2_with fail
        go_round
        case rel => exact ⟨k + 1, by omega, by simp, hlo⟩
        case measure => simp [intOf]; omega
    · have hkl : ¬ (k : Int) < (S.size : Int) := by rw [hsz]; omega
      have HE : Hid (s.any isLo = false) := Lib.hid (by rw [← HA.out, List.take_of_length_le (by rw [← HN.out]; omega)])
      go_wp2_with fail
      go_ret
      exact ⟨by rw [HE.out]; rfl, rfl⟩
end Go.Proofs.YtbkpgdfkjijagaaDoor
