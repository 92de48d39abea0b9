/- sporranref14.candidate: the walk. -/
import Derived.Test.YtbkpgdfkjijagaaDoorAdrY
namespace Go.Proofs.YtbkpgdfkjijagaaDoor
open Go.RowKit
set_option linter.unusedVariables false

def pl32 (c : BitVec 8) : Nat := alph32.idxOf c
theorem ix32 (c : BitVec 8) : placeI alph32 c = if pl32 c < 32 then (pl32 c : Int) else -1 := rfl
/-- the letters between the head and the check sum -/
def mid (s : List (BitVec 8)) : List (BitVec 8) := (s.drop 3).take (s.length - 9)
def shapeB (s : List (BitVec 8)) : Prop := 10 ≤ s.length ∧ s.length ≤ 90 ∧ s.take 3 = bc1
instance (s : List (BitVec 8)) : Decidable (shapeB s) := by unfold shapeB; infer_instance
def grp (s : List (BitVec 8)) : List Nat := ((mid s).map pl32).drop 1
def cand (s : List (BitVec 8)) : List (BitVec 8) × Bool :=
  if shapeB s ∧ ∀ c ∈ mid s, pl32 c < 32 then (ofNats (b8all (grp s)).1, decide ((b8all (grp s)).2.2 < 5) && decide ((b8all (grp s)).2.1 = 0)) else ([], false)
def CandPost (w : World) (x : List (BitVec 8) × Bool) (e : Ending) (w' : World) : Prop := ∃ v, e = .returned (.tuple #[v, .bool x.2]) ∧ Own8 w' w.heap.size v x.1 ∧ Below w.heap.size w w'
theorem mid_at {s : List (BitVec 8)} {k : Nat} {c : BitVec 8} (h : s[3 + k]? = some c) (hk : k + 9 < s.length) : (mid s)[k]? = some c := by
  unfold mid
  rw [List.getElem?_take, if_pos (by omega), List.getElem?_drop, h]
theorem mid_len {s : List (BitVec 8)} (h : 10 ≤ s.length) : (mid s).length = s.length - 9 := by
  unfold mid; rw [List.length_take, List.length_drop]; omega
theorem slice_oneZ (w : World) (p : Option Addr) (m c : Nat) (h : 1 ≤ m) :
    (Instr.sliceAt 51 (.slice p m c) (some (.int .i64 1)) none none).run Tryd.prog w = .ok (.slice (cutA p c 1) (m - 1) (c - 1)) w := by
  have hs : (sizeOf (Tryd.prog.elem 51)).run Tryd.prog w = .ok 1 w := by kernel_rfl
  have hu : Tryd.prog.underlying 51 = some (.slice (Tryd.prog.elem 51)) := by kernel_rfl
  rw [run_sliceAt_slice w _ _ _ _ _ hu, run_slice_l w _ _ _ _ hu _ _ (by omega) (by omega), hs]
  simp [Result.andThen, sliced, cutA]
theorem strB_take (T : List (BitVec 8)) (k : Nat) (h : k ≤ T.length) (w : World) : (Instr.sliceAt 9 (.string (strB T)) none (some (.int .i64 (k : Int))) none).run Tryd.prog w = .ok (.string (strB (T.take k))) w := by
  rw [run_sliceAt_string w _ _ _ _ _ Tryd.underlying9, run_slice_string_h w _ _ Tryd.underlying9 _ _ (by omega) (by rw [strB_size]; omega)]
  congr 2
  apply ByteArray.ext
  apply Array.toList_inj.1
  rw [strB_data, List.map_take, ← strB_data]
  simp [ByteArray.data_extract]

set_option maxRecDepth 100000 in
set_option maxHeartbeats 8000000 in
theorem candidate_any (s : List (BitVec 8)) (w : World) (hs : s.length ≤ 140737488355328) : Calls Tryd.prog 31 #[.string (strB s)] w (CandPost w (cand s)) := by
  have hsz : (strB s).size = s.length := strB_size s
  have HIX : Hid (∀ (k : Nat) (x : BitVec 8), s[k]? = some x → ∀ W, (Instr.index 9 (.string (strB s)) (.int .i64 (k : Int))).run Tryd.prog W = .ok (.int .u8 (iv8 x)) W) := Lib.hid (fun k x h W => strB_index s k x h W)
  have HTK : Hid (3 ≤ s.length → ∀ W, (Instr.sliceAt 9 (.string (strB s)) none (some (.int .i64 3)) none).run Tryd.prog W = .ok (.string (strB (s.take 3))) W) := Lib.hid (fun h W => strB_take s 3 h W)
  have HPL : Hid (∀ c W, Calls Tryd.prog 17 #[.string (strB alph32), .int .u8 (iv8 c)] W fun e w' => e = .returned (.int .i64 (placeI alph32 c)) ∧ w' = W) := Lib.hid (fun c W => place_any alph32 c W (by decide))
  rw [str32] at HPL
  unfold U32 at HPL
  have HEQ : Hid (((strB (s.take 3)).toList == (strB bc1).toList) = decide (s.take 3 = bc1)) := Lib.hid (strB_eq _ _)
  obtain ⟨x, hx⟩ : ∃ x, x = cand s := ⟨_, rfl⟩
  have HX := Lib.hid hx
  obtain ⟨S, hS⟩ : ∃ S, S = strB s := ⟨_, rfl⟩
  rw [← hS] at hsz HIX HTK
  rw [← hS, ← hx]
  obtain ⟨N, hN⟩ : ∃ N, N = s.length := ⟨_, rfl⟩
  have HN := Lib.hid hN
  rw [← hN] at hsz hs
  have HNO : Hid (¬ shapeB s → x = ([], false)) := Lib.hid (fun h => by rw [hx]; unfold cand; rw [if_neg (fun e => h e.1)])
  clear hS hx hN
  go_enter Tryd.func31, Tryd.ntmps31
  by_cases h10 : N < 10
  · have h10' : (S.size : Int) < 10 := by rw [hsz]; omega
    have HE := Lib.hid (HNO.out (fun e => by have := e.1; have := HN.out; omega))
    go_wp2_with fail
    go_ret2
    exact ⟨_, by rw [HE.out]; rfl, by rw [HE.out]; exact Own8.nil _ _, Below.refl _ _⟩
  have h10' : ¬ (S.size : Int) < 10 := by rw [hsz]; omega
  have h10n : ¬ (N : Int) < 10 := by omega
  by_cases h90 : 90 < N
  · have h90' : 90 < (S.size : Int) := by rw [hsz]; omega
    have HE := Lib.hid (HNO.out (fun e => by have := e.2.1; have := HN.out; omega))
    go_wp2_with fail
    go_ret2
    exact ⟨_, by rw [HE.out]; rfl, by rw [HE.out]; exact Own8.nil _ _, Below.refl _ _⟩
  have h90' : ¬ 90 < (S.size : Int) := by rw [hsz]; omega
  have h90n : ¬ 90 < (N : Int) := by omega
  have htk := HTK.out (by rw [← HN.out]; omega)
  obtain ⟨S3, hS3⟩ : ∃ S, S = strB (s.take 3) := ⟨_, rfl⟩
  rw [← hS3] at htk HEQ
  have heq := HEQ.out
  rw [show (strB bc1).toList = [98, 99, 49] from by decide +kernel] at heq
  by_cases hb : s.take 3 = bc1
  case neg =>
    rw [decide_eq_false hb] at heq
    have HE := Lib.hid (HNO.out (fun e => hb e.2.2))
    clear hb hS3
    go_wp2_with fail
    go_ret2
    exact ⟨_, by rw [HE.out]; rfl, by rw [HE.out]; exact Own8.nil _ _, Below.refl _ _⟩
  rw [decide_eq_true hb] at heq
  have HSH : Hid (shapeB s) := Lib.hid ⟨by rw [← HN.out]; omega, by rw [← HN.out]; omega, hb⟩
  clear hb hS3 HNO HTK HEQ h10 h90
  go_wp2_with fail
  go_loopw [4, 5] (fun lv i wx => ∃ k : Nat, 3 ≤ k ∧ k + 6 ≤ N ∧ i = .int .i64 k ∧ Hid (OwnZ wx w.heap.size lv (zl (((mid s).take (k - 3)).map pl32))) ∧ Hid (∀ c ∈ (mid s).take (k - 3), pl32 c < 32) ∧ Hid (Below w.heap.size w wx)) (fun _ i _ => N - (intOf i).toNat)
  case atStart => exact ⟨3, by omega, by omega, rfl, Lib.hid (OwnZ.nil _ _), Lib.hid (fun c hc => by rw [show (mid s).take (3 - 3) = [] from List.take_zero] at hc; cases hc), Lib.hid (Below.refl _ _)⟩
  case round =>
    obtain ⟨k, hk3, hk, rfl, HO, HD, HB⟩ := hrel
    by_cases hkn : k + 6 < N
    · have hlt : (k : Int) < (S.size : Int) - 6 := by rw [hsz]; omega
      have hltn : (k : Int) < (N : Int) - 6 := by omega
      have hkS : (k : Int) < (S.size : Int) := by rw [hsz]; omega
      obtain ⟨c, hc⟩ : ∃ c, s[k]? = some c := ⟨_, List.getElem?_eq_getElem (by rw [← HN.out]; omega)⟩
      have hix := HIX.out k c hc
      have HM : Hid ((mid s).take (k + 1 - 3) = (mid s).take (k - 3) ++ [c]) := Lib.hid (by
        rw [show k + 1 - 3 = (k - 3) + 1 by omega, List.take_add_one, mid_at (k := k - 3) (c := c) (by rw [show 3 + (k - 3) = k by omega]; exact hc) (by rw [← HN.out]; omega)]; rfl)
      have hpl := HPL.out c wr
      have HMC : Hid (c ∈ mid s) := Lib.hid (List.mem_of_mem_take (i := k + 1 - 3) (by rw [HM.out]; exact List.mem_append_right _ (List.mem_singleton_self c)))
      clear hc
      by_cases hd : pl32 c < 32
      · have hz : placeI alph32 c = ((pl32 c : Nat) : Int) := by rw [ix32, if_pos hd]
        rw [hz] at hpl
        obtain ⟨d, hdd⟩ : ∃ d, d = pl32 c := ⟨_, rfl⟩
        have HDD := Lib.hid hdd
        rw [← hdd] at hpl hd
        have hdn : ¬ (d : Int) < 0 := by omega
        have hsz2 : w.heap.size ≤ wr.heap.size := HB.out.size
        have hb3 := HB.out.alloc hsz2 (.cells #[.int .i64 (d : Int)] 3)
        have hsz3 := hb3.size
        have ho3 := HO.out.alloc (.cells #[.int .i64 (d : Int)] 3)
        have hrow3 := new_oneZ wr (d : Int)
        have hdl : (zl (((mid s).take (k - 3)).map pl32)).length + 1 ≤ 1000000 := by rw [zl_len, List.length_map, List.length_take]; have := HSH.out.2.1; have := HN.out; omega
        have HPW := Lib.hid hpl
        clear hz hdd hpl
        go_wp2_with fail
        refine HPW.out.mono ?_
        rintro e w2 ⟨rfl, rfl⟩
        clear HPW
        go_wp2_with (
          with_reducible refine wp_appendZ (o := ⟨some 36, _, _, _, _, _⟩) ?_ (.tmp 33) (.tmp 35) ?_ w.heap.size _ (zl (((mid s).take (k - 3)).map pl32)) ?_ ho3 (some ⟨w2.heap.size, 0, none⟩) 1 1 [(d : Int)] ?_ rfl hrow3 ?_ hsz3 w.heap.size w hb3 ?_ ?_
          · rfl
          · rfl
          · rfl
          · rfl
          · exact hdl
          · exact Nat.le_refl _
          intro v4 w4 ho4 hb4)
        have HO5 : Hid (OwnZ w4 w.heap.size v4 (zl (((mid s).take (k + 1 - 3)).map pl32))) := Lib.hid (by rw [HM.out, List.map_append, zl_app, List.map_cons, List.map_nil, ← HDD.out]; exact ho4)
        have HD5 : Hid (∀ c ∈ (mid s).take (k + 1 - 3), pl32 c < 32) := Lib.hid (by
          intro y hy; rw [HM.out] at hy
          rcases List.mem_append.1 hy with h | h
          · exact HD.out y h
          · rw [List.mem_singleton.1 h, ← HDD.out]; exact hd)
        go_roundw
        case rel => exact ⟨k + 1, by omega, by omega, by go_num, HO5, HD5, Lib.hid hb4⟩
        case measure => simp [intOf]; omega
      · have hz : placeI alph32 c = -1 := by rw [ix32, if_neg hd]
        rw [hz] at hpl
        have HE : Hid (x = ([], false)) := Lib.hid (by rw [HX.out]; unfold cand; rw [if_neg (fun e => hd (e.2 c HMC.out))])
        have HPW := Lib.hid hpl
        clear hz hpl
        go_wp2_with fail
        refine HPW.out.mono ?_
        rintro e w2 ⟨rfl, rfl⟩
        clear HPW
        go_wp2_with fail
        go_ret2
        exact ⟨_, by rw [HE.out]; rfl, by rw [HE.out]; exact Own8.nil _ _, HB.out⟩
    · have hlt : ¬ (k : Int) < (S.size : Int) - 6 := by rw [hsz]; omega
      have hltn : ¬ (k : Int) < (N : Int) - 6 := by omega
      have HT : Hid ((mid s).take (k - 3) = mid s) := Lib.hid (List.take_of_length_le (by rw [mid_len HSH.out.1, ← HN.out]; omega))
      rw [HT.out] at HO HD
      have HE : Hid (x = (ofNats (b8all (grp s)).1, decide ((b8all (grp s)).2.2 < 5) && decide ((b8all (grp s)).2.1 = 0))) := Lib.hid (by rw [HX.out]; unfold cand; rw [if_pos ⟨HSH.out, HD.out⟩])
      obtain ⟨p, m, cc, rfl, hm, hmc, hcm, hrz⟩ := HO.out.open
      have hm2 : (mid s).length = m := by rw [← hm.out, zl_len, List.length_map]
      have hm3 := mid_len HSH.out.1
      have hm1 : 1 ≤ m := by have := HSH.out.1; omega
      have hm90 : m ≤ 90 := by have := HSH.out.2.1; omega
      have hsl := fun W => slice_oneZ W p m cc hm1
      have hr1 : RowZ wr (cutA p cc 1) (zl (grp s)) := by
        have h := hrz.cut (k := 1) (c := cc) (by rw [hm.out]; exact hmc)
        unfold zl at h
        rw [← List.map_drop, ← List.map_drop] at h
        unfold zl grp cutA
        rw [← List.map_drop]
        exact h
      have HC := Lib.hid (bytesOf_any (cutA p cc 1) (m - 1) (cc - 1) (grp s) wr hr1 (by unfold grp; rw [List.length_drop, List.length_map, hm2]) (by omega) (by
        intro y hy
        obtain ⟨c, hc, rfl⟩ := List.mem_map.1 (List.mem_of_mem_drop hy)
        exact HD.out c hc))
      obtain ⟨pc, hpc⟩ : ∃ q, q = cutA p cc 1 := ⟨_, rfl⟩
      rw [← hpc] at HC hsl
      have HB3 := HB.out
      clear hpc hr1 hrz hm hm2 hm3 HO HB
      go_wp2_with fail
      refine HC.out.mono ?_
      rintro e w2 ⟨v2, rfl, ho2, hb2⟩
      go_wp2_with fail
      go_ret2
      exact ⟨_, by rw [HE.out]; rfl, by rw [HE.out]; exact ho2.mono HB3.size, below_fut HB3 hb2 (Nat.le_refl _)⟩
end Go.Proofs.YtbkpgdfkjijagaaDoor
