/- sporran/script: patterns as lists of runes; whether a script fits one. -/
import Derived.Test.YtlopmnepodbefaaAppend
import Derived.Laws.RangeAny
import Derived.Lib.OthersKept
import Derived.Deep.LoopGhost
namespace Go.Proofs.Ytlopmnepodbefaa
open Go.RowKit

/-! ### plain: a script against a pattern's runes (120 stands for a byte of its own) -/
def mt : List Nat → List (BitVec 8) → Option (List (BitVec 8))
  | [], [] => some []
  | [], _ :: _ => none
  | _ :: _, [] => none
  | r :: R, b :: s => if r = 120 then (mt R s).map (b :: ·) else if b.toNat = r then mt R s else none

/-- what k runes have come to: the rest decides, these bytes ahead -/
def MtAt (R : List Nat) (bs : List (BitVec 8)) (k : Nat) (A : List (BitVec 8)) : Prop :=
  k ≤ bs.length ∧ A.length ≤ k ∧ mt R bs = (mt (R.drop k) (bs.drop k)).map (A ++ ·)
theorem MtAt.start (R : List Nat) (bs : List (BitVec 8)) : MtAt R bs 0 [] := ⟨Nat.zero_le _, by simp, by simp⟩
theorem MtAt.short {R : List Nat} {bs : List (BitVec 8)} {k : Nat} {A : List (BitVec 8)} (h : MtAt R bs k A) (hk : k < R.length) (he : bs.length = k) : mt R bs = none := by
  have h1 : bs.drop k = [] := List.drop_eq_nil_of_le (by omega)
  rw [h.2.2, List.drop_eq_getElem_cons hk, h1]; rfl
theorem MtAt.takes {R : List Nat} {bs : List (BitVec 8)} {k : Nat} {A : List (BitVec 8)} (h : MtAt R bs k A) (hk : k < R.length) (hb : k < bs.length) (hr : R[k] = 120) : MtAt R bs (k + 1) (A ++ [bs[k]]) := by
  refine ⟨by omega, by have := h.2.1; simp; omega, ?_⟩
  rw [h.2.2, List.drop_eq_getElem_cons hk, List.drop_eq_getElem_cons hb]
  simp [mt, hr, Function.comp_def]
theorem MtAt.same {R : List Nat} {bs : List (BitVec 8)} {k : Nat} {A : List (BitVec 8)} (h : MtAt R bs k A) (hk : k < R.length) (hb : k < bs.length) (hr : R[k] ≠ 120) (he : bs[k].toNat = R[k]) : MtAt R bs (k + 1) A := by
  refine ⟨by omega, by have := h.2.1; omega, ?_⟩
  rw [h.2.2, List.drop_eq_getElem_cons hk, List.drop_eq_getElem_cons hb]
  simp [mt, hr, he]
theorem MtAt.other {R : List Nat} {bs : List (BitVec 8)} {k : Nat} {A : List (BitVec 8)} (h : MtAt R bs k A) (hk : k < R.length) (hb : k < bs.length) (hr : R[k] ≠ 120) (he : bs[k].toNat ≠ R[k]) : mt R bs = none := by
  rw [h.2.2, List.drop_eq_getElem_cons hk, List.drop_eq_getElem_cons hb]
  simp [mt, hr, he]
theorem MtAt.whole {R : List Nat} {bs : List (BitVec 8)} {A : List (BitVec 8)} (h : MtAt R bs R.length A) (he : bs.length = R.length) : mt R bs = some A := by
  have h1 : bs.drop R.length = [] := List.drop_eq_nil_of_le (by omega)
  rw [h.2.2, List.drop_eq_nil_of_le (Nat.le_refl R.length), h1]; simp [mt]
theorem MtAt.long {R : List Nat} {bs : List (BitVec 8)} {A : List (BitVec 8)} (h : MtAt R bs R.length A) (he : bs.length ≠ R.length) : mt R bs = none := by
  have hlt : R.length < bs.length := by have := h.1; omega
  rw [h.2.2, List.drop_eq_nil_of_le (Nat.le_refl R.length), List.drop_eq_getElem_cons hlt]; rfl

/-! ### a text's runes -/
def posAt (s : ByteArray) : Nat → Nat
  | 0 => 0
  | k + 1 => posAt s k + (Utf8.decode s (posAt s k)).2
def patB (s : ByteArray) (R : List Nat) : Bool := (List.range R.length).all (fun k => decide (posAt s k < s.size) && ((Utf8.decode s (posAt s k)).1 == R.getD k 0)) && !decide (posAt s R.length < s.size) && R.all (fun r => decide (r < 256))
structure Pat (s : ByteArray) (R : List Nat) : Prop where
  lt : ∀ k, k < R.length → posAt s k < s.size
  rune : ∀ k (h : k < R.length), (Utf8.decode s (posAt s k)).1 = R[k]
  ends : ¬ posAt s R.length < s.size
  small : ∀ k (h : k < R.length), R[k] < 256
theorem pat_of {s : ByteArray} {R : List Nat} (h : patB s R = true) : Pat s R := by
  simp only [patB, Bool.and_eq_true, List.all_eq_true, List.mem_range, decide_eq_true_eq, beq_iff_eq, Bool.not_eq_true', decide_eq_false_iff_not] at h
  obtain ⟨⟨h1, h2⟩, h3⟩ := h
  refine ⟨fun k hk => (h1 k hk).1, fun k hk => ?_, h2, fun k hk => h3 _ (List.getElem_mem hk)⟩
  rw [(h1 k hk).2]; simp [List.getD, hk]

/-- whether it fits, and the bytes of its own -/
def FitsPost (w : World) (o : Option (List (BitVec 8))) (e : Ending) (w' : World) : Prop :=
  ∃ v ok, e = .returned (.tuple #[v, .bool ok]) ∧ Below w.heap.size w w' ∧ (match o with | none => ok = false | some t => ok = true ∧ Own8 w' w.heap.size v t)

/-- an iterator's step, whatever else there is -/
theorem iter_step {P : Program} {w : World} {k : Nat} {s : ByteArray} {R : List Nat} (hP : Pat s R) {j : Nat} (hj : j < R.length) (hk : w.heap[k]? = some (.stringIter s (posAt s j))) :
    ∃ w2, (∀ ty, (Instr.next (.pointer (some ⟨k, 0, none⟩)) true ty).run P w = .ok (.tuple #[.bool true, .int .i64 (posAt s j : Nat), .int .i32 (R[j] : Nat)]) w2) ∧ w2.heap[k]? = some (.stringIter s (posAt s (j + 1))) ∧
      (∀ B a, Below B a w → B ≤ k → Below B a w2) ∧ (∀ B v bs, Own8 w B v bs → Own8 w2 B v bs) ∧ w2.heap.size = w.heap.size := by
  refine ⟨w.iterAt k s (posAt s j + (Utf8.decode s (posAt s j)).2), fun ty => ?_, Lib.iterAt_heap w k s _ _ hk, fun B a hb hB => Lib.below_iterAt hb hB _ _, fun B v bs h => ?_, Lib.iterAt_size _ _ _ _⟩
  · rw [Lib.run_next_any_at w k s _ ty hk (hP.lt j hj), hP.rune j hj]
  · refine ⟨h.1, ?_⟩
    rcases h.2 with h0 | ⟨g, cap, cur, rfl, hg, hh, hr⟩
    · exact .inl h0
    · have hne : g ≠ k := fun e => by rw [e, hk] at hh; cases hh
      exact .inr ⟨g, cap, cur, rfl, hg, (Lib.iterAt_other w k g s _ hne).trans hh, hr⟩
theorem iter_grown {w w' : World} {B : Nat} {v : Value} {bs : List (BitVec 8)} {k : Nat} {s : ByteArray} {pos : Nat} (h : Own8 w B v bs) (hg : w.grownBy w' v.ownBlock) (hk : w.heap[k]? = some (.stringIter s pos)) : w'.heap[k]? = some (.stringIter s pos) := by
  refine (hg.block k (Array.getElem?_eq_some_iff.1 hk).1 fun e => ?_).trans hk
  rcases h.2 with ⟨rfl, _⟩ | ⟨g, cap, cur, rfl, _, hh, _⟩
  · simp [Value.ownBlock] at e
  · simp [Value.ownBlock] at e
    rw [← e, hk] at hh; cases hh
theorem iter_alloc {w : World} {k : Nat} {s : ByteArray} {pos : Nat} (hk : w.heap[k]? = some (.stringIter s pos)) (o : Obj) : (w.alloc o).heap[k]? = some (.stringIter s pos) :=
  (heap_alloc_old w o (Array.getElem?_eq_some_iff.1 hk).1).trans hk

set_option maxRecDepth 100000 in
set_option maxHeartbeats 2000000 in
theorem fits_any (p : Option Addr) (n c : Nat) (bs : List (BitVec 8)) (S : ByteArray) (R : List Nat) (w : World) (hP : Pat S R) (hR : R.length ≤ 1000) (hr : Row8 w p bs) (hn : bs.length = n) (hnm : n ≤ 140737488355000) :
    Calls Try.prog 27 #[.slice p n c, .string S] w (FitsPost w (mt R bs)) := by
  subst hn
  go_enter Try.func27, Try.ntmps27
  go_wp2
  go_step3
  go_wp2
  go_step3
  go_wp2
  go_loopw [6, 7] (fun v i wr => ∃ (k : Nat) (A : List (BitVec 8)), k ≤ R.length ∧ i = .int .i64 k ∧ Own8 wr w.heap.size v A ∧ MtAt R bs k A ∧ Hid (wr.heap[w.heap.size]? = some (.stringIter S (posAt S k))) ∧ Below w.heap.size w wr)
    (fun _ i _ => R.length - (intOf i).toNat)
  case atStart => exact ⟨0, [], by omega, rfl, Own8.nil _ _, MtAt.start R bs, World.iter_heap w S 0, (Below.refl _ _).alloc (Nat.le_refl _) _⟩
  case round =>
    obtain ⟨k, A, hk, rfl, hown, hmt, hit, hbel⟩ := hrel
    have hkb := hmt.1
    have hAk := hmt.2.1
    by_cases hlt : k < R.length
    · obtain ⟨w2, hnx, hit2, hbt, hot, hz2⟩ := iter_step (P := Try.prog) hP hlt hit.out
      have hsm := hP.small k hlt
      have hbel2 := hbt _ _ hbel (Nat.le_refl _)
      have hown2 := hot _ _ _ hown
      have HIT := Lib.hid hit2
      clear hbt hot hit2 hbel hown hit hz2
      obtain ⟨r, hrd⟩ : ∃ r, r = R[k] := ⟨_, rfl⟩
      rw [← hrd] at hnx hsm
      have HR := Lib.hid hrd
      clear hrd
      by_cases hend : bs.length = k
      · have hne := hmt.short hlt hend
        have HN := Lib.hid hne
        have hend2 : ((k : Int) == (bs.length : Int)) = true := by rw [hend]; simp
        clear hne hend hmt
        go_wp2
        rw [Exit.noGoto_ret]
        go_ret2
        refine ⟨_, _, rfl, hbel2, ?_⟩
        rw [HN.out]
      · have hkl : k < bs.length := by omega
        have hend2 : ((k : Int) == (bs.length : Int)) = false := by simp; omega
        obtain ⟨bb, of, rfl, hbl, hcell⟩ := hr (fun e => by rw [e] at hkl; simp at hkl)
        have hx : w2.cell? ⟨bb, of + k, none⟩ = some (u8 bs[k]) := (hbel2.cell (p := ⟨bb, of + k, none⟩) hbl).trans (hcell k _ (by simp [hkl]))
        obtain ⟨x, hxd⟩ : ∃ x, x = bs[k] := ⟨_, rfl⟩
        rw [← hxd] at hx
        have HX := Lib.hid hxd
        have hx0 := iv8_lo x
        have hx1 := iv8_hi x
        clear hcell hxd hend
        by_cases hr120 : r = 120
        · have hrb : ((r : Int) == 120) = true := by simp; omega
          have hmt2 := hmt.takes hlt hkl (by rw [← HR.out]; exact hr120)
          rw [← HX.out] at hmt2
          clear hmt hr120
          go_wp2_with (with_reducible refine wp_append8 (o := ⟨some 32, _, _, _, _, _⟩) ?_ (.tmp 29) (.tmp 31) ?_ w.heap.size u6 A ?_ (hown2.alloc _) (some ⟨w2.heap.size, 0, none⟩) 1 1 [x] ?_ ?_ ?_ ?_ ?_ w.heap.size w ?_ ?_ ?_
                       · rfl
                       · rfl
                       · rfl
                       · rfl
                       · rfl
                       · exact fun _ => ⟨_, _, rfl, by simp, fun i y hy => match i, hy with | 0, hy => by injection hy with hy; subst hy; exact (Blk.new w2 _ _).cell 0⟩
                       · simp only [List.length_cons, List.length_nil]; omega
                       · have := hbel2.size; simp only [World.size_alloc]; omega
                       · exact hbel2.alloc hbel2.size _
                       · exact Nat.le_refl _
                       intro v3 w3 ho3 hb3 hg3 _
                       have HI3 := Lib.hid (iter_grown (hown2.alloc _) hg3 (iter_alloc HIT.out _))
                       clear hown2 hbel2 HIT hg3)
          go_roundw
          case rel => exact ⟨k + 1, A ++ [x], by omega, by go_num, ho3, hmt2, HI3, hb3⟩
          case measure => simp [intOf]; omega
        · have hrb : ((r : Int) == 120) = false := by simp; omega
          by_cases heq : x.toNat = r
          · have hmt2 := hmt.same hlt hkl (by rw [← HR.out]; exact hr120) (by rw [← HR.out, ← HX.out]; exact heq)
            have hq : (iv8 x != (r : Int)) = false := by unfold iv8; simp; omega
            clear hmt hr120 heq
            go_wp2
            go_roundw
            case rel => exact ⟨k + 1, A, by omega, by go_num, hown2, hmt2, HIT, hbel2⟩
            case measure => simp [intOf]; omega
          · have hne := hmt.other hlt hkl (by rw [← HR.out]; exact hr120) (by rw [← HR.out, ← HX.out]; exact heq)
            have HN := Lib.hid hne
            have hq : (iv8 x != (r : Int)) = true := by unfold iv8; simp; omega
            clear hmt hr120 heq hne
            go_wp2
            rw [Exit.noGoto_ret]
            go_ret2
            refine ⟨_, _, rfl, hbel2, ?_⟩
            rw [HN.out]
    · obtain rfl : k = R.length := by omega
      have hnx := fun ty => Lib.run_next_end_at (P := Try.prog) wr w.heap.size S _ ty hit.out hP.ends
      go_wp2
      rw [Exit.noGoto_ret]
      go_ret2
      refine ⟨_, _, rfl, hbel, ?_⟩
      by_cases he : bs.length = R.length
      · rw [hmt.whole he]; exact ⟨by simp; omega, hown⟩
      · rw [hmt.long he]; simp; omega
end Go.Proofs.Ytlopmnepodbefaa
