/- sha.Hasher: what it holds, plain; sha.New: the walk. -/
import Derived.Test.YtikjhnbehihbjaaDoorShaI
import Derived.Deep.MidRow
import Derived.Laws.Tables
import Derived.RegionTactic
namespace Go.Proofs.YtikjhnbehihbjaaDoor
open Go.RowKit

/-- a hasher's cells: the eight words, the part, how many bytes came -/
def hsC (s : S8) (part : List (BitVec 8)) (L : Nat) : List Value := [.bool true] ++ (s.list.map u32 ++ (part.map u8 ++ [.int .u64 (L : Int)]))
theorem hsC_st (s : S8) (part : List (BitVec 8)) (L : Nat) : (hsC s part L).toArray = stC [.bool true] (part.map u8 ++ [.int .u64 (L : Int)]) s.list := rfl
theorem hsC_len (s : S8) (part : List (BitVec 8)) (L : Nat) (h : part.length = 64) : (hsC s part L).length = 74 := by
  simp [hsC, S8.list_len, h]
theorem hsC_pre (s : S8) (part : List (BitVec 8)) (L : Nat) : hsC s part L = ([.bool true] ++ s.list.map u32) ++ (part.map u8 ++ [.int .u64 (L : Int)]) := by
  unfold hsC; rw [List.append_assoc]
theorem pre_len (s : S8) : ([Value.bool true] ++ s.list.map u32).length = 9 := rfl
theorem hsC_made (s : S8) (part : List (BitVec 8)) (L : Nat) : (hsC s part L).toArray[0]? = some (.bool true) := rfl
theorem hsC_n (s : S8) (part : List (BitVec 8)) (L : Nat) (h : part.length = 64) : (hsC s part L).toArray[73]? = some (.int .u64 (L : Int)) := by
  rw [hsC_pre, List.getElem?_toArray, List.getElem?_append_right (by rw [pre_len]; omega), pre_len, List.getElem?_append_right (by rw [List.length_map, h]; omega), List.length_map, h]
  rfl
theorem hsC_setn (s : S8) (part : List (BitVec 8)) (L M : Nat) (h : part.length = 64) : (hsC s part L).toArray.setIfInBounds 73 (.int .u64 (M : Int)) = (hsC s part M).toArray := by
  rw [hsC_pre, hsC_pre, List.setIfInBounds_toArray, List.set_append_right _ _ (by rw [pre_len]; omega), pre_len, List.set_append_right _ _ (by rw [List.length_map, h]; omega), List.length_map, h]
  rfl
theorem hsC_part (s : S8) (part : List (BitVec 8)) (L : Nat) (i : Nat) (x : Value) (hx : (part.map u8)[i]? = some x) : (hsC s part L).toArray[9 + i]? = some x := by
  have hi : i < (part.map u8).length := (List.getElem?_eq_some_iff.1 hx).1
  rw [hsC_pre, List.getElem?_toArray, List.getElem?_append_right (by rw [pre_len]; omega), pre_len, show 9 + i - 9 = i by omega, List.getElem?_append_left hi]
  exact hx
theorem hsC_splice (s : S8) (part : List (BitVec 8)) (L at0 : Nat) (x : List (BitVec 8)) (h : part.length = 64) (ha : at0 + x.length ≤ 64) :
    splice (hsC s part L) (9 + at0) (x.map u8) = hsC s (part.take at0 ++ x ++ part.drop (at0 + x.length)) L := by
  unfold splice
  rw [hsC_pre, hsC_pre, List.take_append, pre_len, show 9 + at0 - 9 = at0 by omega, List.take_of_length_le (by rw [pre_len]; omega), List.take_append_of_le_length (by rw [List.length_map, h]; omega),
    List.length_map, List.drop_append, pre_len, List.drop_of_length_le (by rw [pre_len]; omega), List.nil_append, show 9 + at0 + x.length - 9 = at0 + x.length by omega, List.drop_append_of_le_length (by rw [List.length_map, h]; omega)]
  simp only [List.map_append, List.map_take, List.map_drop, List.append_assoc]
theorem hsC_one (s : S8) (part : List (BitVec 8)) (L : Nat) : (hsC s part L).toArray.all (·.oneCell') = true := by
  rw [List.all_toArray, hsC]; simp [Value.oneCell', List.all_append]
theorem hsC_infoL (s : S8) (part : List (BitVec 8)) (L : Nat) (h : part.length = 64) : (Tryd.prog.info? 99).map (·.size) = some (hsC s part L).length := by rw [hsC_len _ _ _ h]; kernel_rfl
theorem hsC_info (s : S8) (part : List (BitVec 8)) (L : Nat) (h : part.length = 64) : (Tryd.prog.info? 99).map (·.size) = some (hsC s part L).toArray.size := by rw [List.size_toArray]; exact hsC_infoL s part L h

/-- the hasher at H has taken these bytes -/
def Hasher (w : World) (H : Nat) (all : List (BitVec 8)) : Prop := ∃ part : List (BitVec 8), part.length = 64 ∧ part.take (all.length % 64) = all.drop (64 * (all.length / 64)) ∧ Blk w H 99 (hsC (blocks all (all.length / 64)) part all.length).toArray
theorem Hasher.kept {w w' : World} {H G : Nat} {all : List (BitVec 8)} (h : Hasher w H all) (hg : w.grownBy w' (some G)) (hne : H ≠ G) : Hasher w' H all := by
  obtain ⟨part, h1, h2, h3⟩ := h
  exact ⟨part, h1, h2, h3.kept hg hne⟩
theorem Hasher.below {w w' : World} {H B : Nat} {all : List (BitVec 8)} (h : Hasher w H all) (hb : Below B w w') (hB : H < B) : Hasher w' H all := by
  obtain ⟨part, h1, h2, h3⟩ := h
  exact ⟨part, h1, h2, h3.below hb hB⟩
theorem Hasher.lt {w : World} {H : Nat} {all : List (BitVec 8)} (h : Hasher w H all) : H < w.heap.size := by
  obtain ⟨part, h1, h2, h3⟩ := h
  exact h3.lt

theorem blocks_append (all x : List (BitVec 8)) (k : Nat) (h : 64 * k ≤ all.length) : blocks (all ++ x) k = blocks all k := by
  induction k with
  | zero => rfl
  | succ k ih =>
    rw [blocks, blocks, ih (by omega), List.drop_append_of_le_length (by omega), List.take_append_of_le_length (by rw [List.length_drop]; omega)]
section
variable (all x part : List (BitVec 8)) (hp : part.length = 64) (ht : part.take (all.length % 64) = all.drop (64 * (all.length / 64)))
/-- the part behind more bytes -/
def partP (part x : List (BitVec 8)) (at0 : Nat) : List (BitVec 8) := part.take at0 ++ x ++ part.drop (at0 + x.length)
include hp in
theorem partP_len (at0 : Nat) (h : at0 + x.length ≤ 64) : (partP part x at0).length = 64 := by
  unfold partP
  rw [List.length_append, List.length_append, List.length_take, List.length_drop]; omega
include ht
theorem partP_take : (partP part x (all.length % 64)).take (all.length % 64 + x.length) = (all ++ x).drop (64 * (all.length / 64)) := by
  unfold partP
  rw [ht, List.drop_append_of_le_length (by omega), List.take_append_of_le_length (by rw [List.length_append, List.length_drop]; omega)]
  rw [List.take_of_length_le (by rw [List.length_append, List.length_drop]; omega)]
theorem hash_more (h : all.length % 64 + x.length < 64) : (all ++ x).length / 64 = all.length / 64 ∧ blocks (all ++ x) (all.length / 64) = blocks all (all.length / 64) ∧ (partP part x (all.length % 64)).take ((all ++ x).length % 64) = (all ++ x).drop (64 * (all.length / 64)) := by
  have hl : (all ++ x).length = all.length + x.length := List.length_append
  refine ⟨by omega, blocks_append _ _ _ (by omega), ?_⟩
  rw [← partP_take all x part ht, show (all ++ x).length % 64 = all.length % 64 + x.length by omega]
include hp in
theorem hash_full (h : all.length % 64 + x.length = 64) : (all ++ x).length / 64 = all.length / 64 + 1 ∧ (all ++ x).length % 64 = 0 ∧ blocks (all ++ x) (all.length / 64 + 1) = (blocks all (all.length / 64)).mix (partP part x (all.length % 64)) := by
  have hl : (all ++ x).length = all.length + x.length := List.length_append
  refine ⟨by omega, by omega, ?_⟩
  rw [blocks, blocks_append _ _ _ (by omega), ← partP_take all x part ht, List.take_take, show min 64 (all.length % 64 + x.length) = 64 by omega, List.take_of_length_le (by rw [partP_len x part hp _ (by omega)]; omega)]
end
theorem Blk.rangeAt {w : World} {g : Nat} {t : TypeId} {cs : Array Value} (h : Blk w g t cs) (o : Nat) (xs : List Value) (hx : ∀ j v, xs[j]? = some v → cs[o + j]? = some v) : w.rangeAt g o xs := fun j v hj => by
  rw [h.cell]; exact hx j v hj

theorem built_new : Tryd.prog.built 99 [(0, .bool true), (1, .agg s8First.cells.toArray)] = some (hsC s8First (noughts 64) 0).toArray := by kernel_rfl
theorem Laid.range {w : World} (h : Laid w) : w.rangeAt 0 0 s8First.cells := fun j v hj => by
  have hj8 : j < 8 := by have := (List.getElem?_eq_some_iff.1 hj).1; rwa [S8.cells_len] at this
  rw [Nat.zero_add, h.first j hj8, ← hj]
  have := cells_here s8First j hj8
  rw [List.getElem?_toArray] at this
  exact this.symm

/-- a struct or an array built, at a plain region's list -/
theorem wp_build {P : Program} {ops : Array Oper} {rest : List Oper} {o : Oper} {a : Act} {w : World} {Q : Exit → Act → World → Prop} (hgd : o.guard = none) (t : TypeId) (parts : Array (Nat × Operand)) (ho : o.op = .build t parts) (vals : List (Nat × Value)) (hv : parts.toList.map (fun x => (x.1, a.eval x.2)) = vals) (cells : Array Value)
    (hf : P.built t vals = some cells) (h : wpList P ops Q rest (a.put o.dst (.agg cells)) w) : wpList P ops Q (o :: rest) a w := by
  subst hv
  replace hf : P.built t (parts.map fun (i, x) => (i, a.eval x)).toList = some cells := by rw [Array.toList_map]; exact hf
  refine wpList_plain hgd fun K hK => ?_
  unfold Oper.wp execOp
  simp only [ho, Sem.run_bind, run_build w t _ cells hf, Result.andThen_ok]
  exact hK _ _ h

set_option maxRecDepth 100000 in
set_option maxHeartbeats 4000000 in
theorem new_any (w : World) (hK : Laid w) : Calls Tryd.prog 42 #[] w fun e w' => e = .returned (.pointer (some ⟨w.heap.size, 0, none⟩)) ∧ Hasher w' w.heap.size [] ∧ Below w.heap.size w w' := by
  have hrg := hK.range
  have hbn := built_new
  obtain ⟨F, hF⟩ : ∃ F, F = s8First.cells := ⟨_, rfl⟩
  rw [← hF] at hrg hbn
  have hfl : (Tryd.prog.info? 96).map (·.size) = some F.length := by rw [hF]; kernel_rfl
  obtain ⟨N, hN⟩ : ∃ N, N = (hsC s8First (noughts 64) 0).toArray := ⟨_, rfl⟩
  rw [← hN] at hbn
  have HN := Lib.hid hN
  have HFL := Lib.hid hfl
  have HBN := Lib.hid hbn
  clear hF hN hfl hbn
  go_enter Tryd.func42, Tryd.ntmps42
  go_wp2_with (with_reducible refine wpList_load_mid (op := ⟨some 1, _, _, _, _, _⟩) ?_ 96 (.global 0) ?_ 0 0 ?_ F _ hrg Tryd.underlying96 ?_ ?_ ?_
               · rfl
               · rfl
               · rfl
               · rfl
               · exact HFL.out
               refine wp_build (o := ⟨some 2, _, _, _, _, _⟩) rfl 99 _ rfl _ rfl N HBN.out ?_)
  go_ret
  refine ⟨rfl, ⟨noughts 64, rfl, rfl, ?_⟩, (Below.refl _ _).alloc (Nat.le_refl _) _⟩
  rw [HN.out]
  exact Blk.new w _ _
end Go.Proofs.YtikjhnbehihbjaaDoor
