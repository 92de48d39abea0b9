/- append of some bytes to a full row of whatever type of array: the row is the call's own. -/
import Derived.Test.YthglocpbdfcfnaaHdrD
namespace Go.Proofs.Ythglocpbdfcfnaa
open Go.RowKit
theorem num32_back (L : List (BitVec 8)) (h : 4 ≤ L.length) : le32 (num32 L) = L.take 4 := by
  apply List.ext_getElem
  · rw [le32_len, List.length_take]; omega
  · intro i h1 h2
    rw [le32_len] at h1
    simp only [le32, low, List.getElem_map, List.getElem_range, List.getElem_take]
    unfold byteN num32
    apply BitVec.eq_of_getLsbD_eq
    intro j hj
    have hx : L[i]? = some (L[i]'(by omega)) := List.getElem?_eq_getElem (by omega)
    simp only [BitVec.getLsbD_setWidth, BitVec.getLsbD_ushiftRight]
    rw [numTo_bits L 4 (8 * i + j) (by omega), show (8 * i + j) / 8 = i by omega, show (8 * i + j) % 8 = j by omega, hx]
    simp [hj, show 8 * i + j < 64 by omega, show 8 * i + j < 32 by omega]
theorem hdrOf_back (bs : List (BitVec 8)) (h : 80 ≤ bs.length) : (hdrOf bs).bytes ++ bs.drop 80 = bs := by
  have d : ∀ k, (bs.drop k).length = bs.length - k := fun k => List.length_drop
  have e : ∀ k m, bs.drop k = (bs.drop k).take m ++ bs.drop (k + m) := fun k m => by rw [← List.drop_drop, List.take_append_drop]
  unfold hdrOf Hdr.bytes
  simp only []
  rw [num32_back bs (by omega), num32_back _ (by rw [d]; omega), num32_back _ (by rw [d]; omega), num32_back _ (by rw [d]; omega)]
  simp only [List.append_assoc]
  rw [← e 76 4, ← e 72 4, ← e 68 4, ← e 36 32, ← e 4 32]
  exact List.take_append_drop 4 bs
set_option maxRecDepth 100000 in
theorem run_append_own (w : World) (ty : TypeId) (g : Nat) (t : TypeId) (as1 : List (BitVec 8)) (k : Nat) (hk : as1.length = k) (hb : Blk w g t (as1.map u8).toArray) (p : Option Addr) (c : Nat) (bs : List (BitVec 8)) (hne : bs ≠ []) (hr : Row8 w p bs) (hlen : k + bs.length ≤ 140737488355328) :
    ∃ v w', (Builtin.append_ #[27, 27] ty #[.slice (some ⟨g, 0, none⟩) k k, .slice p bs.length c]).run Try.prog w = .ok v w' ∧ Own8 w' w.heap.size v (as1 ++ bs) ∧ Below w.heap.size w w' := by
  obtain ⟨i0, hi, hz0, hz1, hz2⟩ := info_parts u8info
  subst hk
  obtain ⟨b, off, rfl, _, hcell⟩ := hr hne
  have hcells : ∀ j u, (bs.map u8)[j]? = some u → w.cell? ((⟨b, off, none⟩ : Addr).add j) = some u := by
    intro j u hu
    rw [List.getElem?_map] at hu
    cases hx : bs[j]? with
    | none => rw [hx] at hu; cases hu
    | some x =>
      rw [hx] at hu
      injection hu with hu
      rw [Addr.add_lit, hcell j x hx, ← hu]
  have hpos : 0 < bs.length := by
    cases bs with
    | nil => exact absurd rfl hne
    | cons _ _ => simp
  obtain ⟨v', w', hrun, ho, hgr⟩ := run_append_arg_grows (P := Try.prog) w 27 ty 5 i0 (.int .u8 0) 1 1 Try.underlying27 hi hz0 hz1 hz2 rfl (by decide) ⟨g, 0, none⟩ as1.length as1.length (as1.map u8) (by simp)
    (fun j u hu => by rw [Addr.add_lit, Nat.zero_add, hb.cell, List.getElem?_toArray]; exact hu) ⟨b, off, none⟩ bs.length c (bs.map u8) (by simp) hcells (by omega) (by simp only [maxLen]; omega) (by omega)
  refine ⟨v', w', hrun, ?_, (Below.refl _ w).grown hgr (Nat.le_refl _) (fun k hk => by cases hk)⟩
  unfold Own8
  rw [List.length_append, List.map_append]
  exact ho
set_option maxRecDepth 100000 in
theorem wp_append_own {ops : Array Oper} {rest : List Oper} {o : Oper} {a : Act} {Q : Exit → Act → World → Prop} {w : World} (hw : Region.wanted o (yielded ops a.tmps) = true) (s x : Operand)
    (ho : o.op = .call { callee := .builtin .append, args := #[s, x], argTypes := #[27, 27] }) (g : Nat) (t : TypeId) (as1 : List (BitVec 8)) (k : Nat) (hs : a.eval s = .slice (some ⟨g, 0, none⟩) k k) (hk : as1.length = k) (hb : Blk w g t (as1.map u8).toArray)
    (p : Option Addr) (m c : Nat) (bs : List (BitVec 8)) (hx : a.eval x = .slice p m c) (hm : bs.length = m) (hne : bs ≠ []) (hr : Row8 w p bs) (hlen : k + m ≤ 140737488355328)
    (h : ∀ v w', Own8 w' w.heap.size v (as1 ++ bs) → Below w.heap.size w w' → wpList Try.prog ops Q rest (a.put o.dst v) w') : wpList Try.prog ops Q (o :: rest) a w := by
  subst hm
  obtain ⟨v, w', hrun, h2, h3⟩ := run_append_own w o.type g t as1 k hk hb p c bs hne hr hlen
  unfold wpList
  rw [if_pos hw]
  refine .inl ?_
  unfold Oper.wp execOp
  simp only [ho, resolve, invoke, builtin, Sem.run_bind, Sem.run_pure, Result.andThen_ok, List.map_toArray, List.map_cons, List.map_nil, hs, hx, hrun]
  exact h v w' h2 h3
end Go.Proofs.Ythglocpbdfcfnaa
