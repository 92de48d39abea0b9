/- A hash stored into a block's header; what a block with another root says. -/
import Derived.Test.YthglocpbdfcfnaaDoorBlkCr
import Derived.Test.YthglocpbdfcfnaaDoorTxID
namespace Go.Proofs.YthglocpbdfcfnaaDoor
open Go Go.RowKit
set_option linter.unusedVariables false

/-- a row of cells stored into the midst of a block that is known whole -/
theorem wp_store_in {P : Program} {ops : Array Oper} {rest : List Oper} {op : Oper} {a : Act} {w : World} {Q : Exit → Act → World → Prop} (hgd : op.guard = none) (ty : TypeId) (x y : Operand) (ho : op.op = .store ty x y)
    (b o : Nat) (cells : List Value) (hx : a.eval x = .pointer (some ⟨b, o, none⟩)) (hy : a.eval y = .agg cells.toArray) (t : TypeId) (old : Array Value) (hb : Blk w b t old) (hfit : o + cells.length ≤ old.size)
    (hi : (P.info? ty).map (·.size) = some cells.toArray.size) (h1 : cells.toArray.all (·.oneCell') = true)
    (h : ∀ w', Hid (Blk w' b t (setAll old o cells)) → Hid (w.grownBy w' (some b)) → wpList P ops Q rest (a.put op.dst undef) w') : wpList P ops Q (op :: rest) a w := by
  have ht : w.there b o cells.toArray.size := fun j hj => by
    have hj' : j < cells.length := by simpa using hj
    have hc := hb.cell (o + j)
    rw [Array.getElem?_eq_getElem (by omega)] at hc
    exact ⟨by rw [hc]; rfl, hb.frozen (o + j)⟩
  refine wpList_store_mid hgd ty x y ho b o cells.toArray hx hy ht hi h1 ?_
  refine h _ (Lib.hid ?_) (Lib.hid ?_)
  · exact Blk.setCells cells o w old hb
  · exact (grown_setCells b cells o w w (World.grownBy.refl w _)).1
theorem chk_wrong (h h' : Hdr) (ts : List TTx) (hr : (merkP (idsB ts)).1 = h.m) (hne : h'.m ≠ h.m) : chkP ⟨h', ts⟩ = 80 := by
  unfold chkP
  split
  · rfl
  · split
    · rw [if_pos (.inr (by rw [hr]; exact fun e => hne e.symm))]
    · rfl
theorem chk_none : chkP noBlk = 80 := chkP_few (.inl rfl)
theorem ids_all (ts : List TTx) (k : Nat) (t : TTx) (ht : ts[k]? = some t) (hc : canTx t = true) : (idsB ts)[k]? = some (idP t).1 := by
  unfold idsB idP
  rw [List.getElem?_map, ht, hc]
  rfl
theorem built_blkn (p : Option Addr) (n c : Nat) : Tryd.prog.built 52 [(1, .slice p n c)] = some (noHdr.cells ++ [Value.slice p n c]).toArray := by kernel_rfl
theorem idP_none {t : TTx} (h : canTx t = false) : idP t = (noughts 32, 1) := by unfold idP; rw [h]; rfl
theorem idP_some {t : TTx} (h : canTx t = true) : idP t = (sha (sha (txB t false)), 0) := by unfold idP; rw [h]; rfl
theorem setAll_mid : ∀ (Y A X C : List Value), X.length = Y.length → setAll (A ++ (X ++ C)).toArray A.length Y = (A ++ (Y ++ C)).toArray
  | [], A, [], C, _ => rfl
  | [], A, x :: X, C, h => by cases h
  | v :: Y, A, [], C, h => by cases h
  | v :: Y, A, x :: X, C, h => by
    have e : (A ++ (x :: X ++ C)).toArray.setIfInBounds A.length v = ((A ++ [v]) ++ (X ++ C)).toArray := by
      rw [List.setIfInBounds_toArray, List.set_append_right _ _ (Nat.le_refl _), Nat.sub_self]
      simp
    have h2 := setAll_mid Y (A ++ [v]) X C (by simpa using h)
    rw [List.length_append] at h2
    have h3 : setAll (A ++ (x :: X ++ C)).toArray A.length (v :: Y) = setAll ((A ++ (x :: X ++ C)).toArray.setIfInBounds A.length v) (A.length + 1) Y := rfl
    rw [h3, e]
    refine h2.trans ?_
    simp
theorem setAll_m (h : Hdr) (hk : h.ok) (m : Bs) (hm : m.length = 32) (v : Value) : setAll (h.cells ++ [v]).toArray 33 (hCells m) = (({ h with m := m } : Hdr).cells ++ [v]).toArray := by
  have e1 : h.cells ++ [v] = ([u32 h.v] ++ h.p.map u8) ++ (h.m.map u8 ++ [u32 h.t, u32 h.b, u32 h.n, v]) := by simp [Hdr.cells]
  have e2 : ({ h with m := m } : Hdr).cells ++ [v] = ([u32 h.v] ++ h.p.map u8) ++ (m.map u8 ++ [u32 h.t, u32 h.b, u32 h.n, v]) := by simp [Hdr.cells]
  have hl : ([u32 h.v] ++ h.p.map u8).length = 33 := by simp [hk.1]
  have h4 := setAll_mid (m.map u8) ([u32 h.v] ++ h.p.map u8) (h.m.map u8) [u32 h.t, u32 h.b, u32 h.n, v] (by simp [hk.2, hm])
  rw [hl] at h4
  rw [e1, e2]
  exact h4
end Go.Proofs.YthglocpbdfcfnaaDoor
