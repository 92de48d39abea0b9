/- Bytes that wait: a slice of the call's own that may begin in the midst of its block; append to it; worlds in which all old blocks but a few stay. -/
import Derived.Test.YtikjhnbehihbjaaDoorFut
import Derived.ArgAppend
import Derived.Laws.IdiomCopy
import Derived.Deep.DeepAppendWide
namespace Go.Proofs.YtikjhnbehihbjaaDoor
set_option linter.unusedVariables false
open Go.RowKit

/-- all old blocks but those of S stay -/
structure Stays (S : Nat → Prop) (w w' : World) : Prop where
  os : w'.os = w.os
  tape : w'.tape = w.tape
  output : w'.output = w.output
  size : w.heap.size ≤ w'.heap.size
  block : ∀ k, k < w.heap.size → ¬ S k → w'.heap[k]? = w.heap[k]?
section
variable {S S' : Nat → Prop} {w w1 w2 w' : World}
theorem Stays.refl (S : Nat → Prop) (w : World) : Stays S w w := ⟨rfl, rfl, rfl, Nat.le_refl _, fun _ _ _ => rfl⟩
theorem Stays.trans (h : Stays S w w1) (h2 : Stays S' w1 w2) (hS : ∀ k, k < w.heap.size → S' k → S k) : Stays S w w2 :=
  ⟨h2.os.trans h.os, h2.tape.trans h.tape, h2.output.trans h.output, Nat.le_trans h.size h2.size, fun k hk hn => (h2.block k (Nat.lt_of_lt_of_le hk h.size) (fun h' => hn (hS k hk h'))).trans (h.block k hk hn)⟩
theorem Stays.mono (h : Stays S w w') (hS : ∀ k, k < w.heap.size → S k → S' k) : Stays S' w w' := ⟨h.os, h.tape, h.output, h.size, fun k hk hn => h.block k hk (fun h' => hn (hS k hk h'))⟩
theorem Stays.of_below {B : Nat} (h : Below B w w') (hB : w.heap.size ≤ B) (S : Nat → Prop) : Stays S w w' := ⟨h.os, h.tape, h.output, h.size, fun k hk _ => h.block k (by omega)⟩
theorem Stays.of_grown {r : Option Nat} (h : w.grownBy w' r) (hS : ∀ k, r = some k → S k) : Stays S w w' := ⟨h.os, h.tape, h.output, h.size, fun k hk hn => h.block k hk (fun e => hn (hS k e.symm))⟩
theorem Stays.below {B : Nat} (h : Stays S w w') (hB : B ≤ w.heap.size) (hS : ∀ k, S k → B ≤ k) : Below B w w' := ⟨h.os, h.tape, h.output, h.size, fun k hk => h.block k (by omega) (fun h' => by have := hS k h'; omega)⟩
theorem Stays.setCell (h : Stays S w w') {a : Addr} (ha : a.block < w.heap.size → S a.block) (u : Value) : Stays S w (w'.setCell a u) :=
  ⟨h.os, h.tape, h.output, by have := h.size; simpa [World.setCell] using this, fun k hk hn => by
    rw [Below.heap_setCell w' a u k (fun e => hn (by subst e; exact ha hk))]; exact h.block k hk hn⟩
theorem Stays.drewN (h : Stays S w w') (n : Nat) : Stays S w (w'.drewN n) := ⟨h.os, h.tape, h.output, h.size, h.block⟩
theorem Stays.alloc (h : Stays S w w') (o : Obj) : Stays S w (w'.alloc o) := h.trans (Stays.of_below (below_new w' o) (Nat.le_refl _) (fun _ => False)) (fun _ _ h => h.elim)
theorem Stays.set (w : World) (g i : Nat) (u : Value) : Stays (· = g) w (w.setCell ⟨g, i, none⟩ u) := Stays.setCell (S := (· = g)) (a := ⟨g, i, none⟩) (Stays.refl _ _) (fun _ => rfl) _
theorem Blk.stays {g : Nat} {t : TypeId} {cs : Array Value} (h : Blk w g t cs) (hs : Stays S w w') (hg : ¬ S g) : Blk w' g t cs := (hs.block g h.lt hg).trans h
theorem Row8.stays {p : Option Addr} {bs : List (BitVec 8)} (h : Row8 w p bs) (hs : Stays S w w') (hp : bs ≠ [] → ∀ a, p = some a → ¬ S a.block) : Row8 w' p bs := fun hn => by
  obtain ⟨b, off, rfl, hlt, hc⟩ := h hn
  exact ⟨b, off, rfl, Nat.lt_of_lt_of_le hlt hs.size, fun i x hx => (World.cell?_of_block (a := ⟨b, off + i, none⟩) (hs.block b hlt (hp hn _ rfl))).trans (hc i x hx)⟩
end
theorem Blk.inj {w : World} {g : Nat} {t t' : TypeId} {cs cs' : Array Value} (h : Blk w g t cs) (h' : Blk w g t' cs') : t = t' ∧ cs = cs' := by
  have := h.symm.trans h'
  injection this with this
  injection this with h1 h2
  exact ⟨h2, h1⟩

/-- bytes from place k on -/
theorem Row8.frm {w : World} {b o : Nat} {bs : List (BitVec 8)} (h : Row8 w (some ⟨b, o, none⟩) bs) (k : Nat) : Row8 w (some ⟨b, o + k, none⟩) (bs.drop k) := fun hn => by
  obtain ⟨b', o', e, hlt, hc⟩ := h (fun e => hn (by rw [e]; exact List.drop_nil))
  injection e with e
  injection e with e1 e2 _
  subst e1 e2
  refine ⟨b, o + k, rfl, hlt, fun i x hx => ?_⟩
  rw [List.getElem?_drop] at hx
  rw [Nat.add_assoc]
  exact hc _ x hx
/-- cells set one by one -/
def setAll (cs : Array Value) : Nat → List Value → Array Value
  | _, [] => cs
  | o, v :: r => setAll (cs.setIfInBounds o v) (o + 1) r
theorem setAll_size : ∀ (vs : List Value) (o : Nat) (cs : Array Value), (setAll cs o vs).size = cs.size
  | [], _, _ => rfl
  | _ :: r, o, cs => by rw [setAll, setAll_size r, Array.size_setIfInBounds]
theorem setAll_out : ∀ (vs : List Value) (o : Nat) (cs : Array Value) (k : Nat), (k < o ∨ o + vs.length ≤ k) → (setAll cs o vs)[k]? = cs[k]?
  | [], _, _, _, _ => rfl
  | _ :: r, o, cs, k, h => by
    simp only [List.length_cons] at h
    rw [setAll, setAll_out r (o + 1) _ k (by omega), Array.getElem?_setIfInBounds, if_neg (by omega)]
theorem setAll_in : ∀ (vs : List Value) (o : Nat) (cs : Array Value) (j : Nat) (v : Value), vs[j]? = some v → o + vs.length ≤ cs.size → (setAll cs o vs)[o + j]? = some v
  | [], _, _, _, _, h, _ => by cases h
  | u :: r, o, cs, 0, v, h, hl => by
    injection h with h
    simp only [List.length_cons] at hl
    rw [setAll, setAll_out r (o + 1) _ _ (by omega), Nat.add_zero, Array.getElem?_setIfInBounds, if_pos rfl, if_pos (by omega), h]
  | u :: r, o, cs, j + 1, v, h, hl => by
    simp only [List.length_cons] at hl
    rw [setAll, show o + (j + 1) = o + 1 + j by omega]
    exact setAll_in r (o + 1) _ j v h (by rw [Array.size_setIfInBounds]; omega)
theorem Blk.setCells {g : Nat} {t : TypeId} : ∀ (vs : List Value) (o : Nat) (w : World) (cs : Array Value), Blk w g t cs → Blk (w.setCells g o vs) g t (setAll cs o vs)
  | [], _, _, _, h => h
  | v :: r, o, w, _, h => Blk.setCells r (o + 1) _ _ (h.set o v)
theorem grown_setAll {w : World} {H : Nat} : ∀ (vs : List Value) (o : Nat) (w' : World), w.grownBy w' (some H) → w.grownBy (w'.setCells H o vs) (some H)
  | [], _, _, h => h
  | v :: r, o, w', h => grown_setAll r (o + 1) _ ⟨h.os, h.tape, h.output, by have := h.size; simpa [World.setCell] using this, fun k hk hne => by
      rw [Below.heap_setCell w' ⟨H, o, none⟩ v k (by intro e; exact hne (by rw [e]))]
      exact h.block k hk hne⟩

/-- where a slice cut at k begins -/
def cut8 (p : Option Addr) (c k : Nat) : Option Addr := if c = k then p else p.map (·.add k)
/-- bytes that wait: a slice of the call's own (its block from B on) that may begin in the midst of its block -/
def Sfx8 (w : World) (B : Nat) (v : Value) (bs : List (BitVec 8)) : Prop :=
  (v = .slice none 0 0 ∧ bs = []) ∨ ∃ g off cap cur, v = .slice (some ⟨g, off, none⟩) bs.length cap ∧ B ≤ g ∧ Blk w g 5 cur ∧ bs.length ≤ cap ∧ cap ≤ maxLen ∧ off + cap ≤ cur.size ∧ ∀ i x, bs[i]? = some x → cur[off + i]? = some (u8 x)
section
variable {w w' : World} {B : Nat} {v : Value} {bs : List (BitVec 8)}
theorem Sfx8.nil (w : World) (B : Nat) : Sfx8 w B (.slice none 0 0) [] := .inl ⟨rfl, rfl⟩
theorem Sfx8.of (h : Own8 w B v bs) : Sfx8 w B v bs := by
  rcases h.2 with ⟨hv, h0⟩ | ⟨g, cap, cur, rfl, hB, hg, h1, h2, hs, ht⟩
  · exact .inl ⟨hv, List.eq_nil_of_length_eq_zero h0⟩
  · refine .inr ⟨g, 0, cap, cur, rfl, hB, hg, h1, h2, by omega, fun i x hx => ?_⟩
    have hl : i < bs.length := (List.getElem?_eq_some_iff.1 hx).1
    have : (cur.toList.take (bs.length * 1))[i]? = (bs.map u8)[i]? := by rw [ht]
    rw [List.getElem?_take, if_pos (by omega), List.getElem?_map, hx] at this
    simpa using this
theorem Sfx8.row (h : Sfx8 w B v bs) : ∃ p n c, v = .slice p n c ∧ Hid (bs.length = n) ∧ n ≤ c ∧ c ≤ 9223372036854775807 ∧ Row8 w p bs ∧ (p = none → c = 0) := by
  rcases h with ⟨rfl, rfl⟩ | ⟨g, off, cap, cur, rfl, hB, hg, h1, h2, h3, h4⟩
  · exact ⟨_, _, _, rfl, Lib.hid rfl, by omega, by omega, Row8.nil _ _, fun _ => rfl⟩
  · exact ⟨_, _, _, rfl, Lib.hid rfl, h1, h2, fun _ => ⟨g, off, rfl, hg.lt, fun i x hx => by rw [hg.cell]; exact h4 i x hx⟩, fun h => by cases h⟩
theorem Sfx8.lt (h : Sfx8 w B v bs) : ∀ k, v.ownBlock = some k → B ≤ k ∧ k < w.heap.size := by
  rcases h with ⟨rfl, rfl⟩ | ⟨g, off, cap, cur, rfl, hB, hg, _⟩
  · intro k hk; cases hk
  · intro k hk
    injection hk with hk
    subst hk
    exact ⟨hB, hg.lt⟩
theorem Sfx8.stays {S : Nat → Prop} (h : Sfx8 w B v bs) (hs : Stays S w w') (hn : ∀ k, v.ownBlock = some k → ¬ S k) : Sfx8 w' B v bs := by
  rcases h with h | ⟨g, off, cap, cur, rfl, hB, hg, h1⟩
  · exact .inl h
  · exact .inr ⟨g, off, cap, cur, rfl, hB, hg.stays hs (hn g rfl), h1⟩
theorem Sfx8.fut (h : Sfx8 w B v bs) (hb : Below w.heap.size w w') : Sfx8 w' B v bs := h.stays (Stays.of_below hb (Nat.le_refl _) (fun _ => False)) (fun _ _ h => h)
theorem Sfx8.mono {B' : Nat} (h : Sfx8 w B v bs) (hB : B' ≤ B) : Sfx8 w B' v bs := by
  rcases h with h | ⟨g, off, cap, cur, rfl, h0, h1⟩
  · exact .inl h
  · exact .inr ⟨g, off, cap, cur, rfl, Nat.le_trans hB h0, h1⟩
/-- its block is of bytes -/
theorem Sfx8.apart {g : Nat} {t : TypeId} {cs : Array Value} (h : Sfx8 w B v bs) (hg : Blk w g t cs) (ht : t ≠ 5) : v.ownBlock ≠ some g := by
  rcases h with ⟨rfl, rfl⟩ | ⟨g', off, cap, cur, rfl, hB, hg', _⟩
  · intro h; cases h
  · intro h
    injection h with h
    subst h
    exact ht (hg.inj hg').1
theorem Sfx8.cut {p : Option Addr} {n c k : Nat} (h : Sfx8 w B (.slice p n c) bs) (hk : k ≤ n) : Sfx8 w B (.slice (cut8 p c k) (n - k) (c - k)) (bs.drop k) := by
  rcases h with ⟨e, rfl⟩ | ⟨g, off, cap, cur, e, hB, hg, h1, h2, h3, h4⟩
  · injection e with e1 e2 e3
    subst e1 e2 e3
    obtain rfl : k = 0 := by omega
    exact .inl ⟨rfl, rfl⟩
  · injection e with e1 e2 e3
    subst e1 e2 e3
    unfold cut8
    by_cases hc : c = k
    · subst hc
      rw [if_pos rfl, List.drop_of_length_le (by omega)]
      exact .inr ⟨g, off, 0, cur, by simp; omega, hB, hg, by simp, by simp [maxLen], by omega, fun i x hx => by cases hx⟩
    · rw [if_neg hc]
      refine .inr ⟨g, off + k, c - k, cur, by simp [Addr.add], hB, hg, by rw [List.length_drop]; omega, by omega, by omega, fun i x hx => ?_⟩
      rw [List.getElem?_drop] at hx
      rw [Nat.add_assoc]
      exact h4 _ x hx
theorem own_slice (p : Option Addr) (n c : Nat) : (Value.slice p n c).ownBlock = p.map (·.block) := by cases p <;> rfl
theorem own_cut8 (p : Option Addr) (c k : Nat) : (cut8 p c k).map (·.block) = p.map (·.block) := by
  unfold cut8
  split
  · rfl
  · cases p with
    | none => rfl
    | some a =>
      simp only [Option.map_some]
      unfold Addr.add
      split <;> rfl
end

set_option maxRecDepth 100000 in
theorem run_sfx8 (w : World) (ty : TypeId) (B : Nat) (v : Value) (as1 : List (BitVec 8)) (h : Sfx8 w B v as1) (p : Option Addr) (c : Nat) (bs : List (BitVec 8)) (hr : Row8 w p bs)
    (hlen : as1.length + bs.length ≤ 200000000000000) (hB : B ≤ w.heap.size) :
    ∃ v' w', (Builtin.append_ #[22, 22] ty #[v, .slice p bs.length c]).run Tryd.prog w = .ok v' w' ∧ Sfx8 w' B v' (as1 ++ bs) ∧ w.grownBy w' v.ownBlock ∧ (v'.ownBlock = v.ownBlock ∨ v'.ownBlock = some w.heap.size) := by
  obtain ⟨i0, hi, hz0, hz1, hz2⟩ := info_parts u8info
  by_cases hne : bs = []
  · subst hne
    refine ⟨v, w, ?_, by simpa using h, World.grownBy.refl w _, .inl rfl⟩
    rcases h with ⟨rfl, rfl⟩ | ⟨g, off, cap, cur, rfl, hB, hg, h1, _⟩
    · cases p <;> simp [Builtin.append_, run_underlying Tryd.underlying22, sizeOf, typeInfo, hi, Builtin.lenOf, Builtin.firstCells, loadCells, loadCellsFrom]
    · cases p <;> simp [Builtin.append_, run_underlying Tryd.underlying22, sizeOf, typeInfo, hi, Builtin.lenOf, Builtin.firstCells, h1, storeCells, loadCells, loadCellsFrom]
  · obtain ⟨b, so, rfl, _, hcell⟩ := hr hne
    have hpos : 0 < bs.length := List.length_pos_iff.2 hne
    have hcells : ∀ j u, (bs.map u8)[j]? = some u → w.cell? ((⟨b, so, none⟩ : Addr).add j) = some u := by
      intro j u hu
      rw [List.getElem?_map] at hu
      cases hx : bs[j]? with
      | none => rw [hx] at hu; cases hu
      | some x =>
        rw [hx] at hu
        injection hu with hu
        rw [Addr.add_lit, hcell j x hx, ← hu]
    have grown : ∀ (old : Nat), old < as1.length + bs.length → ∀ (row : Option Nat),
        Sfx8 (w.drew.alloc (.cells ((as1.map u8).toArray ++ (bs.map u8).toArray ++ Builtin.zeroCells (Value.int .u8 0).cells (grownCap w (as1.length + bs.length) old 5 - (as1.length + bs.length))) 5)) B
          (.slice (some ⟨w.heap.size, 0, none⟩) (as1.length + bs.length) (grownCap w (as1.length + bs.length) old 5)) (as1 ++ bs) ∧
        w.grownBy (w.drew.alloc (.cells ((as1.map u8).toArray ++ (bs.map u8).toArray ++ Builtin.zeroCells (Value.int .u8 0).cells (grownCap w (as1.length + bs.length) old 5 - (as1.length + bs.length))) 5)) row := by
      intro old ho row
      have hge := grownCap_ge w (as1.length + bs.length) old 5
      have hcm : grownCap w (as1.length + bs.length) old 5 ≤ maxLen := grownCap_le_maxLen w _ old _ (by simp only [maxLen]; omega)
      refine ⟨.inr ⟨w.heap.size, 0, _, _, by simp, hB, heap_alloc_new w.drew _, by simpa using hge, hcm, ?_, fun i x hx => ?_⟩, ⟨rfl, rfl, rfl, by simp, fun k hk _ => Below.heap_alloc w.drew _ k hk⟩⟩
      · have hz : (Value.int IntKind.u8 0).cells.size = 1 := rfl
        simp only [Array.size_append, List.size_toArray, size_zeroCells, hz, List.length_map]
        omega
      · have hl := (List.getElem?_eq_some_iff.1 hx).1
        rw [List.length_append] at hl
        rw [Nat.zero_add, Array.getElem?_append_left (by simp only [Array.size_append, List.size_toArray, List.length_map]; omega), ← Array.getElem?_toList, Array.toList_append, ← List.map_append, List.getElem?_map, hx]
        rfl
    rcases h with ⟨rfl, rfl⟩ | ⟨g, off, cap, cur, rfl, hBg, hg, h1, h2, h3, h4⟩
    · have hrun := run_append_nil (P := Tryd.prog) w 22 ty 5 i0 (.int .u8 0) Tryd.underlying22 hi hz0 ⟨b, so, none⟩ bs.length c (bs.map u8) (by rw [hz1]; simp) hcells hpos (by simp only [List.length_nil] at hlen; omega) (by rw [hz2]; simp only [List.length_nil] at hlen; omega)
      have hgr := grown 0 (by simp only [List.length_nil]; omega) (Value.ownBlock (.slice none 0 0))
      simp only [List.length_nil, Nat.zero_add, List.nil_append, List.map_nil, Array.empty_append] at hgr ⊢
      exact ⟨_, _, hrun, hgr.1, hgr.2, .inr rfl⟩
    · by_cases hroom : as1.length + bs.length ≤ cap
      · have hrun := run_append_room_cells (P := Tryd.prog) w 22 ty 5 i0 Tryd.underlying22 hi g off as1.length cap ⟨b, so, none⟩ bs.length c (bs.map u8) (by rw [hz1]; simp) hcells (map_u8_one _) hroom
          (fun j hj => by
            rw [hg.cell, Array.getElem?_eq_getElem (by simp [hz1] at hj ⊢; omega)]; rfl) (fun j hj => hg.frozen _)
        rw [hz1, Nat.mul_one] at hrun
        refine ⟨_, _, hrun, .inr ⟨g, off, cap, _, by simp, hBg, hg.setCells (bs.map u8) (off + as1.length), by simpa using hroom, h2, by rw [setAll_size]; exact h3, fun i x hx => ?_⟩, grown_setAll _ _ _ (World.grownBy.refl w _), .inl rfl⟩
        rcases Nat.lt_or_ge i as1.length with hlt | hge
        · rw [List.getElem?_append_left hlt] at hx
          rw [setAll_out _ _ _ _ (.inl (by omega))]
          exact h4 i x hx
        · rw [List.getElem?_append_right hge] at hx
          have := setAll_in (bs.map u8) (off + as1.length) cur (i - as1.length) (u8 x) (by rw [List.getElem?_map, hx]; rfl) (by simp; omega)
          rwa [show off + as1.length + (i - as1.length) = off + i by omega] at this
      · have hrun := run_append_grow (P := Tryd.prog) w 22 ty 5 i0 (.int .u8 0) Tryd.underlying22 hi hz0 ⟨g, off, none⟩ as1.length cap (as1.map u8) (by rw [hz1]; simp)
          (fun j u hu => by
            rw [List.getElem?_map] at hu
            cases hx : as1[j]? with
            | none => rw [hx] at hu; cases hu
            | some x =>
              rw [hx] at hu
              injection hu with hu
              rw [Addr.add_lit, hg.cell, h4 j x hx, ← hu])
          ⟨b, so, none⟩ bs.length c (bs.map u8) (by rw [hz1]; simp) hcells (by omega) (by omega) (growslice_fits_wide (by omega) (by rw [hz2]; omega))
        have hgr := grown cap (by omega) (some g)
        exact ⟨_, _, hrun, hgr.1, hgr.2, .inr rfl⟩

/-- append to bytes that wait, an arm -/
theorem wp_sfx8 {ops : Array Oper} {rest : List Oper} {o : Oper} {a : Act} {Q : Exit → Act → World → Prop} {w : World} (hgd : o.guard = none) (s x : Operand)
    (ho : o.op = .call { callee := .builtin .append, args := #[s, x], argTypes := #[22, 22] }) (B : Nat) (v : Value) (as1 : List (BitVec 8)) (hs : a.eval s = v) (hown : Sfx8 w B v as1)
    (p : Option Addr) (m c : Nat) (bs : List (BitVec 8)) (hx : a.eval x = .slice p m c) (hm : bs.length = m) (hr : Row8 w p bs)
    (hlen : as1.length + bs.length ≤ 200000000000000) (hB : B ≤ w.heap.size)
    (h : ∀ v' w', Sfx8 w' B v' (as1 ++ bs) → w.grownBy w' v.ownBlock → (v'.ownBlock = v.ownBlock ∨ v'.ownBlock = some w.heap.size) → wpList Tryd.prog ops Q rest (a.put o.dst v') w') : wpList Tryd.prog ops Q (o :: rest) a w := by
  subst hm
  obtain ⟨v', w', hrun, h2, h3, h4⟩ := run_sfx8 w o.type B v as1 hown p c bs hr hlen hB
  refine wpList_plain hgd fun K hK => ?_
  unfold Oper.wp execOp
  simp only [ho, resolve, invoke, builtin, Sem.run_bind, Sem.run_pure, Result.andThen_ok, List.map_toArray, List.map_cons, List.map_nil, hs, hx, hrun]
  exact hK _ _ (h v' w' h2 h3 h4)
/-- a cut of a slice: 's[k:]' -/
theorem slice_cut8 (w : World) (p : Option Addr) (m c k : Nat) (h : k ≤ m) :
    (Instr.sliceAt 22 (.slice p m c) (some (.int .i64 (k : Int))) none none).run Tryd.prog w = .ok (.slice (cut8 p c k) (m - k) (c - k)) w := by
  have hs : (sizeOf (Tryd.prog.elem 22)).run Tryd.prog w = .ok 1 w := by kernel_rfl
  have hu : Tryd.prog.underlying 22 = some (.slice (Tryd.prog.elem 22)) := by kernel_rfl
  rw [run_sliceAt_slice w _ _ _ _ _ hu, run_slice_l w _ _ _ _ hu _ _ (by omega) (by omega), hs]
  simp [Result.andThen, sliced, cut8]
/-- '[]byte{}' -/
theorem own_lit0 (w : World) (B : Nat) (hB : B ≤ w.heap.size) : Own8 (w.alloc (.cells #[] 5)) B (.slice (some ⟨w.heap.size, 0, none⟩) 0 0) [] :=
  ⟨rfl, .inr ⟨w.heap.size, 0, #[], rfl, hB, Blk.new w _ _, Nat.le_refl _, by unfold maxLen; omega, rfl, rfl⟩⟩
/-- the same at numbers of any kinds -/
theorem slice_lhk (w : World) (p : Option Addr) (m c l k : Nat) (kl kh : IntKind) (h1 : l ≤ k) (h2 : k ≤ c) :
    (Instr.sliceAt 22 (.slice p m c) (some (.int kl (l : Int))) (some (.int kh (k : Int))) none).run Tryd.prog w = .ok (.slice (cut8 p c l) (k - l) (c - l)) w := by
  have hs : (sizeOf (Tryd.prog.elem 22)).run Tryd.prog w = .ok 1 w := by kernel_rfl
  have hu : Tryd.prog.underlying 22 = some (.slice (Tryd.prog.elem 22)) := by kernel_rfl
  rw [run_sliceAt_slice w _ _ _ _ _ hu, run_slice_lh w _ _ _ _ hu _ _ _ _ (by omega) (by omega) (by omega), hs]
  simp [Result.andThen, sliced, cut8]
theorem slice_cutk (w : World) (p : Option Addr) (m c k : Nat) (kl : IntKind) (h : k ≤ m) :
    (Instr.sliceAt 22 (.slice p m c) (some (.int kl (k : Int))) none none).run Tryd.prog w = .ok (.slice (cut8 p c k) (m - k) (c - k)) w := by
  have hs : (sizeOf (Tryd.prog.elem 22)).run Tryd.prog w = .ok 1 w := by kernel_rfl
  have hu : Tryd.prog.underlying 22 = some (.slice (Tryd.prog.elem 22)) := by kernel_rfl
  rw [run_sliceAt_slice w _ _ _ _ _ hu, run_slice_l w _ _ _ _ hu _ _ (by omega) (by omega), hs]
  simp [Result.andThen, sliced, cut8]
/-- 's[l:k]' -/
theorem slice_lh8 (w : World) (p : Option Addr) (m c l k : Nat) (h1 : l ≤ k) (h2 : k ≤ c) :
    (Instr.sliceAt 22 (.slice p m c) (some (.int .i64 (l : Int))) (some (.int .i64 (k : Int))) none).run Tryd.prog w = .ok (.slice (cut8 p c l) (k - l) (c - l)) w := by
  have hs : (sizeOf (Tryd.prog.elem 22)).run Tryd.prog w = .ok 1 w := by kernel_rfl
  have hu : Tryd.prog.underlying 22 = some (.slice (Tryd.prog.elem 22)) := by kernel_rfl
  rw [run_sliceAt_slice w _ _ _ _ _ hu, run_slice_lh w _ _ _ _ hu _ _ _ _ (by omega) (by omega) (by omega), hs]
  simp [Result.andThen, sliced, cut8]
/-- the bytes of 's[l:k]' -/
theorem Row8.lh {w : World} {p : Option Addr} {bs : List (BitVec 8)} (h : Row8 w p bs) {k l c : Nat} (hc : bs.length ≤ c) : Row8 w (cut8 p c l) ((bs.take k).drop l) := Row8.drop (h.take k) (by rw [List.length_take]; omega)
theorem Row8.cut8 {w : World} {p : Option Addr} {bs : List (BitVec 8)} (h : Row8 w p bs) {k c : Nat} (hc : bs.length ≤ c) : Row8 w (cut8 p c k) (bs.drop k) := Row8.drop h hc
theorem cut8_none {p : Option Addr} {c k : Nat} (h : cut8 p c k = none) : p = none := by
  unfold cut8 at h
  split at h
  · exact h
  · cases p with
    | none => rfl
    | some a => cases h
end Go.Proofs.YtikjhnbehihbjaaDoor
