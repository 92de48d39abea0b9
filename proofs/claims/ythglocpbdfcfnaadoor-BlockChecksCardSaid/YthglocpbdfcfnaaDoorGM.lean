/- Slices of headers, slices of hashes, and a hash, read as data. · append of rows of N cells (structs, arrays) on a slice of the call's own, the source nil, empty or not. · block.pair: the walk. · A row of cells stored in the midst of a block; the tree of hashes, plain. · The tree of hashes, plain: one step of the root; hashes whose last ones are written once more. · header.ID, sporranref06.ID: the walks. · audit.Leads, sporranref24.Leads: the walks. · block.Merkle: the walk. · sporranref08.Merkle: the walk. -/
import Derived.Deep.Slices
import Derived.Maps.AppendAt
import Derived.Test.YthglocpbdfcfnaaDoorGH
import Derived.Test.YthglocpbdfcfnaaDoorGS
import Derived.Test.YthglocpbdfcfnaaDoorGB
import Derived.Test.YthglocpbdfcfnaaDoorGA
import Derived.Test.YthglocpbdfcfnaaDoorGZ
namespace Go.Proofs.YthglocpbdfcfnaaDoor
open Go.ChangeShapes Go.WideShapes Go.ChangeAt Go.RowKit

theorem hash_cells {H : Type} {enc : TypeId × Value → H} {w : World} {base : Nat} {spare : Nat → Bool} {held : Bool} (fuel : Nat) (cs : List Value) (x : DataW H × List MemPlace) (h : DataW.trod enc Tryd.prog w base spare held fuel 29 cs = some x) :
    ∃ y : List (BitVec 8), y.length = 32 ∧ cs = hCells y :=
  trod_bytes Tryd.underlying29 Tryd.underlying5 hashH_cells byteH_cells h
theorem okWide_array {P : Program} {w : World} {r : Reach} {base : Nat} {t : TypeId} {v : Value} {n : Nat} {e : TypeId} (ht : P.underlying t = some (.array n e)) (h : Value.okWide P w r base t v) : ∃ cs, v = .agg cs ∧ cs.size = P.cellsOf t := by
  simp only [Value.okWide, ht] at h
  obtain ⟨cs, h1, h2, _⟩ := h
  exact ⟨cs, h1, h2⟩
theorem open_hash {H : Type} {enc : TypeId × Value → H} {W : World} {cs : Array Value} {d0 : DataW H} {p : List MemPlace}
    (h0 : DataW.Trod enc Tryd.prog W 0 (fun _ => true) true 29 (.agg cs) d0 p) : ∃ y : List (BitVec 8), y.length = 32 ∧ cs = (hCells y).toArray := by
  obtain ⟨fuel, hf⟩ := h0
  obtain ⟨y, hy, e⟩ := hash_cells _ _ _ hf
  refine ⟨y, hy, ?_⟩
  rw [← e]
  simp [Value.cells]
theorem open_hashes {H : Type} {enc : TypeId × Value → H} {W : World} {a0 : Option Addr} {len cap : Nat} {d0 : DataW H} {p : List MemPlace}
    (h0 : DataW.Trod enc Tryd.prog W 0 (fun _ => true) true 47 (.slice a0 len cap) d0 p) :
    ∃ hs : List (List (BitVec 8)), hs.length = len ∧ (∀ h ∈ hs, h.length = 32) ∧ len ≤ cap ∧ cap ≤ maxLen ∧ RowsN 32 W a0 (hs.map hCells) ∧ (a0 = none → cap = 0) ∧ (cap = 0 ∨ ∃ els sp, d0 = .slice els sp ∧ els.length + sp.length = cap) :=
  open_rows (n := 32) hCells (fun y => y.length = 32) (fun x hx => by simp [hCells, hx]) (by omega) Tryd.underlying47 (by kernel_rfl) (fun fuel cs x h => hash_cells fuel cs x h) h0
end Go.Proofs.YthglocpbdfcfnaaDoor
namespace Go.Proofs.YthglocpbdfcfnaaDoor
open Go.RowKit

theorem flatten_at {α : Type} (N : Nat) (hN : 0 < N) : ∀ (ls : List (List α)) (j : Nat), (∀ cs ∈ ls, cs.length = N) → ls.flatten[j]? = (ls[j / N]?).bind (·[j % N]?)
  | [], j, _ => by simp
  | cs :: ls, j, h => by
    have hl := h cs (by simp)
    rw [List.flatten_cons]
    rcases Nat.lt_or_ge j N with hj | hj
    · rw [List.getElem?_append_left (by omega), Nat.div_eq_of_lt hj, Nat.mod_eq_of_lt hj]; rfl
    · rw [List.getElem?_append_right (by omega), hl, flatten_at N hN ls (j - N) (fun c hc => h c (by simp [hc]))]
      obtain ⟨q, rfl⟩ : ∃ q, j = q + N := ⟨j - N, by omega⟩
      rw [Nat.add_sub_cancel, Nat.add_div_right _ hN, Nat.add_mod_right, List.getElem?_cons_succ]
theorem flatten_len {α : Type} (N : Nat) : ∀ (ls : List (List α)), (∀ cs ∈ ls, cs.length = N) → ls.flatten.length = ls.length * N
  | [], _ => by simp
  | cs :: ls, h => by
    rw [List.flatten_cons, List.length_append, h cs (by simp), flatten_len N ls (fun c hc => h c (by simp [hc])), List.length_cons, Nat.add_mul]; omega
theorem RowsN.lens {N : Nat} {w : World} {p : Option Addr} {ls : List (List Value)} (h : RowsN N w p ls) : ∀ cs ∈ ls, cs.length = N := fun cs hc => by
  obtain ⟨b, off, _, _, hall⟩ := h (by intro e; rw [e] at hc; cases hc)
  obtain ⟨i, hi⟩ := List.getElem?_of_mem hc
  exact (hall i cs hi).1

theorem run_append_row {P : Program} (w : World) (t ty e : TypeId) (N bytes : Nat) (i0 : TypeInfo) (z : Value) (ht : P.underlying t = some (.slice e)) (hi : P.info? e = some i0) (hz : i0.zero = some z) (hsize : i0.size = N) (hby : i0.bytes = bytes) (hzs : z.cells.size = N) (hN : 0 < N)
    (B : Nat) (v : Value) (n : Nat) (xs : List Value) (hown : w.ownsRow B e N v n xs) (p : Option Addr) (m c : Nat) (ls : List (List Value)) (hr : RowsN N w p ls) (hm : ls.length = m) (h1 : ∀ u ∈ ls.flatten, u.oneCell' = true)
    (hlen : (n + m) * bytes ≤ 140737488355328) (h63 : n + m ≤ maxLen) (hB : B ≤ w.heap.size) :
    ∃ v' w', (Builtin.append_ #[t, t] ty #[v, .slice p m c]).run P w = .ok v' w' ∧ w'.ownsRow B e N v' (n + m) (xs ++ ls.flatten) ∧ w.grownBy w' v.ownBlock ∧ (v'.ownBlock = v.ownBlock ∨ v'.ownBlock = some w.heap.size) := by
  cases p with
  | none =>
    have hn : ls = [] := by
      by_cases h : ls = []
      · exact h
      · obtain ⟨b, off, e, _⟩ := hr h
        cases e
    subst hn
    obtain rfl : m = 0 := by simpa using hm.symm
    refine ⟨v, w, ?_, by simpa using hown, World.grownBy.refl w _, .inl rfl⟩
    rcases hown.2 with ⟨rfl, h0⟩ | ⟨g, cap, cur, rfl, _, _, hnc, _⟩
    · subst h0
      simp [Builtin.append_, run_underlying ht, sizeOf, typeInfo, hi, Builtin.lenOf, Builtin.firstCells]
    · simp [Builtin.append_, run_underlying ht, sizeOf, typeInfo, hi, Builtin.lenOf, Builtin.firstCells, hnc, storeCells]
  | some ad =>
    have hcells : ∀ j u, ls.flatten[j]? = some u → w.cell? (ad.add j) = some u := by
      intro j u hu
      have hne : ls ≠ [] := by intro e; rw [e] at hu; cases hu
      obtain ⟨b, off, e, _, hall⟩ := hr hne
      injection e with e
      subst e
      rw [flatten_at N hN ls j hr.lens] at hu
      cases hq : ls[j / N]? with
      | none => rw [hq] at hu; cases hu
      | some cs =>
        rw [hq] at hu
        have := (hall _ cs hq).2 (j % N) u hu
        rw [Addr.add_lit]
        rw [show off + j / N * N + j % N = off + j by rw [Nat.add_assoc, Nat.div_add_mod' j N]] at this
        exact this
    obtain ⟨v', w', hrun, h2, h3, _, h5⟩ := run_append_own_at (P := P) w B t ty e i0 z N bytes ht hi hz hsize hby hzs hN v n xs hown ad m c ls.flatten (by rw [flatten_len N ls hr.lens, hm]) hcells h1 h63 hlen hB
    exact ⟨v', w', hrun, h2, h3, h5⟩

/-- append of rows in a plain region -/
theorem wp_append_row {P : Program} {ops : Array Oper} {rest : List Oper} {o : Oper} {a : Act} {Q : Exit → Act → World → Prop} {w : World} (hgd : o.guard = none) (s x : Operand) (t e : TypeId)
    (ho : o.op = .call { callee := .builtin .append, args := #[s, x], argTypes := #[t, t] }) (N bytes : Nat) (z : Value) (ht : P.underlying t = some (.slice e)) (hinfo : (P.info? e).map (fun i => (i.zero, i.size, i.bytes)) = some (some z, N, bytes)) (hzs : z.cells.size = N) (hN : 0 < N)
    (B : Nat) (v : Value) (n : Nat) (xs : List Value) (hs : a.eval s = v) (hown : w.ownsRow B e N v n xs) (p : Option Addr) (m c : Nat) (ls : List (List Value)) (hx : a.eval x = .slice p m c) (hm : ls.length = m) (hr : RowsN N w p ls) (h1 : ∀ u ∈ ls.flatten, u.oneCell' = true)
    (hlen : (n + m) * bytes ≤ 140737488355328) (h63 : n + m ≤ maxLen) (hB : B ≤ w.heap.size) (B0 : Nat) (w0 : World) (hb : Below B0 w0 w) (hB0 : B0 ≤ B)
    (h : ∀ v' w', w'.ownsRow B e N v' (n + m) (xs ++ ls.flatten) → Below B0 w0 w' → w.grownBy w' v.ownBlock → (v'.ownBlock = v.ownBlock ∨ v'.ownBlock = some w.heap.size) → wpList P ops Q rest (a.put o.dst v') w') : wpList P ops Q (o :: rest) a w := by
  obtain ⟨i0, hi, hz0, hz1, hz2⟩ := info_parts hinfo
  obtain ⟨v', w', hrun, h2, h3, h4⟩ := run_append_row w t o.type e N bytes i0 z ht hi hz0 hz1 hz2 hzs hN B v n xs hown p m c ls hr hm h1 hlen h63 hB
  refine wpList_plain hgd fun K hK => ?_
  unfold Oper.wp execOp
  simp only [ho, resolve, invoke, builtin, Sem.run_bind, Sem.run_pure, Result.andThen_ok, List.map_toArray, List.map_cons, List.map_nil, hs, hx, hrun]
  refine hK _ _ (h v' w' h2 (hb.grown h3 (Nat.le_trans hB0 hB) fun k hk => ?_) h3 h4)
  exact Nat.le_trans hB0 (World.ownsRow.lt hown k hk).1
end Go.Proofs.YthglocpbdfcfnaaDoor
namespace Go.Proofs.YthglocpbdfcfnaaDoor
open Go.RowKit

/-- the hash of two -/
def pairH (a b : List (BitVec 8)) : List (BitVec 8) := sha (sha (a ++ b))
theorem pairH_len (a b : List (BitVec 8)) : (pairH a b).length = 32 := sha_len _
theorem zero64b : ∀ w, (zeroValue 102).run Tryd.prog w = .ok (.agg (hCells (noughts 64)).toArray) w := zero_of2 (by kernel_rfl)

set_option maxRecDepth 100000 in
set_option maxHeartbeats 4000000 in
theorem pair_any (a b : List (BitVec 8)) (w : World) (ha : a.length = 32) (hb : b.length = 32) (hK : Laid w) :
    Calls Tryd.prog 63 #[.agg (hCells a).toArray, .agg (hCells b).toArray] w fun e w' => e = .returned (.agg (hCells (pairH a b)).toArray) ∧ Below w.heap.size w w' := by
  have HA := Lib.hid ha
  have HB := Lib.hid hb
  have HK := Lib.hid hK
  have hKs := hK.size
  obtain ⟨A, hA⟩ : ∃ x, x = (hCells a).toArray := ⟨_, rfl⟩
  obtain ⟨B, hB⟩ : ∃ x, x = (hCells b).toArray := ⟨_, rfl⟩
  rw [← hA, ← hB]
  have hz := zero32
  obtain ⟨Y, hY⟩ : ∃ Y, Y = ((noughts 32).map u8).toArray := ⟨_, rfl⟩
  rw [← hY] at hz
  have HYS : Hid (Y.size = 32) := Lib.hid (by rw [hY]; rfl)
  have hz64 := zero64b
  obtain ⟨Z, hZ⟩ : ∃ Z, Z = (hCells (noughts 64)).toArray := ⟨_, rfl⟩
  rw [← hZ] at hz64
  obtain ⟨V, hV⟩ : ∃ V, V = pairH a b := ⟨_, rfl⟩
  rw [← hV]
  have HV := Lib.hid hV
  have HVL : Hid (V.length = 32) := Lib.hid (by rw [hV]; exact pairH_len a b)
  have HAA := Lib.hid hA
  have HBB := Lib.hid hB
  have HZ := Lib.hid hZ
  clear ha hb hK hA hB hY hZ hV
  go_enter Tryd.func63, Tryd.ntmps63
  go_upto_region 2 with fail
  refine wp_abst (fun w' => Hid (Blk w' w.heap.size 29 (hCells a).toArray) ∧ Hid (Blk w' (w.heap.size + 1) 29 (hCells b).toArray) ∧ Hid (Blk w' (w.heap.size + 2) 29 Y) ∧ Hid (Blk w' (w.heap.size + 3) 102 (hCells (noughts 64)).toArray) ∧ Below w.heap.size w w') ⟨?_, ?_, ?_, ?_, ?_⟩ ?_
  · exact Lib.hid (by rw [← HAA.out]; exact (((Blk.new w _ _).alloc _).alloc _).alloc _)
  · exact Lib.hid (by rw [← HBB.out]; exact ((Blk.new2 w _ _ _).alloc _).alloc _)
  · exact Lib.hid ((by have := Blk.new ((w.alloc (.cells A 29)).alloc (.cells B 29)) 29 Y; simp only [World.size_alloc] at this; exact this.alloc _))
  · exact Lib.hid (by rw [← HZ.out]; have := Blk.new (((w.alloc (.cells A 29)).alloc (.cells B 29)).alloc (.cells Y 29)) 102 Z; simp only [World.size_alloc] at this; exact this)
  · exact ((((Below.refl _ _).alloc (Nat.le_refl _) _).alloc (by simp) _).alloc (by simp; omega) _).alloc (by simp; omega) _
  rintro w1 ⟨ha1, hb1, hy1, hx1, hbel1⟩
  have hlt1 := hx1.out.lt
  refine quiet_tail 2 (by kernel_rfl) (by kernel_rfl) ?_
  simp only [List.take_succ_cons, List.take_zero, List.drop_succ_cons, List.drop_zero]
  iterate 2 (go_big_quiet_step (fail))
  refine wpQuiet_nil ?_
  rintro _ ⟨nq, rfl⟩
  have hsp1 : Hid (splice (hCells (noughts 64)) 0 ((a.take 64).map Go.Proofs.YthglocpbdfcfnaaDoor.u8) = hCells (a ++ noughts 32)) := Lib.hid (by
    rw [List.take_of_length_le (by rw [HA.out]; omega)]
    unfold splice hCells
    rw [List.take_zero, List.nil_append, List.length_map, HA.out, List.map_append]
    rfl)
  refine wp_copy8g (o := ⟨some 8, _, _, _, _, _⟩) rfl (.tmp 6) (.tmp 7) 38 38 rfl 5 Tryd.underlying38 (by kernel_rfl) 64 64 32 32 (some ⟨w.heap.size, 0, none⟩) a (w.heap.size + 3) 0 rfl rfl HA.out (hCells_row (ha1.out.drewN nq)) (hCells (noughts 64)) _ (hx1.out.drewN nq) 32 rfl (by simp [hCells, noughts]) ?_
  intro w2 hx2 hg2 hs2
  rw [hsp1.out] at hx2
  have hb2 := Lib.hid ((hb1.out.drewN nq).kept hg2 (by omega))
  have hy2 := Lib.hid ((hy1.out.drewN nq).kept hg2 (by omega))
  have hbel2 := (below_drewN hbel1 nq).grown hg2 (below_drewN hbel1 nq).size (fun k hk => by injection hk with hk; omega)
  clear ha1 hb1 hy1 hx1 hbel1 hg2 hs2 hsp1
  go_upto_region 3 with fail
  refine quiet_tail 2 (by kernel_rfl) (by kernel_rfl) ?_
  simp only [List.take_succ_cons, List.take_zero, List.drop_succ_cons, List.drop_zero, put_some, List.setIfInBounds_toArray, List.set_cons_succ, List.set_cons_zero]
  iterate 2 (go_big_quiet_step (fail))
  refine wpQuiet_nil ?_
  rintro _ ⟨nq2, rfl⟩
  have hsp2 : Hid (splice (hCells (a ++ noughts 32)) 32 ((b.take 32).map Go.Proofs.YthglocpbdfcfnaaDoor.u8) = hCells (a ++ b)) := Lib.hid (by
    rw [List.take_of_length_le (by rw [HB.out]; omega)]
    unfold splice hCells
    rw [List.map_append, List.take_left' (by rw [List.length_map, HA.out]), List.length_map, HB.out, List.drop_of_length_le (by simp [HA.out, noughts]), List.append_nil, List.map_append])
  refine wp_copy8g (o := ⟨some 11, _, _, _, _, _⟩) rfl (.tmp 9) (.tmp 10) 38 38 rfl 5 Tryd.underlying38 (by kernel_rfl) 32 32 32 32 (some ⟨w.heap.size + 1, 0, none⟩) b (w.heap.size + 3) 32 rfl rfl HB.out (hCells_row (hb2.out.drewN nq2)) (hCells (a ++ noughts 32)) _ (hx2.out.drewN nq2) 32 rfl (by simp [hCells, HA.out, noughts]) ?_
  intro w3 hx3 hg3 hs3
  rw [hsp2.out] at hx3
  have hy3 := Lib.hid ((hy2.out.drewN nq2).kept hg3 (by omega))
  have hbel3 := (below_drewN hbel2 nq2).grown hg3 (below_drewN hbel2 nq2).size (fun k hk => by injection hk with hk; omega)
  clear hb2 hy2 hx2 hbel2 hg3 hs3 hsp2
  have hlen : Hid ((a ++ b).length = 64) := Lib.hid (by rw [List.length_append, HA.out, HB.out])
  go_wp2_with fail
  refine (shaDouble_any (some ⟨w.heap.size + 3, 0, none⟩) 64 64 (a ++ b) w3 (HK.out.below hbel3 hKs) (hCells_row hx3.out) hlen.out (by omega) (by omega) (by omega)).mono ?_
  rw [show hCells (sha (sha (a ++ b))) = hCells V from by rw [HV.out]; rfl]
  rintro e w4 ⟨rfl, hbel4⟩
  have hy4 := Lib.hid (hy3.out.below hbel4 hy3.out.lt)
  have hbw4 := hbel3.trans (hbel4.mono hbel3.size)
  go_wp2_with (with_reducible refine wp_store_blk (o := ⟨none, _, _, _, _, _⟩) ?_ 29 (.tmp 4) (.tmp 13) ?_ (w.heap.size + 2) 29 Y (hCells V).toArray ?_ ?_ hy4.out ?_ ?_ ?_ w.heap.size w hbw4 ?_ ?_
               · rfl
               · rfl
               · rfl
               · rfl
               · exact hCells_info' HVL.out
               · exact HYS.out.trans (by rw [List.size_toArray, hCells, List.length_map, HVL.out])
               · exact hCells_one V
               · omega
               intro w5 hz5 hb5 _ _)
  refine bodyPost_ret (results_cell1 rfl _ _ _ (w.heap.size + 2) _ (hCells V) _ rfl hz5.out Tryd.underlying29 rfl (hCells_info HVL.out)) rfl ?_
  exact ⟨rfl, hb5⟩
end Go.Proofs.YthglocpbdfcfnaaDoor
namespace Go.Proofs.YthglocpbdfcfnaaDoor
open Go.RowKit

theorem grown_setCells (b : Nat) : ∀ (vs : List Value) (o : Nat) (w w' : World), w.grownBy w' (some b) → w.grownBy (w'.setCells b o vs) (some b) ∧ (w'.setCells b o vs).heap.size = w'.heap.size
  | [], _, _, _, h => ⟨h, rfl⟩
  | v :: r, o, w, w', h => by
    have := grown_setCells b r (o + 1) w (w'.setCell ⟨b, o, none⟩ v) (grown_setCell h o v)
    exact ⟨this.1, this.2.trans (by simp [World.setCell])⟩
/-- a row of cells stored in the midst of a block: what is known of the world behind it -/
theorem wp_store_row {P : Program} {ops : Array Oper} {rest : List Oper} {op : Oper} {a : Act} {w : World} {Q : Exit → Act → World → Prop} (hgd : op.guard = none) (ty : TypeId) (x y : Operand) (ho : op.op = .store ty x y)
    (b o : Nat) (cells : Array Value) (hx : a.eval x = .pointer (some ⟨b, o, none⟩)) (hy : a.eval y = .agg cells)
    (ht : w.there b o cells.size) (hi : (P.info? ty).map (·.size) = some cells.size) (h1 : cells.all (·.oneCell') = true)
    (h : ∀ w', w'.rangeAt b o cells.toList → (∀ o' cs, w.rangeAt b o' cs → (o' + cs.length ≤ o ∨ o + cells.size ≤ o') → w'.rangeAt b o' cs) → (∀ o' n, w.there b o' n → w'.there b o' n) → w.grownBy w' (some b) → w'.heap.size = w.heap.size → wpList P ops Q rest (a.put op.dst undef) w') : wpList P ops Q (op :: rest) a w :=
  wpList_store_mid hgd ty x y ho b o cells hx hy ht hi h1
    (h _ (World.rangeAt_setCells_same w b o cells.toList (by simpa using ht)) (fun o' cs hr hap => World.rangeAt_setCells_apart hr b o cells.toList (.inr (by simpa using hap))) (fun o' n hh => World.there_setCells hh b o cells.toList)
      (grown_setCells b cells.toList o w w (World.grownBy.refl w _)).1 (grown_setCells b cells.toList o w w (World.grownBy.refl w _)).2)

def hA (l : List (List (BitVec 8))) (i : Nat) : List (BitVec 8) := l[i]?.getD (noughts 32)
/-- the hash over pair j -/
def upAt (l : List (List (BitVec 8))) (j : Nat) : List (BitVec 8) := pairH (hA l (2 * j)) (hA l (min (2 * j + 1) (l.length - 1)))
def upTo (l : List (List (BitVec 8))) (j : Nat) : List (List (BitVec 8)) := (List.range j).map (upAt l)
def up (l : List (List (BitVec 8))) : List (List (BitVec 8)) := upTo l ((l.length + 1) / 2)
/-- whether pair j is of two equal ones -/
def othAt (l : List (List (BitVec 8))) (j : Nat) : Bool := decide (2 * j + 1 < l.length) && decide (hA l (2 * j) = hA l (2 * j + 1))
def othTo (l : List (List (BitVec 8))) (j : Nat) : Bool := (List.range j).any (othAt l)
def oth (l : List (List (BitVec 8))) : Bool := othTo l ((l.length + 1) / 2)
def merkN : Nat → List (List (BitVec 8)) → Bool → List (BitVec 8) × Bool
  | 0, l, o => (hA l 0, o)
  | f + 1, l, o => if l.length ≤ 1 then (hA l 0, o) else merkN f (up l) (o || oth l)
/-- the root of hashes, and whether it may be of others -/
def merkP (l : List (List (BitVec 8))) : List (BitVec 8) × Bool := if l.length = 0 then (noughts 32, false) else merkN l.length l false
theorem upTo_len (l : List (List (BitVec 8))) (j : Nat) : (upTo l j).length = j := by simp [upTo]
theorem up_len (l : List (List (BitVec 8))) : (up l).length = (l.length + 1) / 2 := upTo_len _ _
theorem upTo_succ (l : List (List (BitVec 8))) (j : Nat) : upTo l (j + 1) = upTo l j ++ [upAt l j] := by simp [upTo, List.range_succ]
theorem othTo_succ (l : List (List (BitVec 8))) (j : Nat) : othTo l (j + 1) = (othTo l j || othAt l j) := by unfold othTo; rw [List.range_succ, List.any_append]; simp
theorem upTo_ok (l : List (List (BitVec 8))) (j : Nat) : ∀ x ∈ upTo l j, x.length = 32 := fun x hx => by
  obtain ⟨k, _, rfl⟩ := List.mem_map.1 hx
  exact pairH_len _ _
theorem hA_len {l : List (List (BitVec 8))} (h : ∀ x ∈ l, x.length = 32) (i : Nat) : (hA l i).length = 32 := by
  unfold hA
  cases hx : l[i]? with
  | none => rfl
  | some x => exact h x (List.mem_of_getElem? hx)
theorem hA_some {l : List (List (BitVec 8))} {i : Nat} (h : i < l.length) : l[i]? = some (hA l i) := by unfold hA; rw [List.getElem?_eq_getElem h]; rfl
/-- enough fuel is enough -/
theorem merkN_fuel : ∀ (f g : Nat) (l : List (List (BitVec 8))) (o : Bool), l.length ≤ f → l.length ≤ g → merkN f l o = merkN g l o
  | 0, 0, _, _, _, _ => rfl
  | 0, g + 1, l, o, hf, _ => by unfold merkN; rw [if_pos (by omega)]
  | f + 1, 0, l, o, _, hg => by unfold merkN; rw [if_pos (by omega)]
  | f + 1, g + 1, l, o, hf, hg => by
    unfold merkN
    split
    · rfl
    · exact merkN_fuel f g (up l) _ (by rw [up_len]; omega) (by rw [up_len]; omega)
theorem merkN_or : ∀ (f : Nat) (l : List (List (BitVec 8))) (o : Bool), merkN f l o = ((merkN f l false).1, o || (merkN f l false).2)
  | 0, l, o => by simp [merkN]
  | f + 1, l, o => by
    unfold merkN
    split
    · simp
    · rw [merkN_or f (up l) (o || oth l), merkN_or f (up l) (false || oth l)]
      simp [Bool.or_assoc]
theorem merkN_step {f : Nat} {l : List (List (BitVec 8))} {o : Bool} (h1 : 1 < l.length) (hf : l.length ≤ f) : merkN f l o = merkN f (up l) (o || oth l) := by
  obtain ⟨g, rfl⟩ : ∃ g, f = g + 1 := ⟨f - 1, by omega⟩
  rw [show merkN (g + 1) l o = merkN g (up l) (o || oth l) by rw [merkN, if_neg (by omega)]]
  exact merkN_fuel _ _ _ _ (by rw [up_len]; omega) (by rw [up_len]; omega)
end Go.Proofs.YthglocpbdfcfnaaDoor
namespace Go.Proofs.YthglocpbdfcfnaaDoor
open Go.RowKit

theorem merkP_step {l : List (List (BitVec 8))} (h : 1 < l.length) : merkP l = ((merkP (up l)).1, oth l || (merkP (up l)).2) := by
  have hu : (up l).length ≠ 0 := by rw [up_len]; omega
  unfold merkP
  rw [if_neg (by omega), if_neg hu, merkN_step h (Nat.le_refl _), merkN_or]
  rw [merkN_fuel l.length (up l).length (up l) false (by rw [up_len]; omega) (Nat.le_refl _), Bool.false_or]
theorem merkP_one {l : List (List (BitVec 8))} (h : l.length = 1) : merkP l = (hA l 0, false) := by
  unfold merkP
  rw [if_neg (by omega), h]
  unfold merkN
  rw [if_pos (by omega)]
theorem hA_left {a b : List (List (BitVec 8))} {i : Nat} (h : i < a.length) : hA (a ++ b) i = hA a i := by unfold hA; rw [List.getElem?_append_left h]
theorem hA_right {a b : List (List (BitVec 8))} {i : Nat} (h : a.length ≤ i) : hA (a ++ b) i = hA b (i - a.length) := by unfold hA; rw [List.getElem?_append_right h]
theorem hA_drop (l : List (List (BitVec 8))) (k i : Nat) : hA (l.drop k) i = hA l (k + i) := by unfold hA; rw [List.getElem?_drop]
theorem upTo_get (l : List (List (BitVec 8))) (m i : Nat) : (upTo l m)[i]? = if i < m then some (upAt l i) else none := by
  unfold upTo
  rw [List.getElem?_map]
  by_cases h : i < m
  · rw [if_pos h, List.getElem?_range h]; rfl
  · rw [if_neg h, List.getElem?_eq_none (by simpa using h)]; rfl
def twice (l : List (List (BitVec 8))) (w : Nat) : List (List (BitVec 8)) := l ++ l.drop (l.length - w)
theorem twice_len {l : List (List (BitVec 8))} {w : Nat} (h : w ≤ l.length) : (twice l w).length = l.length + w := by unfold twice; rw [List.length_append, List.length_drop]; omega
theorem up_twice {l : List (List (BitVec 8))} {a b : Nat} (hl : l.length = 2 * a) (hb : b ≤ a) : up (twice l (2 * b)) = twice (up l) b := by
  have hul : (up l).length = a := by rw [up_len]; omega
  have htl : (twice l (2 * b)).length = 2 * a + 2 * b := by rw [twice_len (by omega), hl]
  refine List.ext_getElem? fun i => ?_
  rw [up, htl, show (2 * a + 2 * b + 1) / 2 = a + b by omega, upTo_get]
  by_cases h : i < a
  · rw [if_pos (by omega)]
    unfold twice
    rw [List.getElem?_append_left (by omega), up, hl, show (2 * a + 1) / 2 = a by omega, upTo_get, if_pos h]
    have e1 : hA (l ++ l.drop (l.length - 2 * b)) (2 * i) = hA l (2 * i) := hA_left (by omega)
    have e2 : hA (l ++ l.drop (l.length - 2 * b)) (min (2 * i + 1) ((l ++ l.drop (l.length - 2 * b)).length - 1)) = hA l (min (2 * i + 1) (l.length - 1)) := by
      have : (l ++ l.drop (l.length - 2 * b)).length = 2 * a + 2 * b := htl
      rw [this, show min (2 * i + 1) (2 * a + 2 * b - 1) = 2 * i + 1 by omega, show min (2 * i + 1) (l.length - 1) = 2 * i + 1 by omega, hA_left (by omega)]
    unfold upAt
    rw [hl] at e1 e2
    rw [hl, e1, e2]
  · unfold twice
    rw [List.getElem?_append_right (by omega), hul, List.getElem?_drop, up, hl, show (2 * a + 1) / 2 = a by omega, upTo_get]
    by_cases h2 : i < a + b
    · rw [if_pos h2, if_pos (by omega)]
      have e1 : hA (l ++ l.drop (l.length - 2 * b)) (2 * i) = hA l (2 * (a - b + (i - a))) := by
        rw [hA_right (by omega), hA_drop, hl]; congr 1; omega
      have e2 : hA (l ++ l.drop (l.length - 2 * b)) (min (2 * i + 1) ((l ++ l.drop (l.length - 2 * b)).length - 1)) = hA l (min (2 * (a - b + (i - a)) + 1) (l.length - 1)) := by
        have : (l ++ l.drop (l.length - 2 * b)).length = 2 * a + 2 * b := htl
        rw [this, hA_right (by omega), hA_drop, hl]; congr 1; omega
      unfold upAt
      rw [hl] at e1 e2
      rw [hl, e1, e2]
    · rw [if_neg h2, if_neg (by omega)]
theorem up_last {l : List (List (BitVec 8))} {m : Nat} (hl : l.length = 2 * m + 1) : up (twice l 1) = up l ∧ oth (twice l 1) = true := by
  have htl : (twice l 1).length = 2 * m + 2 := by rw [twice_len (by omega), hl]
  have htl' : (l ++ l.drop (l.length - 1)).length = 2 * m + 2 := htl
  have hlast : hA (twice l 1) (2 * m + 1) = hA l (2 * m) := by
    unfold twice
    rw [hA_right (by omega), hA_drop]; congr 1; omega
  have hleft : ∀ i, i ≤ 2 * m → hA (twice l 1) i = hA l i := fun i hi => hA_left (by omega)
  constructor
  · refine List.ext_getElem? fun i => ?_
    rw [up, htl, up, hl, show (2 * m + 2 + 1) / 2 = m + 1 by omega, show (2 * m + 1 + 1) / 2 = m + 1 by omega, upTo_get, upTo_get]
    by_cases h : i < m + 1
    · rw [if_pos h, if_pos h]
      have e2 : hA (twice l 1) (min (2 * i + 1) ((twice l 1).length - 1)) = hA l (min (2 * i + 1) (l.length - 1)) := by
        rw [htl, hl]
        by_cases hi : i = m
        · subst hi
          rw [show min (2 * i + 1) (2 * i + 2 - 1) = 2 * i + 1 by omega, show min (2 * i + 1) (2 * i + 1 - 1) = 2 * i by omega, hlast]
        · rw [show min (2 * i + 1) (2 * m + 2 - 1) = 2 * i + 1 by omega, show min (2 * i + 1) (2 * m + 1 - 1) = 2 * i + 1 by omega, hleft _ (by omega)]
      unfold upAt
      rw [e2, hleft _ (by omega)]
    · rw [if_neg h, if_neg h]
  · unfold oth
    rw [htl, show (2 * m + 2 + 1) / 2 = m + 1 by omega, othTo_succ]
    unfold othAt
    rw [htl, hlast, hleft _ (by omega)]
    simp
theorem merk_twice (n : Nat) (hn : n % 2 = 1) (hn3 : 3 ≤ n) : ∀ (k : Nat) (l : List (List (BitVec 8))), l.length = n * 2 ^ k → merkP (twice l (2 ^ k)) = ((merkP l).1, true)
  | 0, l, hl => by
    rw [Nat.pow_zero, Nat.mul_one] at hl
    obtain ⟨m, hm⟩ : ∃ m, n = 2 * m + 1 := ⟨n / 2, by omega⟩
    have hu := up_last (l := l) (m := m) (by omega)
    rw [Nat.pow_zero, merkP_step (l := twice l 1) (by rw [twice_len (by omega)]; omega), merkP_step (l := l) (by omega), hu.1, hu.2]
    simp
  | k + 1, l, hl => by
    have hp : 0 < 2 ^ k := Nat.two_pow_pos k
    have hnp : 2 ^ k ≤ n * 2 ^ k := Nat.le_mul_of_pos_left _ (by omega)
    have hl2 : l.length = 2 * (n * 2 ^ k) := by rw [hl, Nat.pow_succ]; simp [Nat.mul_comm, Nat.mul_left_comm]
    have hu : up (twice l (2 ^ (k + 1))) = twice (up l) (2 ^ k) := by
      rw [show 2 ^ (k + 1) = 2 * 2 ^ k by rw [Nat.pow_succ, Nat.mul_comm]]
      exact up_twice hl2 hnp
    have h1 : 1 < l.length := by omega
    have h2 : 1 < (twice l (2 ^ (k + 1))).length := by unfold twice; rw [List.length_append]; omega
    rw [merkP_step h2, merkP_step h1, hu, merk_twice n hn hn3 k (up l) (by rw [up_len, hl2]; omega)]
    simp
end Go.Proofs.YthglocpbdfcfnaaDoor
namespace Go.Proofs.YthglocpbdfcfnaaDoor
open Go.RowKit

/-- a header's hash -/
def hid (h : Hdr) : List (BitVec 8) := sha (sha h.bytes)
theorem hid_len (h : Hdr) : (hid h).length = 32 := sha_len _

end Go.Proofs.YthglocpbdfcfnaaDoor
namespace Go.Proofs.YthglocpbdfcfnaaDoor
open Go.RowKit

def hAt (hs : List Hdr) (i : Nat) : Hdr := hs[i]?.getD noHdr
def condP (first : List (BitVec 8)) (hs : List Hdr) (i : Nat) : Bool := if i = 0 then decide (hid (hAt hs 0) = first) else decide ((hAt hs i).p = hid (hAt hs (i - 1)))
def allP (first : List (BitVec 8)) (hs : List Hdr) (k : Nat) : Bool := (List.range k).all (condP first hs)
/-- whether headers make a way -/
def leadsP (first : List (BitVec 8)) (hs : List Hdr) : Bool := allP first hs hs.length
theorem allP_succ (first : List (BitVec 8)) (hs : List Hdr) (k : Nat) : allP first hs (k + 1) = (allP first hs k && condP first hs k) := by
  unfold allP; rw [List.range_succ, List.all_append]; simp
theorem leads_false {first : List (BitVec 8)} {hs : List Hdr} {k : Nat} (hk : k < hs.length) (h : condP first hs k = false) : leadsP first hs = false := by
  unfold leadsP allP
  rw [List.all_eq_false]
  exact ⟨k, List.mem_range.2 hk, by rw [h]; simp⟩
theorem hAt_ok {hs : List Hdr} (h : ∀ x ∈ hs, x.ok) (i : Nat) : (hAt hs i).ok := by
  unfold hAt
  cases hx : hs[i]? with
  | none => exact noHdr_ok
  | some x => exact h x (List.mem_of_getElem? hx)
theorem hAt_map {hs : List Hdr} {i : Nat} (hi : i < hs.length) : (hs.map Hdr.cells)[i]? = some (hAt hs i).cells := by
  rw [List.getElem?_map, List.getElem?_eq_getElem hi]
  unfold hAt
  rw [List.getElem?_eq_getElem hi]
  rfl
/-- where a slice of rows of N cells, cut at k, begins -/
def cutN (N : Nat) (p : Option Addr) (c k : Nat) : Option Addr := if c = k then p else p.map (·.add (k * N))
theorem RowsN.cut {N : Nat} {w : World} {p : Option Addr} {ls : List (List Value)} (h : RowsN N w p ls) {k c : Nat} (hc : ls.length ≤ c) : RowsN N w (cutN N p c k) (ls.drop k) := fun hn => by
  have hlt : k < ls.length := by
    rcases Nat.lt_or_ge k ls.length with h1 | h1
    · exact h1
    · exact absurd (List.drop_eq_nil_of_le h1) hn
  obtain ⟨b, off, rfl, hb, hcell⟩ := h (fun e => by rw [e] at hlt; simp at hlt)
  unfold cutN
  rw [if_neg (by omega)]
  refine ⟨b, off + k * N, by simp [Addr.add], hb, fun i x hx => ?_⟩
  rw [List.getElem?_drop] at hx
  have := hcell _ x hx
  rw [show off + (k + i) * N = off + k * N + i * N by rw [Nat.add_mul]; omega] at this
  exact this
theorem RowsN.take {N : Nat} {w : World} {p : Option Addr} {ls : List (List Value)} (h : RowsN N w p ls) (k : Nat) : RowsN N w p (ls.take k) := fun hn => by
  obtain ⟨b, off, rfl, hlt, hc⟩ := h (fun e => hn (by rw [e]; simp))
  refine ⟨b, off, rfl, hlt, fun i x hx => hc i x ?_⟩
  rw [List.getElem?_take] at hx
  split at hx
  · exact hx
  · cases hx
theorem hdr_range_p {w : World} {g : Nat} {t : TypeId} {h : Hdr} (hb : Blk w g t h.cells.toArray) : w.rangeAt g 1 (hCells h.p) := hb.rangeAt 1 _ (fun j v hv => by
  have hj : j < (hCells h.p).length := (List.getElem?_eq_some_iff.1 hv).1
  rw [List.getElem?_toArray, Hdr.cells, Nat.add_comm, List.getElem?_cons_succ]
  show (hCells h.p ++ _)[j]? = _
  rw [List.getElem?_append_left hj]
  exact hv)
theorem hash_range {w : World} {g : Nat} {t : TypeId} {x : List (BitVec 8)} (hb : Blk w g t (hCells x).toArray) : w.rangeAt g 0 (hCells x) := hb.rangeAt 0 _ (fun j v hv => by rw [Nat.zero_add, List.getElem?_toArray]; exact hv)
theorem map_ne {α β : Type} {f : α → β} {l : List α} (h : 0 < l.length) : l.map f ≠ [] := fun e => by
  have h1 := congrArg List.length e
  rw [List.length_map, List.length_nil] at h1
  omega
theorem not_eq {b : Bool} (h : b = true) : (!b) = false := by rw [h]; rfl

end Go.Proofs.YthglocpbdfcfnaaDoor
namespace Go.Proofs.YthglocpbdfcfnaaDoor
open Go.RowKit

theorem hash_info : (Tryd.prog.info? 29).map (fun i => (i.zero, i.size, i.bytes)) = some (some (.agg (hCells (noughts 32)).toArray), 32, 32) := by kernel_rfl
/-- the first m hashes of a block of one's own, that may be written -/
def HRow (w : World) (g : Nat) (l : List (List (BitVec 8))) (m : Nat) : Prop := (∀ i x, l[i]? = some x → w.rangeAt g (i * 32) (hCells x)) ∧ w.there g 0 (m * 32) ∧ g < w.heap.size
theorem flat_oneCell {l : List (List (BitVec 8))} : ∀ u ∈ (l.map hCells).flatten, u.oneCell' = true := fun u hu => by
  obtain ⟨cs, hcs, hu⟩ := List.mem_flatten.1 hu
  obtain ⟨x, _, rfl⟩ := List.mem_map.1 hcs
  exact map_u8_one x u hu
theorem own_hrow {w : World} {B : Nat} {v : Value} {n : Nat} {l : List (List (BitVec 8))} (hl : ∀ x ∈ l, x.length = 32) (hn : l.length = n) (hpos : 0 < n) (h : w.ownsRow B 29 32 v n (l.map hCells).flatten) :
    ∃ g cap, v = .slice (some ⟨g, 0, none⟩) n cap ∧ B ≤ g ∧ n ≤ cap ∧ cap ≤ 9223372036854775807 ∧ HRow w g l n := by
  rcases h.2 with ⟨_, h0⟩ | ⟨g, cap, cur, e, hB, hg, hc, hm, hs, ht⟩
  · omega
  · refine ⟨g, cap, e, hB, hc, by unfold maxLen at hm; omega, fun i x hx j v hj => ?_, fun j hj => ?_, Blk.lt hg⟩
    · have hj32 : j < 32 := by
        have := (List.getElem?_eq_some_iff.1 hj).1
        rw [hCells, List.length_map, hl x (List.mem_of_getElem? hx)] at this
        exact this
      have hin : i < n := by
        rw [← hn]
        exact (List.getElem?_eq_some_iff.1 hx).1
      have h1 : (cur.toList.take (n * 32))[i * 32 + j]? = ((l.map hCells).flatten)[i * 32 + j]? := by rw [ht]
      rw [List.getElem?_take, if_pos (by omega), flatten_at 32 (by omega) _ _ (fun cs hcs => by
        obtain ⟨y, hy, rfl⟩ := List.mem_map.1 hcs
        rw [hCells, List.length_map, hl y hy]), show (i * 32 + j) / 32 = i by omega, show (i * 32 + j) % 32 = j by omega, List.getElem?_map, hx] at h1
      rw [Blk.cell hg, ← Array.getElem?_toList, h1]
      exact hj
    · rw [Nat.zero_add]
      refine ⟨?_, Blk.frozen hg j⟩
      rw [Blk.cell hg]
      have : j < cur.size := by rw [hs]; have := Nat.mul_le_mul_right 32 hc; omega
      simp [this]
theorem HRow.below {w w' : World} {g B m : Nat} {l : List (List (BitVec 8))} (h : HRow w g l m) (hb : Below B w w') (hB : g < B) : HRow w' g l m :=
  ⟨fun i x hx => rangeAt_below (h.1 i x hx) hb hB, fun j hj => by
    have := h.2.1 j hj
    rw [hb.cell (p := ⟨g, 0 + j, none⟩) hB, hb.frozen (p := ⟨g, 0 + j, none⟩) hB]; exact this, Nat.lt_of_lt_of_le h.2.2 hb.size⟩
theorem HRow.drewN {w : World} {g m : Nat} {l : List (List (BitVec 8))} (h : HRow w g l m) (k : Nat) : HRow (w.drewN k) g l m := h

set_option maxRecDepth 100000 in
set_option maxHeartbeats 4000000 in
theorem merkle_any (p : Option Addr) (n c : Nat) (ids : List (List (BitVec 8))) (w : World) (hK : Laid w) (hn : ids.length = n) (hok : ∀ x ∈ ids, x.length = 32) (hnc : n ≤ c) (_hcm : c ≤ 9223372036854775807) (hbig : n ≤ 4398046511000) (hr : RowsN 32 w p (ids.map hCells)) :
    Calls Tryd.prog 50 #[.slice p n c] w fun e w' => e = .returned (.tuple #[.agg (hCells (merkP ids).1).toArray, .bool (merkP ids).2]) ∧ Below w.heap.size w w' := by
  have HN := Lib.hid hn
  have HK := Lib.hid hK
  have hKs := hK.size
  have HO := Lib.hid hok
  have HR := Lib.hid hr
  have hz := zero32
  obtain ⟨Y, hY⟩ : ∃ Y, Y = (hCells (noughts 32)).toArray := ⟨_, rfl⟩
  replace hz : ∀ w, (zeroValue 29).run Tryd.prog w = .ok (.agg Y) w := by rw [hY]; exact hz
  have hbt := built_no
  rw [← hY] at hbt
  have HBT := Lib.hid hbt
  have HY := Lib.hid hY
  clear hn hK hok hr hY hbt
  by_cases h0 : n = 0
  · subst h0
    have HM : Hid (merkP ids = (noughts 32, false)) := Lib.hid (by unfold merkP; rw [HN.out]; rfl)
    go_enter Tryd.func50, Tryd.ntmps50
    go_wp2_with (first
      | (with_reducible refine wp_build (o := ⟨some 12, _, _, _, _, _⟩) ?_ 29 #[] ?_ [] ?_ Y HBT.out ?_
         · rfl
         · rfl
         · rfl)
      | (with_reducible refine wp_store_blk (o := ⟨none, _, _, _, _, _⟩) ?_ 29 (.tmp 2) (.tmp 12) ?_ w.heap.size 29 Y Y ?_ ?_ (Blk.new w _ _) ?_ ?_ ?_ w.heap.size w ?_ ?_ ?_
         · rfl
         · rfl
         · rfl
         · rfl
         · rw [HY.out]; exact hCells_info' (noughts_len 32)
         · rfl
         · rw [HY.out]; exact hCells_one _
         · exact (Below.refl _ _).alloc (Nat.le_refl _) _
         · exact Nat.le_refl _
         intro w5 hR5 hb5 hg5 hs5))
    rw [HY.out] at hR5
    refine bodyPost_ret (results_cell2 rfl _ _ _ w.heap.size _ (hCells (noughts 32)) _ rfl hR5.out Tryd.underlying29 rfl (hCells_info (noughts_len 32))) rfl ?_
    rw [HM.out]
    exact ⟨rfl, hb5⟩
  · have hpos : 0 < n := by omega
    have hn0 : ((n : Int) == 0) = false := by simp; omega
    clear h0
    go_enter Tryd.func50, Tryd.ntmps50
    go_upto_region 3 with fail
    refine wp_abst (fun w' => Hid (Blk w' w.heap.size 29 Y) ∧ Below w.heap.size w w') ⟨Lib.hid (Blk.new w _ _), (Below.refl _ _).alloc (Nat.le_refl _) _⟩ ?_
    rintro w1 ⟨hy1, hb1⟩
    have hlt1 := hy1.out.lt
    have hb2 := (Below.refl w1.heap.size w1).alloc (Nat.le_refl _) (.cells #[] 29)
    have ho2 : (w1.alloc (.cells #[] 29)).ownsRow w1.heap.size 29 32 (.slice (some ⟨w1.heap.size, 0, none⟩) 0 0) 0 [] := World.ownsRow_made w1 #[] 0 (Nat.le_refl _) (Nat.zero_le _) rfl
    have hr2 : RowsN 32 (w1.alloc (.cells #[] 29)) p (ids.map hCells) := (HR.out.below hb1 (Nat.le_refl _)).below hb2 (Nat.le_refl _)
    go_upto_region 4 with (with_reducible refine wp_append_row (o := ⟨some 15, _, _, _, _, _⟩) ?_ (.tmp 13) (.tmp 14) 47 29 ?_ 32 32 _ Tryd.underlying47 hash_info ?_ (by omega) w1.heap.size _ 0 [] ?_ ho2 p n c (ids.map hCells) ?_ ?_ hr2 flat_oneCell ?_ ?_ ?_ w1.heap.size w1 hb2 ?_ ?_
                           · rfl
                           · rfl
                           · rfl
                           · rfl
                           · rfl
                           · rw [List.length_map]; exact HN.out
                           · omega
                           · unfold maxLen; omega
                           · exact hb2.size
                           · exact Nat.le_refl _
                           intro v3 w3 ho3 hb3 _ _)
    rw [List.nil_append, Nat.zero_add] at ho3
    obtain ⟨g, cap, rfl, hgB, hc1, hc2, hrow3⟩ := own_hrow HO.out HN.out hpos ho3
    have hrow3' := Lib.hid hrow3
    have hy3 := Lib.hid (hy1.out.below hb3 hlt1)
    have hbw3 := hb1.trans (hb3.mono hb1.size)
    have hgg : w.heap.size < g := by omega
    have hme : Hid (merkN n ids false = merkP ids) := Lib.hid (by unfold merkP; rw [HN.out, if_neg (by omega)])
    clear ho2 hr2 hb2 ho3 hrow3 hb3 hy1 hb1 hlt1 hgB
    go_wp2_with fail
    go_loopw [4, 5] (fun v o wr => ∃ (l : List (List (BitVec 8))) (m cp : Nat) (ob : Bool), v = .slice (some ⟨g, 0, none⟩) m cp ∧ 0 < m ∧ m ≤ n ∧ m ≤ cp ∧ cp ≤ 9223372036854775807 ∧ o = .bool ob ∧ Hid (l.length = m) ∧ Hid (∀ x ∈ l, x.length = 32) ∧ Hid (merkN n l ob = merkP ids) ∧ Hid (HRow wr g l m) ∧ Hid (Blk wr w.heap.size 29 Y) ∧ Below w.heap.size w wr) (fun v _ _ => lenS v)
    case atStart => exact ⟨ids, n, cap, false, rfl, hpos, Nat.le_refl _, hc1, hc2, rfl, HN, HO, hme, hrow3', hy3, hbw3⟩
    case round =>
      obtain ⟨l, m, cp, ob, rfl, hm0, hmn, hmc, hcp, rfl, HL, HLO, HME, hrow4, hy4, hb4⟩ := hrel
      clear hrow3' hy3 hbw3 hme hc1 hc2
      by_cases hm1 : 1 < m
      · have hmi : (1 : Int) < (m : Int) := by omega
        go_wp2_with fail
        have hrow5 : Hid (HRow wr g (upTo l 0 ++ l.drop 0) m) := hrow4
        go_loopw [5, 6, 7] (fun o a i wr2 => ∃ j : Nat, j ≤ (m + 1) / 2 ∧ o = .bool (ob || othTo l j) ∧ a = .int .i64 (j : Int) ∧ i = .int .i64 (2 * (j : Int)) ∧ Hid (HRow wr2 g (upTo l j ++ l.drop j) m) ∧ Hid (Blk wr2 w.heap.size 29 Y) ∧ Below w.heap.size w wr2) (fun _ _ i _ => m + 2 - (intOf i).toNat)
        case atStart => exact ⟨0, by omega, by simp [othTo], rfl, rfl, hrow5, hy4, hb4⟩
        case round =>
          obtain ⟨j, hj, rfl, rfl, rfl, hrow6, hy6, hb6⟩ := hrel
          clear hrow5 hrow4 hy4 hb4
          by_cases hjm : 2 * j < m
          · have hji : 2 * (j : Int) < (m : Int) := by omega
            obtain ⟨kk, hkk⟩ : ∃ x, x = min (2 * j + 1) (m - 1) := ⟨_, rfl⟩
            have q1 : min (2 * (j : Int) + 1) ((m : Int) - 1) = (kk : Int) := by omega
            have hL0 : (upTo l j ++ l.drop j)[2 * j]? = some (hA l (2 * j)) := by
              rw [List.getElem?_append_right (by rw [upTo_len]; omega), upTo_len, List.getElem?_drop, show j + (2 * j - j) = 2 * j by omega, hA_some (by rw [HL.out]; exact hjm)]
            have hL1 : (upTo l j ++ l.drop j)[kk]? = some (hA l kk) := by
              rw [List.getElem?_append_right (by rw [upTo_len]; omega), upTo_len, List.getElem?_drop, show j + (kk - j) = kk by omega, hA_some (by rw [HL.out]; omega)]
            go_upto_region 10 with fail
            rw [← hkk]
            have HKK := Lib.hid hkk
            clear hkk
            go_cut [5] (fun s5 wx => s5 = .bool (ob || othTo l (j + 1)) ∧ ∃ k, wx = wr.drewN k)
            case first =>
              by_cases hob : (ob || othTo l j) = true
              · have hfin : (ob || othTo l (j + 1)) = true := by rw [othTo_succ, ← Bool.or_assoc, hob]; rfl
                rw [hob]
                refine quiet_in (fun k => wr.drewN k) 1 rfl (by kernel_rfl) (by kernel_rfl) ?_
                repeat (go_big_quiet_step (fail))
                refine wpQuiet_nil ?_
                rintro _ ⟨nq, rfl⟩
                go_wp2_with fail
                go_meet
                case rel => exact ⟨by rw [hfin], nq, rfl⟩
              · replace hob : (ob || othTo l j) = false := by simpa using hob
                rw [hob]
                by_cases hkj : 2 * j + 1 < m
                · have hk2 : kk = 2 * j + 1 := by rw [HKK.out]; omega
                  have g1 : (2 * (j : Int)) < (kk : Int) := by omega
                  have g2 : decide ((2 * (j : Int)) < (kk : Int)) = true := decide_eq_true g1
                  have hfin : (ob || othTo l (j + 1)) = decide (hA l (2 * j) = hA l kk) := by
                    rw [othTo_succ, ← Bool.or_assoc, hob, hk2]; unfold othAt; rw [HL.out, decide_eq_true hkj]; rfl
                  clear hk2
                  have E := hash_eq _ _ (hA_len HLO.out (2 * j)) (hA_len HLO.out kk)
                  obtain ⟨V0, hV0⟩ : ∃ x, x = (hCells (hA l (2 * j))).toArray := ⟨_, rfl⟩
                  obtain ⟨V1, hV1⟩ : ∃ x, x = (hCells (hA l kk)).toArray := ⟨_, rfl⟩
                  obtain ⟨bb, hbb⟩ : ∃ x, x = decide (hA l (2 * j) = hA l kk) := ⟨_, rfl⟩
                  rw [← hV0, ← hV1, ← hbb] at E
                  rw [← hbb] at hfin
                  have HV0 := Lib.hid hV0
                  have HV1 := Lib.hid hV1
                  have hg1 : Hid (∀ k, (wr.drewN k).rangeAt g (2 * j * 32) V0.toList) := Lib.hid fun k => by rw [HV0.out]; exact hrow6.out.1 _ _ hL0
                  have hg2 : Hid (∀ k, (wr.drewN k).rangeAt g (kk * 32) V1.toList) := Lib.hid fun k => by rw [HV1.out]; exact hrow6.out.1 _ _ hL1
                  have hi1 : Hid ((Tryd.prog.info? 29).map (·.size) = some V0.toList.length) := Lib.hid (by rw [HV0.out]; exact hCells_info (hA_len HLO.out _))
                  have hi2 : Hid ((Tryd.prog.info? 29).map (·.size) = some V1.toList.length) := Lib.hid (by rw [HV1.out]; exact hCells_info (hA_len HLO.out _))
                  clear hV0 hV1 hbb
                  refine quiet_in (fun k => wr.drewN k) 1 rfl (by kernel_rfl) (by kernel_rfl) ?_
                  repeat (go_big_quiet_step (fail))
                  refine quiet_load_mid rfl 29 (.tmp 39) rfl g (2 * j * 32) rfl V0.toList _ (fun w' ⟨t, h⟩ => by rw [h]; exact hg1.out t) Tryd.underlying29 rfl hi1.out ?_
                  simp only [put_some, List.setIfInBounds_toArray, List.set_cons_succ, List.set_cons_zero, Array.toArray_toList]
                  repeat (go_big_quiet_step (fail))
                  refine quiet_load_mid rfl 29 (.tmp 43) rfl g (kk * 32) rfl V1.toList _ (fun w' ⟨t, h⟩ => by rw [h]; exact hg2.out t) Tryd.underlying29 rfl hi2.out ?_
                  simp only [put_some, List.setIfInBounds_toArray, List.set_cons_succ, List.set_cons_zero, Array.toArray_toList]
                  go_big_quiet_step (exact E _)
                  repeat (go_big_quiet_step (fail))
                  refine wpQuiet_nil ?_
                  rintro _ ⟨nq, rfl⟩
                  go_wp2_with fail
                  go_meet
                  case rel => exact ⟨by rw [hfin], nq, rfl⟩
                · have g1 : ¬ (2 * (j : Int)) < (kk : Int) := by rw [HKK.out]; omega
                  have g2 : decide ((2 * (j : Int)) < (kk : Int)) = false := decide_eq_false g1
                  have hfin : (ob || othTo l (j + 1)) = false := by
                    rw [othTo_succ, ← Bool.or_assoc, hob]; unfold othAt; rw [HL.out, decide_eq_false hkj]; rfl
                  refine quiet_in (fun k => wr.drewN k) 1 rfl (by kernel_rfl) (by kernel_rfl) ?_
                  repeat (go_big_quiet_step (fail))
                  refine wpQuiet_nil ?_
                  rintro _ ⟨nq, rfl⟩
                  go_wp2_with fail
                  go_meet
                  case rel => exact ⟨by rw [hfin], nq, rfl⟩
            case rest =>
              obtain ⟨rfl, nq, rfl⟩ := hcut
              have hb7 := below_drewN hb6 nq
              have hrow7 := Lib.hid (hrow6.out.drewN nq)
              have hy7 : Hid (Blk (wr.drewN nq) w.heap.size 29 Y) := Lib.hid hy6.out
              clear hb6 hrow6 hy6
              generalize wr.drewN nq = w7 at *
              have hlt7 := hrow7.out.2.2
              obtain ⟨V0, hV0⟩ : ∃ x, x = (hCells (hA l (2 * j))).toArray := ⟨_, rfl⟩
              obtain ⟨V1, hV1⟩ : ∃ x, x = (hCells (hA l kk)).toArray := ⟨_, rfl⟩
              have HV0 := Lib.hid hV0
              have HV1 := Lib.hid hV1
              have hi1 : Hid ((Tryd.prog.info? 29).map (·.size) = some V0.toList.length) := Lib.hid (by rw [HV0.out]; exact hCells_info (hA_len HLO.out _))
              have hi2 : Hid ((Tryd.prog.info? 29).map (·.size) = some V1.toList.length) := Lib.hid (by rw [HV1.out]; exact hCells_info (hA_len HLO.out _))
              clear hV0 hV1
              go_upto_region 11 with fail
              refine region_plan_tail [qq 0, qq 1, qq 2, qq 3, qq 4, qq 5, qq 6, qq 7, qq 8, qq 9, oo 10, qq 11] 12 (fun W => Below w7.heap.size w7 W) (by kernel_rfl) (by kernel_rfl) (Below.refl _ _).drew ?_
              refine' plan_quiet (s := _) (A1 := _) [0, 1, 2, 3, 4, 5, 6, 7, 8, 9] [_, _, _, _, _, _, _, _, _, _] _ rfl rfl rfl (fun W hW => ?hq1) _ (Below.refl _ _).drew (fun _ => ?hr1)
              case hq1 =>
                have hg1 : Hid (∀ k, (W.drewN k).rangeAt g (2 * j * 32) V0.toList) := Lib.hid fun k => by rw [HV0.out]; exact (hrow7.out.below hW hlt7).1 _ _ hL0
                have hg2 : Hid (∀ k, (W.drewN k).rangeAt g (kk * 32) V1.toList) := Lib.hid fun k => by rw [HV1.out]; exact (hrow7.out.below hW hlt7).1 _ _ hL1
                simp only [List.getElem_toArray, List.getElem_cons_zero, List.getElem_cons_succ]
                repeat (go_big_quiet_step (fail))
                refine quiet_load_mid rfl 29 (.tmp 52) rfl g (2 * j * 32) rfl V0.toList _ (fun w' ⟨t, h⟩ => by rw [h]; exact hg1.out t) Tryd.underlying29 rfl hi1.out ?_
                simp only [put_some, List.setIfInBounds_toArray, List.set_cons_succ, List.set_cons_zero, Array.toArray_toList]
                repeat (go_big_quiet_step (fail))
                refine quiet_load_mid rfl 29 (.tmp 56) rfl g (kk * 32) rfl V1.toList _ (fun w' ⟨t, h⟩ => by rw [h]; exact hg2.out t) Tryd.underlying29 rfl hi2.out ?_
                simp only [put_some, List.setIfInBounds_toArray, List.set_cons_succ, List.set_cons_zero, Array.toArray_toList]
                refine wpQuiet_nil ?_
                rfl
              case hr1 =>
              refine plan_one rfl fun k => ?_
              rw [HV0.out, HV1.out]
              go_wp2_with fail
              refine (pair_any _ _ _ (hA_len HLO.out (2 * j)) (hA_len HLO.out kk) ((HK.out.below hb7 hKs).below (below_drewN (Below.refl w7.heap.size w7) (1 + k)) (Nat.le_trans hKs hb7.size))).mono ?_
              rintro e w8 ⟨rfl, hb8⟩
              have hF8 : Below w7.heap.size w7 w8 := (below_drewN (Below.refl w7.heap.size w7) (1 + k)).trans hb8
              clear hb8
              go_wp2_with fail
              refine planQ_normal (And.intro hF8 ?_)
              refine' plan_quiet (s := _) (A1 := _) (r := []) [11] [_] _ rfl rfl rfl (fun W hW => ?hq2) _ hF8 (fun _ => ?hr2)
              case hq2 =>
                simp only [List.getElem_toArray, List.getElem_cons_zero, List.getElem_cons_succ]
                go_big_quiet_step (fail)
                refine wpQuiet_nil ?_
                rfl
              case hr2 =>
              refine plan_end fun k2 => HeadQ.normal ?_
              simp only [List.drop_succ_cons, List.drop_zero]
              have hrow8 := Lib.hid ((hrow7.out.below hF8 hlt7).drewN k2)
              have hy8 := Lib.hid ((hy7.out.below hF8 hy7.out.lt).drewN k2)
              have hb8 := below_drewN (hb7.trans (hF8.mono hb7.size)) k2
              clear hF8 hrow7 hy7 hb7
              generalize w8.drewN k2 = w10 at *
              have hVL : (pairH (hA l (2 * j)) (hA l kk)).length = 32 := pairH_len _ _
              have hV : pairH (hA l (2 * j)) (hA l kk) = upAt l j := by unfold upAt; rw [HL.out, HKK.out]
              have hjl : j < m := by omega
              refine wp_store_row rfl 29 (.tmp 59) (.tmp 58) rfl g (j * 32) (hCells (pairH (hA l (2 * j)) (hA l kk))).toArray rfl rfl ?_ ?_ (hCells_one _) ?_
              · intro i hi
                have hi32 : i < 32 := by rw [List.size_toArray, hCells, List.length_map, hVL] at hi; exact hi
                have := hrow8.out.2.1 (j * 32 + i) (by omega)
                rw [Nat.zero_add] at this
                exact this
              · rw [List.size_toArray]; exact hCells_info hVL
              intro w11 hr11 hap11 hth11 hgr11 hs11
              have hrow11 : Hid (HRow w11 g (upTo l (j + 1) ++ l.drop (j + 1)) m) := Lib.hid (by
                refine ⟨fun i x hx => ?_, hth11 _ _ hrow8.out.2.1, by rw [hs11]; exact hrow8.out.2.2⟩
                rcases Nat.lt_trichotomy i j with hij | hij | hij
                · rw [List.getElem?_append_left (by rw [upTo_len]; omega), upTo_get, if_pos (by omega)] at hx
                  have hx' : (upTo l j ++ l.drop j)[i]? = some x := by rw [List.getElem?_append_left (by rw [upTo_len]; omega), upTo_get, if_pos hij]; exact hx
                  have hxl : x.length = 32 := by injection hx with hx; rw [← hx]; exact pairH_len _ _
                  exact hap11 _ _ (hrow8.out.1 i x hx') (.inl (by rw [hCells, List.length_map, hxl]; omega))
                · subst hij
                  rw [List.getElem?_append_left (by rw [upTo_len]; omega), upTo_get, if_pos (by omega)] at hx
                  injection hx with hx
                  rw [← hx, ← hV]
                  exact hr11
                · rw [List.getElem?_append_right (by rw [upTo_len]; omega), upTo_len, List.getElem?_drop, show j + 1 + (i - (j + 1)) = i by omega] at hx
                  have hx' : (upTo l j ++ l.drop j)[i]? = some x := by rw [List.getElem?_append_right (by rw [upTo_len]; omega), upTo_len, List.getElem?_drop, show j + (i - j) = i by omega]; exact hx
                  refine hap11 _ _ (hrow8.out.1 i x hx') (.inr ?_)
                  rw [List.size_toArray, hCells, List.length_map, hVL]
                  omega)
              have hy11 := Lib.hid (hy8.out.kept hgr11 (by omega))
              have hb11 := hb8.grown hgr11 hb8.size (fun k hk => by injection hk with hk; omega)
              clear hrow8 hy8 hb8 hr11 hap11 hth11 hgr11 hs11 hVL hV hL0 hL1 q1 hi1 hi2 HV0 HV1 HKK
              go_wp2
              go_roundw
              case rel => exact ⟨j + 1, by omega, rfl, by go_num, by go_num, hrow11, hy11, hb11⟩
              case measure => simp [intOf]; omega
          · have hji : ¬ 2 * (j : Int) < (m : Int) := by omega
            have hj2 : j = (m + 1) / 2 := by omega
            have hrow7 : Hid (HRow wr g (up l) j) := Lib.hid ⟨fun i x hx => by
              have hi : i < j := by
                have := (List.getElem?_eq_some_iff.1 hx).1
                rw [up_len, HL.out] at this
                omega
              refine hrow6.out.1 i x ?_
              rw [List.getElem?_append_left (by rw [upTo_len]; omega)]
              rw [up, HL.out, ← hj2] at hx
              exact hx, fun i hi => hrow6.out.2.1 i (by omega), hrow6.out.2.2⟩
            have hup : Hid ((up l).length = j) := Lib.hid (by rw [up_len, HL.out]; omega)
            have hupo : Hid (∀ x ∈ up l, x.length = 32) := Lib.hid (upTo_ok l _)
            have hme2 : Hid (merkN n (up l) (ob || othTo l j) = merkP ids) := Lib.hid (by
              rw [← HME.out, merkN_step (l := l) (by rw [HL.out]; exact hm1) (by rw [HL.out]; exact hmn), oth, HL.out, ← hj2])
            have hj1 : 1 ≤ j := by omega
            have hjm : j < m := by omega
            have hjcp : j ≤ cp := by omega
            have hji2 : (j : Int) ≤ (cp : Int) := by omega
            clear hrow6 HME hj2
            go_wp2
            go_roundw
            case rel => exact ⟨up l, j, cp, (ob || othTo l j), rfl, by omega, by omega, hjcp, hcp, rfl, hup, hupo, hme2, hrow7, hy6, hb6⟩
            case measure => simp [lenS]; omega
      · have hm1' : m = 1 := by omega
        subst hm1'
        have hres : Hid (merkP ids = (hA l 0, ob)) := Lib.hid (by
          rw [← HME.out]
          obtain ⟨f, hf⟩ : ∃ f, n = f + 1 := ⟨n - 1, by omega⟩
          rw [hf, merkN, if_pos (by rw [HL.out]; omega)])
        have hx0 : l[0]? = some (hA l 0) := hA_some (by rw [HL.out]; omega)
        have hr0 := hrow4.out.1 0 _ hx0
        rw [Nat.zero_mul] at hr0
        have hok0 := Lib.hid (hA_len HLO.out 0)
        obtain ⟨V, hV⟩ : ∃ V, V = hA l 0 := ⟨_, rfl⟩
        rw [← hV] at hr0 hok0 hres
        have hYl := Lib.hid (show Y.size = 32 by rw [HY.out]; rfl)
        have hcp1 : 1 ≤ cp := by omega
        clear hrow4 HME hx0 hV
        go_wp2_with (first
          | (with_reducible refine wpList_load_mid (op := ⟨some 67, _, _, _, _, _⟩) ?_ 29 (.tmp 66) ?_ g 0 ?_ (hCells V) _ hr0 Tryd.underlying29 ?_ ?_ ?_
             · rfl
             · rfl
             · rfl
             · rfl
             · exact hCells_info hok0.out)
          | (with_reducible refine wp_store_blk (o := ⟨none, _, _, _, _, _⟩) ?_ 29 (.tmp 2) (.tmp 67) ?_ w.heap.size 29 Y (hCells V).toArray ?_ ?_ hy4.out ?_ ?_ ?_ w.heap.size w hb4 ?_ ?_
             · rfl
             · rfl
             · rfl
             · rfl
             · rw [List.size_toArray]; exact hCells_info hok0.out
             · exact hYl.out.trans (by rw [List.size_toArray, hCells, List.length_map, hok0.out])
             · exact hCells_one V
             · exact Nat.le_refl _
             intro w5 hR5 hb5 hg5 hs5))
        refine bodyPost_ret (results_cell2 rfl _ _ _ w.heap.size _ (hCells V) _ rfl hR5.out Tryd.underlying29 rfl (hCells_info hok0.out)) rfl ?_
        rw [hres.out]
        exact ⟨rfl, hb5⟩
end Go.Proofs.YthglocpbdfcfnaaDoor
namespace Go.Proofs.YthglocpbdfcfnaaDoor
open Go.RowKit

theorem ownsRow_below {w w' : World} {B B' N n : Nat} {e : TypeId} {v : Value} {xs : List Value} (h : w.ownsRow B e N v n xs) (hb : Below B' w w') (hB : w.heap.size ≤ B') : w'.ownsRow B e N v n xs := by
  refine ⟨h.1, ?_⟩
  rcases h.2 with h0 | ⟨g, cap, cur, rfl, hg, hh, hr⟩
  · exact .inl h0
  · exact .inr ⟨g, cap, cur, rfl, hg, Blk.below hh hb (Nat.lt_of_lt_of_le (Blk.lt hh) hB), hr⟩


theorem own_far {w : World} {B N n H : Nat} {e : TypeId} {v : Value} {xs : List Value} (h : w.ownsRow B e N v n xs) (hH : w.heap.size ≤ H) : v.ownBlock = none ∨ v.ownBlock ≠ some H := by
  cases hv : v.ownBlock with
  | none => exact .inl rfl
  | some k =>
    have := (World.ownsRow.lt h k hv).2
    exact .inr (by intro e; injection e with e; omega)

theorem HRow.rows {w : World} {g m : Nat} {l : List (List (BitVec 8))} (h : HRow w g l m) (hl : ∀ x ∈ l, x.length = 32) : RowsN 32 w (some ⟨g, 0, none⟩) (l.map hCells) := fun _ =>
  ⟨g, 0, rfl, h.2.2, fun i cs hi => by
    rw [List.getElem?_map, Option.map_eq_some_iff] at hi
    obtain ⟨x, hx, rfl⟩ := hi
    exact ⟨by rw [hCells, List.length_map]; exact hl x (List.mem_of_getElem? hx), by rw [Nat.zero_add]; exact h.1 i x hx⟩⟩

theorem merkN_len : ∀ (f : Nat) (l : List (List (BitVec 8))) (o : Bool), (∀ x ∈ l, x.length = 32) → (merkN f l o).1.length = 32
  | 0, _, _, h => hA_len h 0
  | f + 1, l, o, h => by
    unfold merkN
    split
    · exact hA_len h 0
    · exact merkN_len f (up l) _ (upTo_ok l _)
theorem merkP_len (l : List (List (BitVec 8))) (h : ∀ x ∈ l, x.length = 32) : (merkP l).1.length = 32 := by
  unfold merkP
  split
  · rfl
  · exact merkN_len _ _ _ h

set_option maxRecDepth 100000 in
set_option maxHeartbeats 4000000 in
theorem refMerkle_any (n : Nat) : ∀ (p : Option Addr) (c : Nat) (ids : List (List (BitVec 8))) (w : World), ids.length = n → (∀ x ∈ ids, x.length = 32) → n ≤ c → n ≤ 4398046511000 → RowsN 32 w p (ids.map hCells) →
    Calls Tryd.prog 18 #[.slice p n c] w fun e w' => e = .returned (.tuple #[.agg (hCells (merkP ids).1).toArray, .bool (merkP ids).2]) ∧ Below w.heap.size w w' := by
  induction n using Nat.strongRecOn with
  | _ n ih =>
  intro p c ids w hn hok hnc hbig hr
  have IH := Lib.hid ih
  have HN := Lib.hid hn
  have HO := Lib.hid hok
  have HR := Lib.hid hr
  have hz := zero32
  obtain ⟨Y, hY⟩ : ∃ Y, Y = (hCells (noughts 32)).toArray := ⟨_, rfl⟩
  replace hz : ∀ w, (zeroValue 29).run Tryd.prog w = .ok (.agg Y) w := by rw [hY]; exact hz
  have hbt := built_no
  rw [← hY] at hbt
  have HBT := Lib.hid hbt
  have HY := Lib.hid hY
  clear hn hok hr hY hbt ih
  by_cases h0 : n = 0
  · subst h0
    have HM : Hid (merkP ids = (noughts 32, false)) := Lib.hid (by unfold merkP; rw [HN.out]; rfl)
    go_enter Tryd.func18, Tryd.ntmps18
    go_wp2_with (first
      | (with_reducible refine wp_build (o := ⟨some 14, _, _, _, _, _⟩) ?_ 29 #[] ?_ [] ?_ Y HBT.out ?_
         · rfl
         · rfl
         · rfl)
      | (with_reducible refine wp_store_blk (o := ⟨none, _, _, _, _, _⟩) ?_ 29 (.tmp 2) (.tmp 14) ?_ w.heap.size 29 Y Y ?_ ?_ (Blk.new w _ _) ?_ ?_ ?_ w.heap.size w ?_ ?_ ?_
         · rfl
         · rfl
         · rfl
         · rfl
         · rw [HY.out]; exact hCells_info' (noughts_len 32)
         · rfl
         · rw [HY.out]; exact hCells_one _
         · exact (Below.refl _ _).alloc (Nat.le_refl _) _
         · exact Nat.le_refl _
         intro w5 hR5 hb5 hg5 hs5))
    rw [HY.out] at hR5
    refine bodyPost_ret (results_cell2 rfl _ _ _ w.heap.size _ (hCells (noughts 32)) _ rfl hR5.out Tryd.underlying29 rfl (hCells_info (noughts_len 32))) rfl ?_
    rw [HM.out]
    exact ⟨rfl, hb5⟩
  have hn0 : ((n : Int) == 0) = false := by simp; omega
  by_cases h1 : n = 1
  · subst h1
    have HM : Hid (merkP ids = (hA ids 0, false)) := Lib.hid (merkP_one HN.out)
    obtain ⟨b, off, hp, hbl, hrow⟩ := HR.out (by intro e; have := HN.out; rw [List.map_eq_nil_iff] at e; rw [e] at this; simp at this)
    subst hp
    have hx0 : (ids.map hCells)[0]? = some (hCells (hA ids 0)) := by rw [List.getElem?_map, hA_some (by rw [HN.out]; omega)]; rfl
    obtain ⟨_, hr0⟩ := hrow 0 _ hx0
    rw [Nat.zero_mul, Nat.add_zero] at hr0
    have hok0 := Lib.hid (hA_len HO.out 0)
    obtain ⟨V, hV⟩ : ∃ V, V = hA ids 0 := ⟨_, rfl⟩
    rw [← hV] at hr0 hok0 HM
    have hYl := Lib.hid (show Y.size = 32 by rw [HY.out]; rfl)
    have hrA := rangeAt_below hr0 ((Below.refl w.heap.size w).alloc (Nat.le_refl _) (.cells Y 29)) hbl
    clear hrow hx0 hV hr0
    go_enter Tryd.func18, Tryd.ntmps18
    go_wp2_with (first
      | (with_reducible refine wpList_load_mid (op := ⟨some 20, _, _, _, _, _⟩) ?_ 29 (.tmp 19) ?_ b off ?_ (hCells V) _ hrA Tryd.underlying29 ?_ ?_ ?_
         · rfl
         · rfl
         · rfl
         · rfl
         · exact hCells_info hok0.out)
      | (with_reducible refine wp_store_blk (o := ⟨none, _, _, _, _, _⟩) ?_ 29 (.tmp 2) (.tmp 20) ?_ w.heap.size 29 Y (hCells V).toArray ?_ ?_ (Blk.new w _ _) ?_ ?_ ?_ w.heap.size w ?_ ?_ ?_
         · rfl
         · rfl
         · rfl
         · rfl
         · rw [List.size_toArray]; exact hCells_info hok0.out
         · exact hYl.out.trans (by rw [List.size_toArray, hCells, List.length_map, hok0.out])
         · exact hCells_one V
         · exact (Below.refl _ _).alloc (Nat.le_refl _) _
         · exact Nat.le_refl _
         intro w5 hR5 hb5 hg5 hs5))
    refine bodyPost_ret (results_cell2 rfl _ _ _ w.heap.size _ (hCells V) _ rfl hR5.out Tryd.underlying29 rfl (hCells_info hok0.out)) rfl ?_
    rw [HM.out]
    exact ⟨rfl, hb5⟩
  have hn1 : ((n : Int) == 1) = false := by simp; omega
  have hn2 : 2 ≤ n := by omega
  clear h0 h1
  obtain ⟨b, off, hp, hbl, hrow⟩ := HR.out (by intro e; have := HN.out; rw [List.map_eq_nil_iff] at e; rw [e] at this; simp at this; omega)
  subst hp
  have hx : ∀ i, i < n → (ids.map hCells)[i]? = some (hCells (hA ids i)) := fun i hi => by rw [List.getElem?_map, hA_some (by rw [HN.out]; omega)]; rfl
  have hrx : Hid (∀ i, i < n → w.rangeAt b (off + i * 32) (hCells (hA ids i))) := Lib.hid fun i hi => (hrow i _ (hx i hi)).2
  have hokx : Hid (∀ i, (hA ids i).length = 32) := Lib.hid fun i => hA_len HO.out i
  have hYl := Lib.hid (show Y.size = 32 by rw [HY.out]; rfl)
  clear hrow hx
  go_enter Tryd.func18, Tryd.ntmps18
  go_upto_region 5 with fail
  refine wp_abst (fun w' => Hid (Blk w' w.heap.size 29 Y) ∧ Below w.heap.size w w') ⟨Lib.hid (Blk.new w _ _), (Below.refl _ _).alloc (Nat.le_refl _) _⟩ ?_
  rintro w1 ⟨hy1, hb1⟩
  have ho1 : Hid (w1.ownsRow (w.heap.size + 1) 29 32 (.slice none 0 0) 0 ((upTo ids 0).map hCells).flatten) := Lib.hid ⟨rfl, .inl ⟨rfl, rfl⟩⟩
  go_wp2_with fail
  go_loopw [4, 5, 6] (fun u o i wr => ∃ k : Nat, k ≤ (n + 1) / 2 ∧ o = .bool (othTo ids k) ∧ i = .int .i64 (2 * (k : Int)) ∧ Hid (wr.ownsRow (w.heap.size + 1) 29 32 u k ((upTo ids k).map hCells).flatten) ∧ Hid (Blk wr w.heap.size 29 Y) ∧ Below w.heap.size w wr) (fun _ _ i _ => n + 2 - (intOf i).toNat)
  case atStart => exact ⟨0, by omega, by simp [othTo], by simp, ho1, hy1, hb1⟩
  case round =>
    obtain ⟨k, hk, rfl, rfl, hou, hyr, hbr⟩ := hrel
    clear ho1 hy1 hb1
    by_cases hkn : 2 * k < n
    · have hki : 2 * (k : Int) < (n : Int) := by omega
      have hki0 : (0 : Int) ≤ 2 * (k : Int) := by omega
      have hkt : (2 * (k : Int)).toNat = 2 * k := by omega
      have r0 := rangeAt_below (hrx.out (2 * k) hkn) hbr hbl
      have r1 := Lib.hid r0
      have hltr := hyr.out.lt
      obtain ⟨A, hA0⟩ : ∃ x, x = hA ids (2 * k) := ⟨_, rfl⟩
      have HA0 := Lib.hid hA0
      have hAl : Hid (A.length = 32) := Lib.hid (by rw [hA0]; exact hokx.out _)
      clear r0
      rw [← hA0] at r1
      obtain ⟨S, hS⟩ : ∃ x, x = wr.heap.size := ⟨_, rfl⟩
      have HS := Lib.hid hS
      clear hA0 hS
      go_upto_region 10 with fail
      go_cut [7, 8] (fun s7 s8 wx => ∃ g7 g8 : Nat, s7 = .pointer (some ⟨g7, 0, none⟩) ∧ s8 = .pointer (some ⟨g8, 0, none⟩) ∧ g7 ≠ g8 ∧ wr.heap.size ≤ g7 ∧ wr.heap.size ≤ g8 ∧ Hid (Blk wx g7 29 (hCells A).toArray) ∧ Hid (Blk wx g8 29 (hCells A).toArray) ∧ Below wr.heap.size wr wx)
      case first =>
        refine region_plan [qq 0, qq 1, qq 2, qq 3, qq 4, qq 5, qq 6, qq 7, pp 8 9, oo 10, oo 11] (fun W => Below S wr W) (by kernel_rfl) (by kernel_rfl) (by rw [HS.out]; exact (Below.refl _ _).drew) ?_
        refine' plan_quiet (s := _) (A1 := _) [0, 1, 2, 3, 4, 5, 6, 7] [_, _, _, _, _, _, _, _] _ rfl rfl rfl (fun W hW => ?hq1) _ (by rw [HS.out]; exact (Below.refl _ _).drew) (fun _ => ?hr1)
        case hq1 =>
          have r2 : Hid (∀ j, (W.drewN j).rangeAt b (off + 2 * k * 32) (hCells A)) := Lib.hid fun j => rangeAt_below r1.out (below_drewN hW j) (by have := hbr.size; have := HS.out; omega)
          have hi1 : Hid ((Tryd.prog.info? 29).map (·.size) = some (hCells A).length) := Lib.hid (hCells_info hAl.out)
          simp only [List.getElem_toArray, List.getElem_cons_zero, List.getElem_cons_succ]
          iterate 3 (go_big_quiet_step (fail))
          refine quiet_load_mid rfl 29 (.tmp 29) rfl b (off + 2 * k * 32) rfl (hCells A) _ (fun w' ⟨t, h⟩ => by rw [h]; exact r2.out t) Tryd.underlying29 rfl hi1.out ?_
          simp only [put_some, List.setIfInBounds_toArray, List.set_cons_succ, List.set_cons_zero]
          iterate 3 (go_big_quiet_step (fail))
          refine quiet_load_mid rfl 29 (.tmp 33) rfl b (off + 2 * k * 32) rfl (hCells A) _ (fun w' ⟨t, h⟩ => by rw [h]; exact r2.out t) Tryd.underlying29 rfl hi1.out ?_
          simp only [put_some, List.setIfInBounds_toArray, List.set_cons_succ, List.set_cons_zero]
          refine wpQuiet_nil ?_
          rfl
        case hr1 =>
        refine plan_two rfl rfl (fun k1 => ?gA) (fun k1 => ?gB)
        case' gA =>
          go_wp2_with fail
          refine planQ_normal (And.intro (by rw [HS.out]; exact (below_drewN (Below.refl _ _) _).alloc (Nat.le_refl _) _) fun k2 => ?_)
          go_wp2_with fail
          refine planQ_normal (And.intro (by rw [HS.out]; exact (below_drewN ((below_drewN (Below.refl _ _) _).alloc (Nat.le_refl _) _) _).alloc (by simp) _) ?_)
          refine plan_abst (fun W2 => Hid (Blk W2 wr.heap.size 29 Y) ∧ Hid (Blk W2 (wr.heap.size + 1) 29 Y) ∧ Below S wr W2) ⟨?_, ?_, ?_⟩ ?_
          · exact Lib.hid (Blk.alloc (Blk.drewN (Blk.new (wr.drewN (1 + k1)) _ _) k2) _)
          · exact Lib.hid (by have := Blk.new (((wr.drewN (1 + k1)).alloc (.cells Y 29)).drewN k2) 29 Y; simp at this; exact this)
          · rw [HS.out]; exact (below_drewN ((below_drewN (Below.refl _ _) _).alloc (Nat.le_refl _) _) _).alloc (by simp) _
          rintro W2 ⟨hB7, hB8, hbW⟩
          obtain ⟨g7, hg7⟩ : ∃ x, x = wr.heap.size := ⟨_, rfl⟩
          obtain ⟨g8, hg8⟩ : ∃ x, x = wr.heap.size + 1 := ⟨_, rfl⟩
          rw [← hg8, ← hg7]
          rw [← hg7] at hB7
          rw [← hg8] at hB8
          have hne : g7 ≠ g8 := by omega
          have hge7 : S ≤ g7 := by rw [HS.out]; omega
          have hge8 : S ≤ g8 := by rw [HS.out]; omega
          clear hg7 hg8
        case' gB =>
          go_wp2_with fail
          refine planQ_normal (And.intro (by rw [HS.out]; exact (below_drewN (Below.refl _ _) _).alloc (Nat.le_refl _) _) fun k2 => ?_)
          go_wp2_with fail
          refine planQ_normal (And.intro (by rw [HS.out]; exact (below_drewN ((below_drewN (Below.refl _ _) _).alloc (Nat.le_refl _) _) _).alloc (by simp) _) ?_)
          refine plan_abst (fun W2 => Hid (Blk W2 wr.heap.size 29 Y) ∧ Hid (Blk W2 (wr.heap.size + 1) 29 Y) ∧ Below S wr W2) ⟨?_, ?_, ?_⟩ ?_
          · exact Lib.hid (Blk.alloc (Blk.drewN (Blk.new (wr.drewN (1 + k1)) _ _) k2) _)
          · exact Lib.hid (by have := Blk.new (((wr.drewN (1 + k1)).alloc (.cells Y 29)).drewN k2) 29 Y; simp at this; exact this)
          · rw [HS.out]; exact (below_drewN ((below_drewN (Below.refl _ _) _).alloc (Nat.le_refl _) _) _).alloc (by simp) _
          rintro W2 ⟨hB8, hB7, hbW⟩
          obtain ⟨g8, hg8⟩ : ∃ x, x = wr.heap.size := ⟨_, rfl⟩
          obtain ⟨g7, hg7⟩ : ∃ x, x = wr.heap.size + 1 := ⟨_, rfl⟩
          rw [← hg7, ← hg8]
          rw [← hg7] at hB7
          rw [← hg8] at hB8
          have hne : g7 ≠ g8 := by omega
          have hge7 : S ≤ g7 := by rw [HS.out]; omega
          have hge8 : S ≤ g8 := by rw [HS.out]; omega
          clear hg7 hg8
        all_goals
          refine plan_one rfl fun k3 => ?_
          refine wp_store_blk (o := ⟨none, _, _, _, _, _⟩) rfl 29 (.tmp 7) (.tmp 30) rfl g7 29 Y (hCells A).toArray rfl rfl (hB7.out.drewN k3) (by rw [List.size_toArray]; exact hCells_info hAl.out) (hYl.out.trans (by rw [List.size_toArray, hCells, List.length_map, hAl.out])) (hCells_one A) S wr (below_drewN hbW k3) hge7 ?_
          intro w3 hR3 hb3 hg3 hs3
          have hB83 := Lib.hid ((hB8.out.drewN k3).kept hg3.out (Ne.symm hne))
          clear hB7 hB8 hbW hg3 hs3
          go_wp2_with fail
          refine planQ_normal (And.intro hb3 ?_)
          refine plan_one rfl fun k4 => ?_
          refine wp_store_blk (o := ⟨none, _, _, _, _, _⟩) rfl 29 (.tmp 8) (.tmp 34) rfl g8 29 Y (hCells A).toArray rfl rfl (hB83.out.drewN k4) (by rw [List.size_toArray]; exact hCells_info hAl.out) (hYl.out.trans (by rw [List.size_toArray, hCells, List.length_map, hAl.out])) (hCells_one A) S wr (below_drewN hb3 k4) hge8 ?_
          intro w4 hR4 hb4 hg4 hs4
          have hR3' := Lib.hid ((hR3.out.drewN k4).kept hg4.out hne)
          clear hR3 hB83 hb3 hg4 hs4
          go_wp2_with fail
          refine planQ_normal (And.intro hb4 ?_)
          refine plan_end fun k5 => NoPanic.normal ?_
          go_wp2_with fail
          go_meet
          case rel => exact ⟨g7, g8, rfl, rfl, hne, by rw [← HS.out]; exact hge7, by rw [← HS.out]; exact hge8, Lib.hid (hR3'.out.drewN k5), Lib.hid (hR4.out.drewN k5), by rw [← HS.out]; exact below_drewN hb4 k5⟩
      case rest =>
        obtain ⟨g7, g8, rfl, rfl, hne, hge7, hge8, hB7, hB8, hbW⟩ := hcut
        have hou2 := Lib.hid (ownsRow_below hou.out hbW (Nat.le_refl _))
        have hy2 := Lib.hid (hyr.out.below hbW hltr)
        have hbr2 := hbr.trans (hbW.mono hbr.size)
        have hbs := hbr.size
        have hnb := own_far hou.out hge8
        clear hou hyr hbW r1 hbr
        obtain ⟨B, hBdef⟩ : ∃ x, x = hA ids (min (2 * k + 1) (n - 1)) := ⟨_, rfl⟩
        have HB := Lib.hid hBdef
        have hBl : Hid (B.length = 32) := Lib.hid (by rw [hBdef]; exact hokx.out _)
        clear hBdef
        go_upto_if 39 with (fail)
        go_cut [5] (fun s5 wx => s5 = .bool (othTo ids (k + 1)) ∧ Hid (Blk wx g7 29 (hCells A).toArray) ∧ Hid (Blk wx g8 29 (hCells B).toArray) ∧ Hid (wx.ownsRow (w.heap.size + 1) 29 32 u4 k ((upTo ids k).map hCells).flatten) ∧ Hid (Blk wx w.heap.size 29 Y) ∧ Below w.heap.size w wx)
        case first =>
          by_cases h2 : 2 * k + 1 < n
          · have hd : (2 * (k : Int) + 1) < (n : Int) := by omega
            have hd2 : decide ((2 * (k : Int) + 1) < (n : Int)) = true := decide_eq_true hd
            have hk1 : (0 : Int) ≤ 2 * (k : Int) + 1 := by omega
            have hkt1 : (2 * (k : Int) + 1).toNat = 2 * k + 1 := by omega
            have hBe : B = hA ids (2 * k + 1) := by rw [HB.out, show min (2 * k + 1) (n - 1) = 2 * k + 1 by omega]
            have r2 := rangeAt_below (hrx.out (2 * k + 1) h2) hbr2 hbl
            rw [← hBe] at r2
            have hth : othTo ids (k + 1) = (othTo ids k || decide (A = B)) := by
              rw [othTo_succ]; unfold othAt; rw [HN.out, decide_eq_true h2, Bool.true_and, ← HA0.out, ← hBe]
            have HTH := Lib.hid hth
            clear hth hBe
            have E := hash_eq A B hAl.out hBl.out
            obtain ⟨bb, hbb⟩ : ∃ x, x = decide (A = B) := ⟨_, rfl⟩
            rw [← hbb] at E HTH
            clear hbb
            go_upto_region 13 with (first
              | (with_reducible refine wpList_load_mid (op := ⟨some 44, _, _, _, _, _⟩) ?_ 29 ((.tmp 43)) ?_ (b) ((off + (2 * k + 1) * 32)) ?_ ((hCells (B))) _ (r2) Tryd.underlying29 ?_ ?_ ?_
                 · rfl
                 · rfl
                 · rfl
                 · rfl
                 · exact (hCells_info (hBl.out)))
              | (with_reducible refine wp_store_blk (o := ⟨none, _, _, _, _, _⟩) ?_ 29 ((.tmp 8)) ((.tmp 44)) ?_ (g8) 29 ((hCells A).toArray) ((hCells (B)).toArray) ?_ ?_ (hB8.out) ?_ ?_ ?_ (w.heap.size) (w) ?_ ?_ ?_
                 · rfl
                 · rfl
                 · rfl
                 · rfl
                 · exact (hCells_info' (hBl.out))
                 · exact ((hCells_size hAl.out).trans (hCells_size (hBl.out)).symm)
                 · exact (hCells_one _)
                 · exact (hbr2)
                 · exact ((by omega))
                 intro w5 hR5 hb5 hg5 hs5))
            have hR7 := Lib.hid (hB7.out.kept hg5.out hne)
            have hy5 := Lib.hid (hy2.out.kept hg5.out (by omega))
            have hou5 := Lib.hid (World.ownsRow.kept hou2.out hg5.out hnb)
            have HR8 := Lib.hid hR5.out
            clear hB7 hB8 hy2 hou2 hbr2 hR5 hg5 r2
            have r7 := hash_range hR7.out
            have r8 := hash_range HR8.out
            cases hob : othTo ids k
            · go_wp2_with (first
                | (with_reducible refine wpList_load_midG (op := ⟨some 47, _, _, _, _, _⟩) ?_ 29 ((.tmp 7)) ?_ (g7) (0) ?_ ((hCells (A))) _ (r7) Tryd.underlying29 ?_ ?_ ?_
                   · rfl
                   · rfl
                   · rfl
                   · rfl
                   · exact (hCells_info (hAl.out)))
                | (with_reducible refine wpList_load_midG (op := ⟨some 48, _, _, _, _, _⟩) ?_ 29 ((.tmp 8)) ?_ (g8) (0) ?_ ((hCells (B))) _ (r8) Tryd.underlying29 ?_ ?_ ?_
                   · rfl
                   · rfl
                   · rfl
                   · rfl
                   · exact (hCells_info (hBl.out))))
              go_meet
              case rel => exact ⟨by rw [HTH.out, hob]; rfl, hR7, HR8, hou5, hy5, hb5⟩
            · go_wp2_with fail
              go_meet
              case rel => exact ⟨by rw [HTH.out, hob]; rfl, hR7, HR8, hou5, hy5, hb5⟩
          · have hd : ¬ (2 * (k : Int) + 1) < (n : Int) := by omega
            have hd2 : decide ((2 * (k : Int) + 1) < (n : Int)) = false := decide_eq_false hd
            have hBe : B = A := by rw [HB.out, HA0.out, show min (2 * k + 1) (n - 1) = 2 * k by omega]
            have hth : othTo ids (k + 1) = othTo ids k := by
              rw [othTo_succ]; unfold othAt; rw [HN.out, decide_eq_false h2, Bool.false_and, Bool.or_false]
            have HTH := Lib.hid hth
            have HBE := Lib.hid hBe
            clear hth hBe
            go_wp2_with fail
            go_meet
            case rel => exact ⟨by rw [HTH.out], hB7, by rw [HBE.out]; exact hB8, hou2, hy2, hbr2⟩
        case rest =>
          obtain ⟨rfl, hC7, hC8, hoc, hyc, hbc⟩ := hcut
          clear hB7 hB8 hou2 hy2 hbr2
          have hV : pairH A B = upAt ids k := by unfold upAt; rw [HN.out, HA0.out, HB.out]
          have HV := Lib.hid hV
          clear hV
          go_upto_region 14 with fail
          refine region_plan [qq 0, qq 2, qq 4, oo 1, oo 3, oo 5, oo 6, oo 7, oo 8, qq 9] AnyW (by kernel_rfl) (by kernel_rfl) (anyW _) ?_
          refine' plan_quiet (s := _) (A1 := _) [0, 2, 4] [_, _, _] _ rfl rfl rfl (fun W _ => ?hq3) _ (anyW _) (fun _ => ?hr3)
          case hq3 =>
            simp only [List.getElem_toArray, List.getElem_cons_zero, List.getElem_cons_succ]
            iterate 3 (go_big_quiet_step (fail))
            refine wpQuiet_nil ?_
            rfl
          case hr3 =>
          refine plan_one rfl fun k1 => ?_
          go_wp2_with fail
          refine planQ_normal (And.intro (anyW _) ?_)
          refine plan_abst (fun W => Own8 W wc.heap.size (.slice (some ⟨wc.heap.size, 0, none⟩) 0 0) [] ∧ Below wc.heap.size wc W) ⟨own_nothing (wc.drewN (1 + k1)) _ (Nat.le_refl _), (below_drewN (Below.refl _ _) _).alloc (Nat.le_refl _) _⟩ ?_
          rintro W1 ⟨ho1, hb1⟩
          refine plan_one rfl fun k2 => ?_
          refine wp_append8 (o := ⟨some 54, _, _, _, _, _⟩) rfl (.tmp 52) (.tmp 53) rfl wc.heap.size _ [] rfl (ho1.drewN k2) (some ⟨g7, 0, none⟩) 32 32 A rfl hAl.out (hCells_row (((hC7.out).below hb1 hC7.out.lt).drewN k2)) (by simp; have := hAl.out; omega) hb1.size wc.heap.size wc (below_drewN hb1 k2) (Nat.le_refl _) ?_
          intro v2 w2 ho2 hb2 _ _
          clear ho1 hb1
          go_wp2_with fail
          refine planQ_normal (And.intro (anyW _) ?_)
          refine plan_one rfl fun k3 => ?_
          rw [List.nil_append] at ho2
          refine wp_append8 (o := ⟨some 56, _, _, _, _, _⟩) rfl (.tmp 54) (.tmp 55) rfl wc.heap.size v2 A rfl (ho2.drewN k3) (some ⟨g8, 0, none⟩) 32 32 B rfl hBl.out (hCells_row (((hC8.out).below hb2 hC8.out.lt).drewN k3)) (by have := hAl.out; have := hBl.out; omega) hb2.size wc.heap.size wc (below_drewN hb2 k3) (Nat.le_refl _) ?_
          intro v3 w3 ho3 hb3 _ _
          clear ho2 hb2
          obtain ⟨p3, n3, c3, rfl, hn3, hc3, hm3, hr3⟩ := ho3.open
          clear ho3
          go_wp2_with fail
          refine planQ_normal (And.intro (anyW _) ?_)
          refine plan_one rfl fun k4 => ?_
          have hn64 : n3 ≤ 64 := by have := hn3.out; rw [List.length_append, hAl.out, hBl.out] at this; omega
          go_wp2_with fail
          refine (refDouble_any p3 n3 c3 (A ++ B) (w3.drewN k4) hr3 hn3.out (by omega)).mono ?_
          rw [show sha (sha (A ++ B)) = upAt ids k from HV.out]
          rintro e w4 ⟨rfl, hb4⟩
          have hb5 : Below wc.heap.size wc w4 := (below_drewN hb3 k4).trans (hb4.mono hb3.size)
          clear hb3 hb4 hr3
          go_wp2_with fail
          refine planQ_normal (And.intro (anyW _) ?_)
          refine plan_one rfl fun k5 => ?_
          refine wp_lit (o := ⟨some 58, _, _, _, _, _⟩) rfl 47 29 1 #[(0, .tmp 57)] rfl [.agg (hCells (upAt ids k)).toArray] rfl 32 32 _ Tryd.underlying47 hash_info (by omega) (fun v hv => by rw [List.mem_singleton.1 hv]; exact hCells_size (pairH_len _ _)) rfl (by omega) (by omega) ?_
          go_wp2_with fail
          refine planQ_normal (And.intro (anyW _) ?_)
          have hR : RowsN 32 ((w4.drewN k5).alloc (.cells (hCells (upAt ids k)).toArray 29)) (some ⟨w4.heap.size, 0, none⟩) [hCells (upAt ids k)] := by
            refine fun _ => ⟨_, _, rfl, by simp, fun i cs hi => ?_⟩
            cases i with
            | zero =>
              injection hi with hi
              subst hi
              refine ⟨by rw [hCells, List.length_map]; exact pairH_len _ _, fun j v hj => ?_⟩
              rw [Nat.zero_mul, Nat.add_zero, Nat.zero_add]
              exact ((Blk.new (w4.drewN k5) 29 _).cell j).trans (by rw [List.getElem?_toArray]; exact hj)
            | succ i => cases hi
          have hb6 : Below wc.heap.size wc ((w4.drewN k5).alloc (.cells (hCells (upAt ids k)).toArray 29)) := (below_drewN hb5 k5).alloc hb5.size _
          refine plan_abst (fun W => RowsN 32 W (some ⟨w4.heap.size, 0, none⟩) [hCells (upAt ids k)] ∧ Below wc.heap.size wc W) ⟨hR, hb6⟩ ?_
          clear hR hb6 hb5
          rintro W6 ⟨hR6, hb6⟩
          have ho6 := ownsRow_below hoc.out hb6 (Nat.le_refl _)
          have hy6 := Lib.hid (hyc.out.below hb6 hyc.out.lt)
          have hbw6 := hbc.trans (hb6.mono hbc.size)
          have hws : w.heap.size + 1 ≤ W6.heap.size := by have := hyc.out.lt; have := hb6.size; omega
          clear hoc hyc hbc hb6 hC7 hC8
          refine plan_one rfl fun k6 => ?_
          refine wp_append_row (o := ⟨some 59, _, _, _, _, _⟩) rfl (.tmp 51) (.tmp 58) 47 29 rfl 32 32 _ Tryd.underlying47 hash_info rfl (by omega) (w.heap.size + 1) u4 k _ rfl ho6 (some ⟨w4.heap.size, 0, none⟩) 1 1 [hCells (upAt ids k)] rfl rfl hR6 (flat_oneCell (l := [upAt ids k])) (by omega) (by unfold maxLen; omega) hws (w.heap.size + 1) (W6.drewN k6) (Below.refl _ _) (Nat.le_refl _) ?_
          intro v7 w7 ho7 hb7 _ _
          have hy7 := Lib.hid ((hy6.out.drewN k6).below hb7 (Nat.lt_succ_self _))
          have hbw7 := (below_drewN hbw6 k6).trans (hb7.mono (Nat.le_succ _))
          have ho7' : Hid (w7.ownsRow (w.heap.size + 1) 29 32 v7 (k + 1) ((upTo ids (k + 1)).map hCells).flatten) := Lib.hid (by
            rw [upTo_succ, List.map_append, List.flatten_append]; exact ho7)
          clear ho6 hy6 hbw6 hws ho7 hb7 hR6
          go_wp2_with fail
          refine planQ_normal (And.intro (anyW _) ?_)
          refine' plan_quiet (s := _) (A1 := _) (r := []) [9] [_] _ rfl rfl rfl (fun W _ => ?hq4) _ (anyW _) (fun _ => ?hr4)
          case hq4 =>
            simp only [List.getElem_toArray, List.getElem_cons_zero, List.getElem_cons_succ]
            go_big_quiet_step (fail)
            refine wpQuiet_nil ?_
            rfl
          case hr4 =>
          refine plan_end fun k9 => NoPanic.normal ?_
          go_wp2
          go_roundw
          case rel => exact ⟨k + 1, by omega, rfl, by go_num, ho7', hy7, below_drewN hbw7 _⟩
          case measure => simp [intOf]; omega
    · have hki : ¬ 2 * (k : Int) < (n : Int) := by omega
      have hk2 : k = (n + 1) / 2 := by omega
      have hup : upTo ids k = up ids := by rw [up, HN.out, hk2]
      have hot : othTo ids k = oth ids := by rw [oth, HN.out, hk2]
      have hou2 := hou.out
      rw [hup] at hou2
      obtain ⟨g, cap, rfl, hgB, hc1, hc2, hrow⟩ := own_hrow (l := up ids) (upTo_ok ids _) (by rw [up_len, HN.out, hk2]) (by omega) hou2
      have hrow' := Lib.hid (hrow.rows (upTo_ok ids _))
      have hkl : Hid ((up ids).length = k) := Lib.hid (by rw [up_len, HN.out, hk2])
      have HST : Hid (merkP ids = ((merkP (up ids)).1, oth ids || (merkP (up ids)).2)) := Lib.hid (merkP_step (by rw [HN.out]; omega))
      have HOT := Lib.hid hot
      have hkn2 : k < n := by omega
      have hrl : (merkP (up ids)).1.length = 32 := merkP_len _ (upTo_ok ids _)
      clear hou2 hup hot hk2 hrow hou
      go_wp2_with fail
      refine (IH.out k hkn2 (some ⟨g, 0, none⟩) cap (up ids) wr hkl.out (upTo_ok ids _) hc1 (by omega) hrow'.out).mono ?_
      obtain ⟨R, hR⟩ : ∃ R, R = (merkP (up ids)).1 := ⟨_, rfl⟩
      obtain ⟨ob, hob⟩ : ∃ R, R = (merkP (up ids)).2 := ⟨_, rfl⟩
      obtain ⟨oa, hoa⟩ : ∃ R, R = othTo ids k := ⟨_, rfl⟩
      rw [← hR, ← hob]
      rw [← hR, ← hob] at HST
      rw [← hoa]
      rw [← hoa] at HOT
      rw [← hR] at hrl
      have HRL := Lib.hid hrl
      clear hrl hR hob hoa
      rintro e w2 ⟨rfl, hb2⟩
      have hy2 := Lib.hid (hyr.out.below hb2 hyr.out.lt)
      have hbr2 := hbr.trans (hb2.mono hbr.size)
      have hlt2 := hy2.out.lt
      clear hyr hbr hb2 hrow'
      go_upto_region 16 with (first
        | (with_reducible refine wp_store_blk (o := ⟨none, _, _, _, _, _⟩) ?_ 29 ((.tmp 9)) ((.tmp 63)) ?_ (w2.heap.size) 29 (Y) ((hCells (R)).toArray) ?_ ?_ (Blk.new w2 _ _) ?_ ?_ ?_ (w.heap.size) (w) ?_ ?_ ?_
           · rfl
           · rfl
           · rfl
           · rfl
           · exact (hCells_info' (HRL.out))
           · exact ((hYl.out).trans (hCells_size (HRL.out)).symm)
           · exact (hCells_one _)
           · exact ((hbr2.alloc hbr2.size _))
           · exact (hbr2.size)
           intro w5 hR5 hb5 hg5 hs5))
      have hy5 := Lib.hid ((hy2.out.alloc _).kept hg5.out (by omega))
      have hr5 := hash_range hR5.out
      clear hy2 hbr2 hR5 hg5 hs5
      cases oa
      all_goals
        go_wp2_with (first
          | (with_reducible refine wpList_load_mid (op := ⟨some 65, _, _, _, _, _⟩) ?_ 29 (.tmp 9) ?_ (w2.heap.size) (0) ?_ ((hCells (R))) _ (hr5) Tryd.underlying29 ?_ ?_ ?_
             · rfl
             · rfl
             · rfl
             · rfl
             · exact (hCells_info (HRL.out)))
          | (with_reducible refine wp_store_blk (o := ⟨none, _, _, _, _, _⟩) ?_ 29 (.tmp 2) (.tmp 65) ?_ (w.heap.size) 29 (Y) ((hCells (R)).toArray) ?_ ?_ (hy5.out) ?_ ?_ ?_ (w.heap.size) (w) ?_ ?_ ?_
             · rfl
             · rfl
             · rfl
             · rfl
             · exact (hCells_info' (HRL.out))
             · exact ((hYl.out).trans (hCells_size (HRL.out)).symm)
             · exact (hCells_one _)
             · exact (hb5)
             · exact (Nat.le_refl _)
             intro w7 hR7 hb7 hg7 hs7))
        refine bodyPost_ret (results_cell2 rfl _ _ _ w.heap.size _ (hCells R) _ rfl hR7.out Tryd.underlying29 rfl (hCells_info HRL.out)) rfl ?_
        rw [HST.out, ← HOT.out]
        exact ⟨rfl, hb7⟩
end Go.Proofs.YthglocpbdfcfnaaDoor
