/- Headers compared; sporranlaw06.HeaderBack: the walk. -/
import Derived.Test.YtamcmckfommlnaaHdrE
import Derived.DeepKeys
import Derived.Laws.StructEq
namespace Go.Proofs.Ytamcmckfommlnaa
open Go.RowKit

/-- a value of a type that can be compared, with itself -/
theorem equalIn_same {P : Program} {m : Nat} (hm : m ≤ 10000) {t : TypeId} (hk : P.keyTypeAt m t = true) {x : Value} {D : Nat} {la : List Lit} (hf : x.formed P t = true) (hl : P.keyLits D t x.cells.toList = some la) (w : World) : (Op.equalIn 10000 t x x).run P w = .ok true w := by
  obtain ⟨r, hr, hiff⟩ := run_equalIn_deep (10000 - m) m t hk w D D x x la la hf hf hl hl
  rw [show 10000 - m + m = 10000 by omega] at hr
  rw [hr, hiff.2 rfl]
def Hdr.lits (h : Hdr) : List Lit := .int .u32 (iv32 h.v) :: (h.p.map (fun x => .int .u8 (iv8 x)) ++ (h.m.map (fun x => .int .u8 (iv8 x)) ++ [.int .u32 (iv32 h.t), .int .u32 (iv32 h.b), .int .u32 (iv32 h.n)]))
theorem mapM_some {α β : Type} {f : α → Option β} (g : α → β) : ∀ (l : List α), (∀ i ∈ l, f i = some (g i)) → l.mapM f = some (l.map g)
  | [], _ => rfl
  | i :: l, h => by
    rw [List.mapM_cons, h i (by simp), mapM_some g l (fun j hj => h j (by simp [hj]))]
    rfl
theorem lits_u8 (d : Nat) (x : BitVec 8) : Try.prog.keyLits (d + 1) 5 [u8 x] = some [.int .u8 (iv8 x)] := by
  unfold Program.keyLits
  rw [Try.underlying5]
  simp only [wf8 x, and_self, if_true]
theorem lits_u32 (d : Nat) (x : BitVec 32) : Try.prog.keyLits (d + 1) 22 [u32 x] = some [.int .u32 (iv32 x)] := by
  unfold Program.keyLits
  rw [Try.underlying22]
  simp only [wf32 x, and_self, if_true]
theorem lits_hash (d : Nat) (p : List (BitVec 8)) (hp : p.length = 32) : Try.prog.keyLits (d + 2) 24 (p.map u8) = some (p.map (fun x => .int .u8 (iv8 x))) := by
  unfold Program.keyLits
  rw [Try.underlying24]
  simp only [hashH_cells, byteH_cells, List.length_map, hp, if_true]
  rw [mapM_some (fun i => [Lit.int .u8 (iv8 (p[i]?.getD 0#8))]) (List.range 32) (fun i hi => by
    have hi' : i < 32 := List.mem_range.1 hi
    have hx : p[i]? = some (p[i]'(by omega)) := List.getElem?_eq_getElem (by omega)
    have e : ((p.map u8).drop (i * 1)).take 1 = [u8 (p[i]'(by omega))] := by
      rw [Nat.mul_one, List.drop_eq_getElem_cons (by simp; omega)]
      simp
    rw [e, lits_u8, hx]
    rfl)]
  obtain ⟨x, rfl⟩ := of_fn p 32 hp
  kernel_rfl
theorem hdr_lits (h : Hdr) (hk : h.ok) : Try.prog.keyLits 4 26 h.cells = some h.lits := by
  have e0 : (h.cells.drop 0).take 1 = [u32 h.v] := rfl
  have e1 : (h.cells.drop 1).take 32 = h.p.map u8 := by
    rw [Hdr.cells, List.drop_succ_cons, List.drop_zero, List.take_left' (by rw [List.length_map, hk.1])]
  have e2 : (h.cells.drop 33).take 32 = h.m.map u8 := by
    rw [Hdr.cells, show 33 = 32 + 1 by rfl, List.drop_succ_cons, List.drop_left' (by rw [List.length_map, hk.1]), List.take_left' (by rw [List.length_map, hk.2])]
  have e3 : h.cells.drop 65 = [u32 h.t, u32 h.b, u32 h.n] := by
    rw [Hdr.cells, show 65 = 32 + 32 + 1 by rfl, List.drop_succ_cons, ← List.drop_drop, List.drop_left' (by rw [List.length_map, hk.1]), List.drop_left' (by rw [List.length_map, hk.2])]
  have e4 : h.cells.drop 66 = [u32 h.b, u32 h.n] := by rw [show 66 = 65 + 1 by rfl, ← List.drop_drop, e3]; rfl
  have e5 : h.cells.drop 67 = [u32 h.n] := by rw [show 67 = 65 + 2 by rfl, ← List.drop_drop, e3]; rfl
  have hc1 : Try.prog.cellsOf 22 = 1 := by kernel_rfl
  have hcl : h.cells.length = Try.prog.cellsOf 26 := by rw [Hdr.cells_len hk]; kernel_rfl
  unfold Program.keyLits
  rw [Try.underlying26]
  simp only []
  rw [if_pos ⟨hcl, by simp⟩]
  simp only [List.mapM_cons, List.mapM_nil, hc1, hashH_cells, e0, e1, e2, e3, e4, e5, List.take_succ_cons, List.take_zero, lits_u32 2, lits_hash 1 _ hk.1, lits_hash 1 _ hk.2]
  simp [Hdr.lits]
theorem hdr_formed (h : Hdr) (hk : h.ok) : (Value.agg h.cells.toArray).formed Try.prog 26 = true := by
  obtain ⟨v, p, m, t, b, n⟩ := h
  obtain ⟨x, rfl⟩ := of_fn p 32 hk.1
  obtain ⟨y, rfl⟩ := of_fn m 32 hk.2
  kernel_rfl
theorem hdr_same (h : Hdr) (hk : h.ok) (w : World) : (Op.equalIn 10000 26 (.agg h.cells.toArray) (.agg h.cells.toArray)).run Try.prog w = .ok true w :=
  equalIn_same (m := 4) (by omega) (by kernel_rfl) (hdr_formed h hk) (hdr_lits h hk) w
theorem num32_le32 (x : BitVec 32) (r : List (BitVec 8)) : num32 (le32 x ++ r) = x := by
  unfold num32 le32
  rw [numTo_low _ 4 r (by rw [BitVec.toNat_setWidth]; have := x.isLt; omega)]
  apply BitVec.eq_of_toNat_eq
  rw [BitVec.toNat_setWidth, BitVec.toNat_setWidth]
  have := x.isLt
  omega
theorem hdrP_bytes (h : Hdr) (hk : h.ok) (r : List (BitVec 8)) : hdrP (h.bytes ++ r) = (h, r, 0) := by
  have l4 := le32_len
  unfold hdrP
  rw [if_neg (by rw [List.length_append, Hdr.bytes_len hk]; omega)]
  have hr : (h.bytes ++ r).drop 80 = r := by rw [List.drop_append, List.drop_of_length_le (by rw [Hdr.bytes_len hk]; omega), Hdr.bytes_len hk]; rfl
  have e : h.bytes ++ r = le32 h.v ++ (h.p ++ (h.m ++ (le32 h.t ++ (le32 h.b ++ (le32 h.n ++ r))))) := by simp [Hdr.bytes, List.append_assoc]
  have dr : ∀ (X Y : List (BitVec 8)) (k : Nat), X.length = k → (X ++ Y).drop k = Y := fun X Y k hk => by subst hk; simp
  have d4 : (h.bytes ++ r).drop 4 = h.p ++ (h.m ++ (le32 h.t ++ (le32 h.b ++ (le32 h.n ++ r)))) := by rw [e]; exact dr _ _ _ (l4 _)
  have d36 : (h.bytes ++ r).drop 36 = h.m ++ (le32 h.t ++ (le32 h.b ++ (le32 h.n ++ r))) := by rw [show 36 = 4 + 32 by rfl, ← List.drop_drop, d4]; exact dr _ _ _ hk.1
  have d68 : (h.bytes ++ r).drop 68 = le32 h.t ++ (le32 h.b ++ (le32 h.n ++ r)) := by rw [show 68 = 36 + 32 by rfl, ← List.drop_drop, d36]; exact dr _ _ _ hk.2
  have d72 : (h.bytes ++ r).drop 72 = le32 h.b ++ (le32 h.n ++ r) := by rw [show 72 = 68 + 4 by rfl, ← List.drop_drop, d68]; exact dr _ _ _ (l4 _)
  have d76 : (h.bytes ++ r).drop 76 = le32 h.n ++ r := by rw [show 76 = 72 + 4 by rfl, ← List.drop_drop, d72]; exact dr _ _ _ (l4 _)
  rw [hr]
  have hh : hdrOf (h.bytes ++ r) = h := by
    unfold hdrOf
    rw [d4, d36, d68, d72, d76, num32_le32, num32_le32, num32_le32, e, num32_le32, List.take_left' hk.1, List.take_left' hk.2]
  rw [hh]
/-- a load of an aggregate, its guard met -/
theorem wpList_load_midG {P : Program} {ops : Array Oper} {rest : List Oper} {op : Oper} {a : Act} {w : World} {Q : Exit → Act → World → Prop} (hw : Region.wanted op (yielded ops a.tmps) = true) (ty : TypeId) (x : Operand) (ho : op.op = .load ty x)
    (b o : Nat) (hx : a.eval x = .pointer (some ⟨b, o, none⟩)) (cs : List Value) (d : TypeDesc) (hc : w.rangeAt b o cs) (hu : P.underlying ty = some d) (hd : d.isRow = true) (hi : (P.info? ty).map (·.size) = some cs.length)
    (h : wpList P ops Q rest (a.put op.dst (.agg cs.toArray)) w) : wpList P ops Q (op :: rest) a w := by
  unfold wpList
  rw [if_pos hw]
  exact .inl (wp_load_mid ty x ho b o hx cs d hc hu hd hi h)

set_option maxRecDepth 100000 in
set_option maxHeartbeats 2000000 in
theorem headerBack_walk (h : Hdr) (p : Option Addr) (n c : Nat) (bs : List (BitVec 8)) (w : World) (hk : h.ok) (hn : bs.length = n) (hl : n ≤ c) (hcb : c ≤ 140737488351232) (hr : Row8 w p bs) (_hp : p = none → c = 0) :
    Calls Try.prog 4 #[.agg h.cells.toArray, .slice p n c] w fun e w' => e = .returned (.bool true) ∧ Below w.heap.size w w' := by
  have HN := Lib.hid hn
  have hz := zeroHdr
  have hsame := hdr_same h hk
  have HP : Hid (hdrP (h.bytes ++ bs) = (h, bs, 0)) := Lib.hid (hdrP_bytes h hk bs)
  obtain ⟨Z, hZ⟩ : ∃ Z, Z = noHdr.cells.toArray := ⟨_, rfl⟩
  obtain ⟨C, hC⟩ : ∃ C, C = h.cells.toArray := ⟨_, rfl⟩
  rw [← hZ] at hz
  rw [← hC]
  have HZ := Lib.hid hZ
  have HC := Lib.hid hC
  clear hZ hC hn
  go_enter Try.func4, Try.ntmps4
  go_upto_region 1 with fail
  refine wp_abst (fun w' => Hid (Blk w' w.heap.size 26 h.cells.toArray) ∧ Below w.heap.size w w') ⟨Lib.hid (by rw [← HC.out]; exact Blk.new w _ _), (Below.refl _ _).alloc (Nat.le_refl _) _⟩ ?_
  rintro w1 ⟨hb1, hbel1⟩
  have hrg := hb1.out.range
  go_wp2_with (with_reducible refine wpList_load_mid (op := ⟨some 9, _, _, _, _, _⟩) ?_ 26 (.tmp 2) ?_ w.heap.size 0 ?_ h.cells _ hrg Try.underlying26 ?_ ?_ ?_
               · rfl
               · rfl
               · rfl
               · rfl
               · exact hdr_size hk)
  refine (hdrEncode_any h hk _).mono ?_
  rintro e w2 ⟨g, rfl, hb2, hg2, hbel2⟩
  have hlt1 := hb1.out.lt
  have hb12 := Lib.hid (hb1.out.below hbel2 hlt1)
  have hbw2 := hbel1.trans (hbel2.mono hbel1.size)
  have hrow2 := hdr_row hb2.out
  have hr2 := hr.below hbw2 (Nat.le_refl _)
  have hlt2 := hb12.out.lt
  clear hrg hb1 hbel1 hbel2 hb2
  go_wp2_with fail
  refine (clone_any (some ⟨g, 0, none⟩) 80 80 h.bytes w2 hrow2 (Hdr.bytes_len hk) (by omega) (fun h => by cases h)).mono ?_
  rintro e w3 ⟨v3, rfl, ho3, hbel3⟩
  have hb13 := Lib.hid (hb12.out.below hbel3 hlt2)
  have hbw3 := hbw2.trans (hbel3.mono hbw2.size)
  have hr3 := hr2.below hbel3 (Nat.le_refl _)
  have hsz3 := hbel3.size
  have hl80 : Hid (h.bytes.length = 80) := Lib.hid (Hdr.bytes_len hk)
  go_wp2_with (with_reducible refine wp_append8 (o := ⟨some 15, _, _, _, _, _⟩) ?_ (.tmp 13) (.tmp 14) ?_ w2.heap.size v3 h.bytes ?_ ho3 p n c bs ?_ HN.out hr3 ?_ hsz3 w2.heap.size w2 hbel3 ?_ ?_
               · rfl
               · rfl
               · rfl
               · rfl
               · rw [hl80.out, HN.out]; omega
               · exact Nat.le_refl _
               intro v4 w4 ho4 hb4 _ _)
  obtain ⟨p4, n4, c4, rfl, H4, hl4, hm4, hr4⟩ := ho4.open
  have hn4 : n4 = 80 + n := by rw [← H4.out, List.length_append, hl80.out, HN.out]
  have hb14 := Lib.hid (hb12.out.below hb4 hlt2)
  have hbw4 := hbw2.trans (hb4.mono hbw2.size)
  have hr24 := hr2.below hb4 (Nat.le_refl _)
  have hlt4 := hb14.out.lt
  clear ho4 ho3 hb13 hbw3 hr3 hsz3 hb4 hbel3 hb12
  refine (hdrDecode_any p4 n4 c4 _ w4 hr4 H4.out hl4 hm4 (by omega)).mono ?_
  rw [HP.out]
  rintro e w5 ⟨v5, rfl, ho5, hbel5⟩
  dsimp only at ho5 ⊢
  obtain ⟨p5, n5, c5, rfl, H5, hl5, hm5, hr5⟩ := ho5.open
  have hb15 := Lib.hid (hb14.out.below hbel5 hlt4)
  have hbw5 := hbw4.trans (hbel5.mono hbw4.size)
  have hr25 := hr24.below hbel5 (Nat.le_refl _)
  have hsz5 := hbw5.size
  have hlt5 := hb15.out.lt
  have hZs : Hid (Z.size = 68) := Lib.hid (by rw [HZ.out, Hdr.cells_size noHdr_ok])
  have HS : Hid (h.cells.length = 68) := Lib.hid (Hdr.cells_len hk)
  clear ho5 hbel5 hn4 hb14
  go_wp2_with (first
    | (with_reducible refine wp_store_blk (o := ⟨none, _, _, _, _, _⟩) ?_ 26 (.tmp 6) (.tmp 17) ?_ w5.heap.size 26 Z h.cells.toArray ?_ ?_ (Blk.new w5 _ _) ?_ ?_ ?_ w5.heap.size w5 ?_ ?_ ?_
       · rfl
       · rfl
       · rfl
       · rfl
       · rw [List.size_toArray, HS.out]; kernel_rfl
       · exact hZs.out.trans (by rw [List.size_toArray, HS.out])
       · exact Hdr.cells_one _
       · exact (Below.refl _ _).alloc (Nat.le_refl _) _
       · exact Nat.le_refl _
       intro w6 hb6 hbel6 _ _
       have hrg6 := hb6.out.range
       have hrg1 := (hb15.out.below hbel6 hlt5).range)
    | (with_reducible refine wpList_load_midG (op := ⟨some 28, _, _, _, _, _⟩) ?_ 26 (.tmp 6) ?_ w5.heap.size 0 ?_ h.cells _ hrg6 Try.underlying26 ?_ ?_ ?_
       · rfl
       · rfl
       · rfl
       · rfl
       · exact hdr_size hk)
    | (with_reducible refine wpList_load_midG (op := ⟨some 29, _, _, _, _, _⟩) ?_ 26 (.tmp 2) ?_ w.heap.size 0 ?_ h.cells _ hrg1 Try.underlying26 ?_ ?_ ?_
       · rfl
       · rfl
       · rfl
       · rfl
       · exact hdr_size hk))
  refine (equal_same p5 p n5 c5 n c bs _ (hr5.below hbel6 (Nat.le_refl _)) (hr25.below hbel6 (Nat.le_refl _)) H5.out HN.out).mono ?_
  rintro e w7 ⟨rfl, hw7⟩
  replace hw7 := hw7.symm
  subst hw7
  go_wp2
  go_ret
  exact ⟨rfl, hbw5.trans (hbel6.mono hbw5.size)⟩
end Go.Proofs.Ytamcmckfommlnaa
