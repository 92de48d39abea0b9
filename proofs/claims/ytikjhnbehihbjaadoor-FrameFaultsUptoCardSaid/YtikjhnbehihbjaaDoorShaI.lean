/- (*state).block: the walk: it is S8.mix upon the eight words of a hasher. -/
import Derived.Test.YtikjhnbehihbjaaDoorShaH
namespace Go.Proofs.YtikjhnbehihbjaaDoor
open Go.RowKit

/-- the variables lie below -/
abbrev gTop : Nat := max 0 1 + 1
/-- the rounds' words and the first state lie in their variables -/
structure Laid (w : World) : Prop where
  size : gTop ≤ w.heap.size
  first : ∀ i, i < 8 → w.cell? ⟨0, i, none⟩ = some (.int .u32 (iv32 (atS s8First i)))
  words : ∀ i, i < 64 → w.cell? ⟨1, i, none⟩ = some (.int .u32 (iv32 (kW i)))
theorem lt_top1 {n : Nat} (h : gTop ≤ n) : 0 < n := by unfold gTop at h; omega
theorem lt_top2 {n : Nat} (h : gTop ≤ n) : 1 < n := by unfold gTop at h; omega
theorem Laid.kept {w w' : World} {H : Nat} (h : Laid w) (hg : w.grownBy w' (some H)) (hH : gTop ≤ H) : Laid w' :=
  ⟨Nat.le_trans h.size hg.size,
    fun i hi => (World.cell?_of_block (a := ⟨0, i, none⟩) (hg.block _ (lt_top1 h.size) (by intro e; injection e with e; exact Nat.ne_of_lt (lt_top1 hH) e))).trans (h.first i hi),
    fun i hi => (World.cell?_of_block (a := ⟨1, i, none⟩) (hg.block _ (lt_top2 h.size) (by intro e; injection e with e; exact Nat.ne_of_lt (lt_top2 hH) e))).trans (h.words i hi)⟩
theorem Laid.below {w w' : World} {B : Nat} (h : Laid w) (hb : Below B w w') (hB : gTop ≤ B) : Laid w' :=
  ⟨Nat.le_trans h.size hb.size,
    fun i hi => (hb.cell (p := ⟨0, i, none⟩) (lt_top1 hB)).trans (h.first i hi),
    fun i hi => (hb.cell (p := ⟨1, i, none⟩) (lt_top2 hB)).trans (h.words i hi)⟩
theorem Blk.kept {w w' : World} {g H : Nat} {t : TypeId} {cs : Array Value} (h : Blk w g t cs) (hg : w.grownBy w' (some H)) (hne : g ≠ H) : Blk w' g t cs :=
  (hg.block g h.lt (by intro e; injection e with e; exact hne e)).trans h
theorem grown_setCell {w w' : World} {H : Nat} (h : w.grownBy w' (some H)) (i : Nat) (v : Value) : w.grownBy (w'.setCell ⟨H, i, none⟩ v) (some H) :=
  ⟨h.os, h.tape, h.output, by have := h.size; simpa [World.setCell] using this, fun k hk hne => by
    rw [Below.heap_setCell w' ⟨H, i, none⟩ v k (by intro e; exact hne (by rw [e]))]
    exact h.block k hk hne⟩
theorem grown_drewN {w w' : World} {r : Option Nat} (h : w.grownBy w' r) (n : Nat) : w.grownBy (w'.drewN n) r := ⟨h.os, h.tape, h.output, h.size, h.block⟩
theorem grown_below {w w' : World} {B : Nat} {r : Option Nat} (h : Below B w w') (hB : w.heap.size ≤ B) : w.grownBy w' r := ⟨h.os, h.tape, h.output, h.size, fun k hk _ => h.block k (by omega)⟩
/-- eight words in the midst of a block -/
def stC (pre post : List Value) (l : List (BitVec 32)) : Array Value := (pre ++ (l.map u32 ++ post)).toArray
theorem stC_at (pre post : List Value) (l : List (BitVec 32)) (i : Nat) (h : i < l.length) : (stC pre post l)[pre.length + i]? = some (.int .u32 (iv32 (atW l i))) := by
  unfold stC atW
  rw [List.getElem?_toArray, List.getElem?_append_right (by omega), show pre.length + i - pre.length = i by omega, List.getElem?_append_left (by simpa using h), List.getElem?_map, List.getElem?_eq_getElem h]
  rfl
theorem stC_set (pre post : List Value) (l : List (BitVec 32)) (i : Nat) (h : i < l.length) (y : BitVec 32) : (stC pre post l).setIfInBounds (pre.length + i) (.int .u32 (iv32 y)) = stC pre post (l.set i y) := by
  unfold stC
  rw [List.setIfInBounds_toArray, List.set_append_right _ _ (by omega), show pre.length + i - pre.length = i by omega, List.set_append_left _ _ (by simpa using h), List.map_set]
theorem S8.list_len (s : S8) : s.list.length = 8 := rfl
/-- the words in the midst of the sums -/
def adL (s v : S8) (q : Nat) : List (BitVec 32) := (s.add v).list.take q ++ s.list.drop q
theorem adL_len (s v : S8) (q : Nat) (h : q ≤ 8) : (adL s v q).length = 8 := by
  unfold adL; rw [List.length_append, List.length_take, List.length_drop, S8.list_len, S8.list_len]; omega
theorem adL_zero (s v : S8) : adL s v 0 = s.list := rfl
theorem adL_end (s v : S8) : adL s v 8 = (s.add v).list := rfl
theorem adL_at (s v : S8) (q : Nat) (h : q < 8) : atW (adL s v q) q = atS s q := by
  match q, h with
  | 0, _ | 1, _ | 2, _ | 3, _ | 4, _ | 5, _ | 6, _ | 7, _ => rfl
theorem adL_set (s v : S8) (q : Nat) (h : q < 8) : (adL s v q).set q (atS s q + atS v q) = adL s v (q + 1) := by
  match q, h with
  | 0, _ | 1, _ | 2, _ | 3, _ | 4, _ | 5, _ | 6, _ | 7, _ => rfl
theorem S8.add_comm (s v : S8) : s.add v = v.add s := by
  unfold S8.add
  simp only [BitVec.add_comm]
theorem atA_cells (v : S8) (q : Nat) (h : q < 8) : atA v.cells.toArray q = .int .u32 (iv32 (atS v q)) := by
  unfold atA; rw [cells_here v q h]; rfl
theorem bytes_info {bs : List (BitVec 8)} (h : bs.length = 64) : (Tryd.prog.info? 97).map (·.size) = some (bs.map u8).toArray.size := by rw [List.size_toArray, List.length_map, h]; kernel_rfl

set_option maxRecDepth 100000 in
set_option maxHeartbeats 4000000 in
theorem block_any (H : Nat) (t : TypeId) (pre post : List Value) (s : S8) (bs : List (BitVec 8)) (w : World) (hl : bs.length = 64) (hb : Blk w H t (stC pre post s.list)) (hH : gTop ≤ H) (hK : Laid w) :
    Calls Tryd.prog 51 #[.pointer (some ⟨H, pre.length, none⟩), .agg (bs.map u8).toArray] w fun e w' => e = .returned (.tuple #[]) ∧ Blk w' H t (stC pre post (s.mix bs).list) ∧ w.grownBy w' (some H) := by
  have HN := Lib.hid hl
  have HK := Lib.hid hK
  have HB := Lib.hid hb
  obtain ⟨off, hoff⟩ : ∃ off, off = pre.length := ⟨_, rfl⟩
  rw [← hoff]
  have HO := Lib.hid hoff
  have hz64 := zero64
  obtain ⟨Z, hZ⟩ : ∃ Z, Z = wDone [] := ⟨_, rfl⟩
  rw [← hZ] at hz64
  have HZ := Lib.hid hZ
  obtain ⟨PB, hPB⟩ : ∃ PB, PB = (bs.map u8).toArray := ⟨_, rfl⟩
  rw [← hPB]
  have HP := Lib.hid hPB
  have hHlt := hb.lt
  clear hl hb hK hoff hZ hPB
  go_enter Tryd.func51, Tryd.ntmps51
  go_upto_region 2 with fail
  refine wp_abst (fun w' => Hid (Blk w' w.heap.size 97 PB) ∧ Hid (Blk w' (w.heap.size + 1) 102 (wDone (wl bs 0))) ∧ Below w.heap.size w w')
    ⟨Lib.hid ((Blk.new w _ _).alloc _), Lib.hid (by rw [show wDone (wl bs 0) = Z from HZ.out.symm]; exact Blk.new2 w _ _ _), ((Below.refl _ _).alloc (Nat.le_refl _) _).alloc (by simp) _⟩ ?_
  rintro w1 ⟨hp1, hk1, hbel1⟩
  go_wp2_with fail
  go_loopw [20] (fun i wr => ∃ k : Nat, k ≤ 16 ∧ i = .int .i64 k ∧ Hid (Blk wr (w.heap.size + 1) 102 (wDone (wl bs k))) ∧ Hid (Blk wr w.heap.size 97 PB) ∧ Below w.heap.size w wr) (fun i _ => 16 - (intOf i).toNat)
  case atStart => exact ⟨0, by omega, rfl, hk1, hp1, hbel1⟩
  case round =>
    obtain ⟨k, hk, rfl, hb1, hp2, hbel⟩ := hrel
    clear hk1 hp1 hbel1
    by_cases hk16 : k < 16
    · have hlt : (k : Int) < 16 := by omega
      obtain ⟨l, hl⟩ : ∃ l, l = wl bs k := ⟨_, rfl⟩
      have hll : l.length = k := by rw [hl, wl_len]
      have hwd : wDone (wl bs k) = wCells l 0#32 := by rw [← hl]; unfold wDone; rw [if_pos (by omega)]
      rw [hwd] at hb1
      have HLL := Lib.hid hll
      have HL := Lib.hid hl
      clear hwd hll hl
      go_upto_region 5 with fail
      have hf1 := hb1.out.frozen k
      have ck : wr.cell? ⟨w.heap.size + 1, k, none⟩ = some (.int .u32 (iv32 0#32)) := by rw [hb1.out.cell]; have := wCells_here l 0#32; rw [HLL.out] at this; exact this
      have hx : ∀ j, j < 4 → ∃ x, bs[4 * k + j]? = some x ∧ wr.cell? ⟨w.heap.size, 4 * k + j, none⟩ = some (.int .u8 (iv8 x)) := by
        intro j hj
        have hlt2 : 4 * k + j < bs.length := by rw [HN.out]; omega
        refine ⟨bs[4 * k + j]'hlt2, List.getElem?_eq_getElem _, ?_⟩
        rw [hp2.out.cell, HP.out, List.getElem?_toArray, List.getElem?_map, List.getElem?_eq_getElem hlt2]
        rfl
      obtain ⟨x0, hx0, c0⟩ := hx 0 (by omega)
      obtain ⟨x1, hx1, c1⟩ := hx 1 (by omega)
      obtain ⟨x2, hx2, c2⟩ := hx 2 (by omega)
      obtain ⟨x3, hx3, c3⟩ := hx 3 (by omega)
      rw [Nat.add_zero] at c0 hx0
      have HBE := Lib.hid (be_prog bs (4 * k) x0 x1 x2 x3 hx0 hx1 hx2 hx3)
      clear hx hx0 hx1 hx2 hx3
      have w0 : IntKind.i64.wrap (4 * (k : Int)) = 4 * (k : Int) := by rw [IntKind.wrap_i64]; omega
      have w1 : IntKind.i64.wrap (4 * (k : Int) + 1) = 4 * (k : Int) + 1 := by rw [IntKind.wrap_i64]; omega
      have w2 : IntKind.i64.wrap (4 * (k : Int) + 2) = 4 * (k : Int) + 2 := by rw [IntKind.wrap_i64]; omega
      have w3 : IntKind.i64.wrap (4 * (k : Int) + 3) = 4 * (k : Int) + 3 := by rw [IntKind.wrap_i64]; omega
      have n0 : (4 * (k : Int)).toNat = 4 * k := by omega
      have n1 : (4 * (k : Int) + 1).toNat = 4 * k + 1 := by omega
      have n2 : (4 * (k : Int) + 2).toNat = 4 * k + 2 := by omega
      have n3 : (4 * (k : Int) + 3).toNat = 4 * k + 3 := by omega
      have p0 : (0 : Int) ≤ 4 * (k : Int) := by omega
      have p1 : (0 : Int) ≤ 4 * (k : Int) + 1 := by omega
      have p2 : (0 : Int) ≤ 4 * (k : Int) + 2 := by omega
      have p3 : (0 : Int) ≤ 4 * (k : Int) + 3 := by omega
      have q0 : 4 * (k : Int) < 64 := by omega
      have q1 : 4 * (k : Int) + 1 < 64 := by omega
      have q2 : 4 * (k : Int) + 2 < 64 := by omega
      have q3 : 4 * (k : Int) + 3 < 64 := by omega
      have pk : (0 : Int) ≤ (k : Int) := by omega
      have qk : (k : Int) < 64 := by omega
      have e0 := ext8_32 x0
      have e1 := ext8_32 x1
      have e2 := ext8_32 x2
      have e3 := ext8_32 x3
      have s0 := shl32 (x0.setWidth 32) 24 16777216 (by rfl)
      have s1 := shl32 (x1.setWidth 32) 16 65536 (by rfl)
      have s2 := shl32 (x2.setWidth 32) 8 256 (by rfl)
      have o1 := or32 (x0.setWidth 32 <<< 24) (x1.setWidth 32 <<< 16)
      have o2 := or32 (x0.setWidth 32 <<< 24 ||| x1.setWidth 32 <<< 16) (x2.setWidth 32 <<< 8)
      have o3 : bits .or .u32 (iv32 ((x0.setWidth 32 <<< 24 ||| x1.setWidth 32 <<< 16) ||| x2.setWidth 32 <<< 8)) (iv32 (x3.setWidth 32)) = iv32 (beTo bs (4 * k) 4) := by rw [or32, HBE.out]
      refine quiet_tail 31 (by kernel_rfl) (by kernel_rfl) ?_
      simp only [List.take_succ_cons, List.take_zero, List.drop_succ_cons, List.drop_zero]
      iterate 31 (go_big_quiet_step (fail))
      refine wpQuiet_nil ?_
      rintro _ ⟨nq, rfl⟩
      clear w0 w1 w2 w3 n0 n1 n2 n3 p0 p1 p2 p3 q0 q1 q2 q3 e0 e1 e2 e3 s0 s1 s2 o1 o2 o3 c0 c1 c2 c3
      go_wp2
      go_roundw
      case rel =>
        refine ⟨k + 1, by omega, by go_num, Lib.hid ?_, Lib.hid ?_, ?_⟩
        · have := (hb1.out.drewN nq).set k (.int .u32 (iv32 (beTo bs (4 * k) 4)))
          have e := wCells_set l 0#32 (beTo bs (4 * k) 4)
          rw [HLL.out] at e
          rw [e, wDone_next l _ (by rw [HLL.out]; omega)] at this
          rw [wl, if_pos hk16, ← HL.out]
          exact this
        · exact (hp2.out.drewN nq).far (by simp) _
        · exact (below_drewN hbel nq).setCell (by simp) _
      case measure => simp [intOf]; omega
    · have hk16' : k = 16 := by omega
      subst hk16'
      have hge : ¬ ((16 : Nat) : Int) < 16 := by omega
      go_wp2_with fail
      go_loopw [6] (fun i wr => ∃ k : Nat, 16 ≤ k ∧ k ≤ 64 ∧ i = .int .i64 k ∧ Hid (Blk wr (w.heap.size + 1) 102 (wDone (wl bs k))) ∧ Below w.heap.size w wr) (fun i _ => 64 - (intOf i).toNat)
      case atStart => exact ⟨16, by omega, by omega, rfl, hb1, hbel⟩
      case round =>
        obtain ⟨k, hk16, hk, rfl, hb2, hbel2⟩ := hrel
        clear hb1 hp2 hbel
        by_cases hk64 : k < 64
        · have hlt : (k : Int) < 64 := by omega
          obtain ⟨l, hl⟩ : ∃ l, l = wl bs k := ⟨_, rfl⟩
          have hll : l.length = k := by rw [hl, wl_len]
          have hwd : wDone (wl bs k) = wCells l 0#32 := by rw [← hl]; unfold wDone; rw [if_pos (by omega)]
          rw [hwd] at hb2
          have HLL := Lib.hid hll
          have HL := Lib.hid hl
          clear hwd hll hl
          go_upto_region 10 with fail
          have e16 : IntKind.i64.wrap ((k : Int) - 16) = (k : Int) - 16 := by rw [IntKind.wrap_i64]; omega
          have n16 : ((k : Int) - 16).toNat = k - 16 := by omega
          have p16 : (0 : Int) ≤ (k : Int) - 16 := by omega
          have q16 : (k : Int) - 16 < 64 := by omega
          have c16 : wr.cell? ⟨w.heap.size + 1, k - 16, none⟩ = some (.int .u32 (iv32 (atW l (k - 16)))) := by rw [hb2.out.cell]; exact wCells_at l _ _ (by rw [HLL.out]; omega)
          have e15 : IntKind.i64.wrap ((k : Int) - 15) = (k : Int) - 15 := by rw [IntKind.wrap_i64]; omega
          have n15 : ((k : Int) - 15).toNat = k - 15 := by omega
          have p15 : (0 : Int) ≤ (k : Int) - 15 := by omega
          have q15 : (k : Int) - 15 < 64 := by omega
          have c15 : wr.cell? ⟨w.heap.size + 1, k - 15, none⟩ = some (.int .u32 (iv32 (atW l (k - 15)))) := by rw [hb2.out.cell]; exact wCells_at l _ _ (by rw [HLL.out]; omega)
          have e7 : IntKind.i64.wrap ((k : Int) - 7) = (k : Int) - 7 := by rw [IntKind.wrap_i64]; omega
          have n7 : ((k : Int) - 7).toNat = k - 7 := by omega
          have p7 : (0 : Int) ≤ (k : Int) - 7 := by omega
          have q7 : (k : Int) - 7 < 64 := by omega
          have c7 : wr.cell? ⟨w.heap.size + 1, k - 7, none⟩ = some (.int .u32 (iv32 (atW l (k - 7)))) := by rw [hb2.out.cell]; exact wCells_at l _ _ (by rw [HLL.out]; omega)
          have e2 : IntKind.i64.wrap ((k : Int) - 2) = (k : Int) - 2 := by rw [IntKind.wrap_i64]; omega
          have n2 : ((k : Int) - 2).toNat = k - 2 := by omega
          have p2 : (0 : Int) ≤ (k : Int) - 2 := by omega
          have q2 : (k : Int) - 2 < 64 := by omega
          have c2 : wr.cell? ⟨w.heap.size + 1, k - 2, none⟩ = some (.int .u32 (iv32 (atW l (k - 2)))) := by rw [hb2.out.cell]; exact wCells_at l _ _ (by rw [HLL.out]; omega)
          have hf1 := hb2.out.frozen k
          have ck : wr.cell? ⟨w.heap.size + 1, k, none⟩ = some (.int .u32 (iv32 0#32)) := by rw [hb2.out.cell]; have := wCells_here l 0#32; rw [HLL.out] at this; exact this
          obtain ⟨X, hX⟩ : ∃ X, X = atW l (k - 15) := ⟨_, rfl⟩
          obtain ⟨Y, hY⟩ : ∃ Y, Y = atW l (k - 2) := ⟨_, rfl⟩
          obtain ⟨A, hA⟩ : ∃ A, A = atW l (k - 16) := ⟨_, rfl⟩
          obtain ⟨B, hB⟩ : ∃ B, B = atW l (k - 7) := ⟨_, rfl⟩
          rw [← hX] at c15
          rw [← hY] at c2
          rw [← hA] at c16
          rw [← hB] at c7
          have hnx : nextW l k = ((sm1 Y + B) + sm0 X) + A := by
            rw [hA, hX, hB, hY]
            show atW l (k - 16) + sm0 (atW l (k - 15)) + atW l (k - 7) + sm1 (atW l (k - 2)) = _
            ac_rfl
          obtain ⟨N, hN⟩ : ∃ N, N = nextW l k := ⟨_, rfl⟩
          rw [← hN] at hnx
          have HNX : Hid (wl bs (k + 1) = l ++ [N]) := Lib.hid (by rw [wl, if_neg (by omega), ← HL.out, hN])
          have r1 := shr32 Y 10 1024 (by rfl)
          have r2 := shr32 X 3 8 (by rfl)
          have a1 := add32 (sm1 Y) B
          have a2 := add32 (sm1 Y + B) (sm0 X)
          have a3 : IntKind.u32.wrap (iv32 (sm1 Y + B + sm0 X) + iv32 A) = iv32 N := by rw [add32, hnx]
          have T1 : ∀ j, Calls Tryd.prog 58 #[.int .u32 (iv32 Y), .int .i64 17, .int .i64 19, .int .u32 (iv32 (Y >>> 10))] (wr.drewN j) fun e w'' => e = .returned (.int .u32 (iv32 (sm1 Y))) ∧ ∃ m, w'' = wr.drewN m := fun j =>
            (xor3_any Y 17 19 (Y >>> 10) (by omega) (by omega) (by omega) (by omega) (wr.drewN j)).mono fun _ _ ⟨he, hm⟩ => ⟨he, j, hm⟩
          have T2 : ∀ j, Calls Tryd.prog 58 #[.int .u32 (iv32 X), .int .i64 7, .int .i64 18, .int .u32 (iv32 (X >>> 3))] (wr.drewN j) fun e w'' => e = .returned (.int .u32 (iv32 (sm0 X))) ∧ ∃ m, w'' = wr.drewN m := fun j =>
            (xor3_any X 7 18 (X >>> 3) (by omega) (by omega) (by omega) (by omega) (wr.drewN j)).mono fun _ _ ⟨he, hm⟩ => ⟨he, j, hm⟩
          clear hX hY hA hB hN hnx
          refine quiet_tail 33 (by kernel_rfl) (by kernel_rfl) ?_
          simp only [List.take_succ_cons, List.take_zero, List.drop_succ_cons, List.drop_zero]
          iterate 11 (go_big_quiet_step (exact T1 _))
          iterate 22 (go_big_quiet_step (exact T2 _))
          refine wpQuiet_nil ?_
          rintro _ ⟨nq, rfl⟩
          clear e16 n16 p16 q16 e7 n7 p7 q7 e15 n15 p15 q15 e2 n2 p2 q2 r1 r2 a1 a2 a3 T1 T2 c16 c15 c7 c2
          go_wp2
          go_roundw
          case rel =>
            refine ⟨k + 1, by omega, by omega, by go_num, Lib.hid ?_, ?_⟩
            · have := (hb2.out.drewN nq).set k (.int .u32 (iv32 N))
              have e := wCells_set l 0#32 N
              rw [HLL.out] at e
              rw [e, wDone_next l _ (by rw [HLL.out]; omega)] at this
              rw [HNX.out]
              exact this
            · exact (below_drewN hbel2 nq).setCell (by simp) _
          case measure => simp [intOf]; omega
        · have hk64' : k = 64 := by omega
          subst hk64'
          have hge64 : ¬ ((64 : Nat) : Int) < 64 := by omega
          go_upto_region 11 with fail
          have hH1 := Lib.hid (HB.out.below hbel2 hHlt)
          have f0 : wr.cell? ⟨H, off, none⟩ = some (.int .u32 (iv32 s.a)) := by rw [hH1.out.cell, HO.out]; exact stC_at pre post s.list 0 (by rw [S8.list_len]; omega)
          have f1 : wr.cell? ⟨H, off + 1, none⟩ = some (.int .u32 (iv32 s.b)) := by rw [hH1.out.cell, HO.out]; exact stC_at pre post s.list 1 (by rw [S8.list_len]; omega)
          have f2 : wr.cell? ⟨H, off + 2, none⟩ = some (.int .u32 (iv32 s.c)) := by rw [hH1.out.cell, HO.out]; exact stC_at pre post s.list 2 (by rw [S8.list_len]; omega)
          have f3 : wr.cell? ⟨H, off + 3, none⟩ = some (.int .u32 (iv32 s.d)) := by rw [hH1.out.cell, HO.out]; exact stC_at pre post s.list 3 (by rw [S8.list_len]; omega)
          have f4 : wr.cell? ⟨H, off + 4, none⟩ = some (.int .u32 (iv32 s.e)) := by rw [hH1.out.cell, HO.out]; exact stC_at pre post s.list 4 (by rw [S8.list_len]; omega)
          have f5 : wr.cell? ⟨H, off + 5, none⟩ = some (.int .u32 (iv32 s.f)) := by rw [hH1.out.cell, HO.out]; exact stC_at pre post s.list 5 (by rw [S8.list_len]; omega)
          have f6 : wr.cell? ⟨H, off + 6, none⟩ = some (.int .u32 (iv32 s.g)) := by rw [hH1.out.cell, HO.out]; exact stC_at pre post s.list 6 (by rw [S8.list_len]; omega)
          have f7 : wr.cell? ⟨H, off + 7, none⟩ = some (.int .u32 (iv32 s.h)) := by rw [hH1.out.cell, HO.out]; exact stC_at pre post s.list 7 (by rw [S8.list_len]; omega)
          refine quiet_in (fun k => wr.drewN k) 1 rfl (by kernel_rfl) (by kernel_rfl) ?_
          iterate 40 (go_big_quiet_step (fail))
          refine wpQuiet_nil ?_
          rintro _ ⟨nq, rfl⟩
          clear f0 f1 f2 f3 f4 f5 f6 f7 hH1
          have hb3 := Lib.hid (hb2.out.drewN nq)
          have hbel3 := below_drewN hbel2 nq
          clear hb2 hbel2
          generalize wr.drewN nq = W3 at *
          obtain ⟨ws, hws⟩ : ∃ ws, ws = wl bs 64 := ⟨_, rfl⟩
          rw [show wDone (wl bs 64) = wAll ws by rw [hws]; unfold wDone; rw [if_neg (by rw [wl_len]; omega)]] at hb3
          have HW := Lib.hid hws
          clear hws
          go_wp2_with fail
          go_loopw [7, 8, 9, 10, 11, 12, 13, 14, 124] (fun x0 x1 x2 x3 x4 x5 x6 x7 i wr => ∃ (k : Nat) (v : S8), k ≤ 64 ∧ Hid (v = s.rounds ws k) ∧ i = .int .i64 k ∧ x0 = .int .u32 (iv32 v.a) ∧ x1 = .int .u32 (iv32 v.b) ∧ x2 = .int .u32 (iv32 v.c) ∧ x3 = .int .u32 (iv32 v.d) ∧ x4 = .int .u32 (iv32 v.e) ∧ x5 = .int .u32 (iv32 v.f) ∧ x6 = .int .u32 (iv32 v.g) ∧ x7 = .int .u32 (iv32 v.h) ∧ Hid (Blk wr (w.heap.size + 1) 102 (wAll ws)) ∧ Below w.heap.size w wr) (fun _ _ _ _ _ _ _ _ i _ => 64 - (intOf i).toNat)
          case atStart => exact ⟨0, s, by omega, Lib.hid rfl, rfl, rfl, rfl, rfl, rfl, rfl, rfl, rfl, rfl, hb3, hbel3⟩
          case round =>
            obtain ⟨k, v, hk, HV, rfl, rfl, rfl, rfl, rfl, rfl, rfl, rfl, rfl, hb4, hbel4⟩ := hrel
            clear hb3 hbel3
            by_cases hk64 : k < 64
            · have hlt : (k : Int) < 64 := by omega
              go_upto_region 15 with fail
              have cw : wr.cell? ⟨w.heap.size + 1, k, none⟩ = some (.int .u32 (iv32 (atW ws k))) := by
                rw [hb4.out.cell]; exact wAll_at ws k (by rw [HW.out, wl_len]; exact hk64)
              have cg := (HK.out.below hbel4 (Nat.le_trans hH (Nat.le_of_lt hHlt))).words k hk64
              have R1 : ∀ j, Calls Tryd.prog 59 #[.int .u32 (iv32 v.e), .int .i64 (-25)] (wr.drewN j) fun e w'' => e = .returned (.int .u32 (iv32 (rr v.e 25))) ∧ ∃ m, w'' = wr.drewN m := fun j =>
                (rot32_any v.e 25 (by omega) (by omega) (wr.drewN j)).mono fun _ _ ⟨he, hm⟩ => ⟨he, j, hm⟩
              have T1 : ∀ j, Calls Tryd.prog 58 #[.int .u32 (iv32 v.e), .int .i64 6, .int .i64 11, .int .u32 (iv32 (rr v.e 25))] (wr.drewN j) fun e w'' => e = .returned (.int .u32 (iv32 (bg1 v.e))) ∧ ∃ m, w'' = wr.drewN m := fun j =>
                (xor3_any v.e 6 11 (rr v.e 25) (by omega) (by omega) (by omega) (by omega) (wr.drewN j)).mono fun _ _ ⟨he, hm⟩ => ⟨he, j, hm⟩
              have a1 := add32 v.h (bg1 v.e)
              have a2 := add32 (v.h + bg1 v.e) (chP v.e v.f v.g)
              have a3 := add32 (v.h + bg1 v.e + chP v.e v.f v.g) (kW k)
              have a4 : IntKind.u32.wrap (iv32 (v.h + bg1 v.e + chP v.e v.f v.g + kW k) + iv32 (atW ws k)) = iv32 (v.t1 k (atW ws k)) := by rw [add32]; rfl
              have b1 := xor32 v.f v.g
              have b2 := and32 v.e (v.f ^^^ v.g)
              have b3 : bits .xor .u32 (iv32 v.g) (iv32 (v.e &&& (v.f ^^^ v.g))) = iv32 (chP v.e v.f v.g) := by rw [xor32, ch_prog]
              have pk : (0 : Int) ≤ (k : Int) := by omega
              refine quiet_in (fun k => wr.drewN k) 1 rfl (by kernel_rfl) (by kernel_rfl) ?_
              iterate 4 (go_big_quiet_step (exact R1 _))
              iterate 19 (go_big_quiet_step (exact T1 _))
              refine wpQuiet_nil ?_
              rintro _ ⟨nq, rfl⟩
              have hb5 := Lib.hid (hb4.out.drewN nq)
              have hbel5 := below_drewN hbel4 nq
              clear hb4 hbel4 cw cg R1 T1 a1 a2 a3 a4 b1 b2 b3
              generalize wr.drewN nq = W4 at *
              obtain ⟨A, hA⟩ : ∃ A, A = v.t1 k (atW ws k) := ⟨_, rfl⟩
              rw [← hA]
              have HA := Lib.hid hA
              clear hA
              have g1 := and32 v.a v.b
              have g2 := or32 v.a v.b
              have g3 := and32 v.c (v.a ||| v.b)
              have g4 : bits .or .u32 (iv32 (v.a &&& v.b)) (iv32 (v.c &&& (v.a ||| v.b))) = iv32 (mjP v.a v.b v.c) := by rw [or32, mj_prog]
              have g5 : IntKind.u32.wrap (iv32 (bg0 v.a) + iv32 (mjP v.a v.b v.c)) = iv32 v.t2 := by rw [add32]; rfl
              have g6 := add32 A v.t2
              have g7 := add32 v.d A
              go_wp2_with fail
              refine (rot32_any v.a 22 (by omega) (by omega) _).mono ?_
              rintro e w5 ⟨rfl, hw5⟩
              replace hw5 := hw5.symm
              subst hw5
              go_wp2_with fail
              refine (xor3_any v.a 2 13 (rr v.a 22) (by omega) (by omega) (by omega) (by omega) _).mono ?_
              rintro e w5 ⟨rfl, hw5⟩
              replace hw5 := hw5.symm
              subst hw5
              rw [show (rr v.a 2 ^^^ rr v.a 13) ^^^ rr v.a 22 = bg0 v.a from rfl]
              go_wp2
              clear g1 g2 g3 g4 g5 g6 g7
              go_roundw
              case rel => exact ⟨k + 1, s.rounds ws (k + 1), by omega, Lib.hid rfl, by go_num, by rw [S8.rounds, ← HV.out, HA.out]; rfl, by rw [S8.rounds, ← HV.out]; rfl, by rw [S8.rounds, ← HV.out]; rfl, by rw [S8.rounds, ← HV.out]; rfl, by rw [S8.rounds, ← HV.out, HA.out]; rfl, by rw [S8.rounds, ← HV.out]; rfl, by rw [S8.rounds, ← HV.out]; rfl, by rw [S8.rounds, ← HV.out]; rfl, hb5, hbel5⟩
              case measure => simp [intOf]; omega
            · have hk64' : k = 64 := by omega
              subst hk64'
              have hge64 : ¬ ((64 : Nat) : Int) < 64 := by omega
              go_upto_region 20 with fail
              have hsv : Hid (s.add v = s.mix bs) := Lib.hid (by rw [S8.add_comm, HV.out, HW.out]; rfl)
              obtain ⟨CS, hCS⟩ : ∃ CS, CS = v.cells.toArray := ⟨_, rfl⟩
              rw [show (#[Value.int .u32 (iv32 v.a), .int .u32 (iv32 v.b), .int .u32 (iv32 v.c), .int .u32 (iv32 v.d), .int .u32 (iv32 v.e), .int .u32 (iv32 v.f), .int .u32 (iv32 v.g), .int .u32 (iv32 v.h)] : Array Value) = CS from hCS.symm]
              have hsz : CS.size = 8 := by rw [hCS]; rfl
              have HEL : Hid (∀ q, q < 8 → atA CS q = .int .u32 (iv32 (atS v q))) := Lib.hid (fun q hq => by rw [hCS]; exact atA_cells v q hq)
              obtain ⟨ti, hti, hts⟩ : ∃ ti, Tryd.prog.info? 63 = some ti ∧ ti.size = 1 := by
                have : (Tryd.prog.info? 63).map (·.size) = some 1 := by kernel_rfl
                exact Option.map_eq_some_iff.1 this
              have HIX := Lib.hid (run_index_arr (P := Tryd.prog) 87 63 8 .u32 ti Tryd.underlying87 Tryd.underlying63 hti hts)
              have hst : Hid (Blk wr H t (stC pre post (adL s v 0))) := Lib.hid (by rw [adL_zero]; exact HB.out.below hbel4 hHlt)
              have hgr : w.grownBy wr (some H) := grown_below hbel4 (Nat.le_refl _)
              clear hCS hti hts hb4 hbel4
              go_loopw [185] (fun i wr2 => ∃ q : Nat, q ≤ 8 ∧ i = .int .i64 q ∧ Hid (Blk wr2 H t (stC pre post (adL s v q))) ∧ w.grownBy wr2 (some H)) (fun i _ => 8 - (intOf i).toNat)
              case atStart => exact ⟨0, by omega, rfl, hst, hgr⟩
              case round =>
                obtain ⟨q, hq, rfl, hst2, hgr2⟩ := hrel
                clear hst hgr
                by_cases hq8 : q < 8
                · have hltq : (q : Int) < 8 := by omega
                  have hix := HIX.out
                  have hx := HEL.out q hq8
                  go_upto_region 22 with fail
                  clear hix hx
                  have f0 : wr.cell? ⟨H, off + q, none⟩ = some (.int .u32 (iv32 (atS s q))) := by
                    rw [hst2.out.cell, HO.out, stC_at pre post _ q (by rw [adL_len s v q hq]; exact hq8), adL_at s v q hq8]
                  have a1 := add32 (atS s q) (atS v q)
                  have fz := hst2.out.frozen (off + q)
                  have pq : (0 : Int) ≤ (q : Int) := by omega
                  refine quiet_tail 9 (by kernel_rfl) (by kernel_rfl) ?_
                  simp only [List.take_succ_cons, List.take_zero, List.drop_succ_cons, List.drop_zero]
                  iterate 9 (go_big_quiet_step (fail))
                  refine wpQuiet_nil ?_
                  rintro _ ⟨nq, rfl⟩
                  clear a1
                  go_wp2
                  go_roundw
                  case rel =>
                    refine ⟨q + 1, by omega, by go_num, Lib.hid ?_, ?_⟩
                    · have := (hst2.out.drewN nq).set (off + q) (.int .u32 (iv32 (atS s q + atS v q)))
                      rw [HO.out, stC_set pre post _ q (by rw [adL_len s v q hq]; exact hq8), adL_set s v q hq8] at this
                      rw [HO.out]
                      exact this
                    · exact grown_setCell (grown_drewN hgr2 nq) _ _
                  case measure => simp [intOf]; omega
                · have hq8' : q = 8 := by omega
                  subst hq8'
                  have hge8 : ¬ ((8 : Nat) : Int) < 8 := by omega
                  rw [adL_end, hsv.out] at hst2
                  go_wp2
                  refine bodyPost_end (results_none rfl _ _ _) rfl ?_
                  exact ⟨rfl, hst2.out, hgr2⟩
end Go.Proofs.YtikjhnbehihbjaaDoor
