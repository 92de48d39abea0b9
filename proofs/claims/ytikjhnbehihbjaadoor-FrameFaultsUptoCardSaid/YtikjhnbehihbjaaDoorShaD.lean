/- sporranref01.mix: the eight words behind a block: the walk. -/
import Derived.Test.YtikjhnbehihbjaaDoorShaC
import Derived.Test.YtikjhnbehihbjaaDoorEarlyC
namespace Go.Proofs.YtikjhnbehihbjaaDoor
open Go.RowKit

structure S8 where
  a : BitVec 32
  b : BitVec 32
  c : BitVec 32
  d : BitVec 32
  e : BitVec 32
  f : BitVec 32
  g : BitVec 32
  h : BitVec 32
def S8.list (s : S8) : List (BitVec 32) := [s.a, s.b, s.c, s.d, s.e, s.f, s.g, s.h]
def S8.cells (s : S8) : List Value := s.list.map u32
def bg0 (a : BitVec 32) : BitVec 32 := (rr a 2 ^^^ rr a 13) ^^^ rr a 22
def bg1 (e : BitVec 32) : BitVec 32 := (rr e 6 ^^^ rr e 11) ^^^ rr e 25
def chP (e f g : BitVec 32) : BitVec 32 := (e &&& f) ^^^ (~~~e &&& g)
def mjP (a b c : BitVec 32) : BitVec 32 := ((a &&& b) ^^^ (a &&& c)) ^^^ (b &&& c)
def S8.t1 (s : S8) (k : Nat) (x : BitVec 32) : BitVec 32 := s.h + bg1 s.e + chP s.e s.f s.g + kW k + x
def S8.t2 (s : S8) : BitVec 32 := bg0 s.a + mjP s.a s.b s.c
def S8.round (s : S8) (k : Nat) (x : BitVec 32) : S8 := ⟨s.t1 k x + s.t2, s.a, s.b, s.c, s.d + s.t1 k x, s.e, s.f, s.g⟩
def S8.rounds (s : S8) (ws : List (BitVec 32)) : Nat → S8
  | 0 => s
  | k + 1 => (s.rounds ws k).round k (atW ws k)
/-- the words in the midst of the shift -/
def shC (s : S8) (j : Nat) : Array Value := ((s.list.take (j + 1) ++ (s.list.drop j).take (7 - j)).map u32).toArray
def atS (s : S8) (i : Nat) : BitVec 32 := atW s.list i
theorem shC_seven (s : S8) : shC s 7 = s.cells.toArray := rfl
theorem shC_at (s : S8) (j : Nat) (h0 : 0 < j) (h : j ≤ 7) : (shC s j)[j - 1]? = some (.int .u32 (iv32 (atS s (j - 1)))) := by
  obtain ⟨a, b, c, d, e, f, g, h⟩ := s
  match j, h0, h with
  | 1, _, _ | 2, _, _ | 3, _, _ | 4, _, _ | 5, _, _ | 6, _, _ | 7, _, _ => rfl
theorem shC_here (s : S8) (j : Nat) (h : j ≤ 7) : (shC s j)[j]? = some (.int .u32 (iv32 (atS s j))) := by
  obtain ⟨a, b, c, d, e, f, g, h⟩ := s
  match j, h with
  | 0, _ | 1, _ | 2, _ | 3, _ | 4, _ | 5, _ | 6, _ | 7, _ => rfl
theorem shC_set (s : S8) (j : Nat) (h0 : 0 < j) (h : j ≤ 7) : (shC s j).setIfInBounds j (.int .u32 (iv32 (atS s (j - 1)))) = shC s (j - 1) := by
  obtain ⟨a, b, c, d, e, f, g, h⟩ := s
  match j, h0, h with
  | 1, _, _ | 2, _, _ | 3, _, _ | 4, _, _ | 5, _, _ | 6, _, _ | 7, _, _ => rfl
theorem shC_end (s : S8) (x y : BitVec 32) : ((shC s 0).setIfInBounds 0 (.int .u32 (iv32 x))).setIfInBounds 4 (.int .u32 (iv32 y)) = (S8.cells ⟨x, s.a, s.b, s.c, y, s.e, s.f, s.g⟩).toArray := by
  obtain ⟨a, b, c, d, e, f, g, h⟩ := s
  rfl
def zero8L : List Value := S8.cells ⟨0#32, 0#32, 0#32, 0#32, 0#32, 0#32, 0#32, 0#32⟩
theorem zero8 : ∀ w, (zeroValue 87).run Tryd.prog w = .ok (.agg zero8L.toArray) w := zero_of2 (by kernel_rfl)
theorem S8.cells_len (s : S8) : s.cells.length = 8 := rfl
theorem S8.cells_one (s : S8) : s.cells.toArray.all (·.oneCell') = true := by
  rw [List.all_toArray, S8.cells]; simp [Value.oneCell']
theorem S8.info (s : S8) : (Tryd.prog.info? 87).map (·.size) = some s.cells.toArray.size := by rw [List.size_toArray, S8.cells_len]; kernel_rfl
theorem Blk.range8 {w : World} {g : Nat} {t : TypeId} {cs : List Value} (h : Blk w g t cs.toArray) : w.rangeAt g 0 cs := fun j v hj => by
  rw [Nat.zero_add, h.cell, List.getElem?_toArray]; exact hj
theorem not32 (x : BitVec 32) : bits BinOp.xor IntKind.u32 (if IntKind.u32.signed = true then -1 else IntKind.u32.max) (iv32 x) = iv32 (~~~x) := by
  have := xor32 (BitVec.allOnes 32) x
  rw [BitVec.allOnes_xor] at this
  exact this
theorem S8.infoL (s : S8) : (Tryd.prog.info? 87).map (·.size) = some s.cells.length := by rw [S8.cells_len]; kernel_rfl
/-- as w2 below its size -/
def SBw (w2 w' : World) : Prop := Below w2.heap.size w2 w'
theorem SBw.drew {w2 w' : World} (h : SBw w2 w') : SBw w2 w'.drew := Below.drew h
theorem SBw.drewN {w2 w' : World} (h : SBw w2 w') (k : Nat) : SBw w2 (w'.drewN k) := below_drewN h k
theorem SBw.refl (w2 : World) : SBw w2 w2 := Below.refl _ _
theorem wAll_at (l : List (BitVec 32)) (i : Nat) (h : i < l.length) : (wAll l)[i]? = some (.int .u32 (iv32 (atW l i))) := by
  unfold wAll atW
  rw [List.getElem?_toArray, List.getElem?_map, List.getElem?_eq_getElem h]
  rfl
theorem act_put_someD (cs : Array Value) (ds : List Deferred) (n : Nat) (v : Value) : (Act.mk cs ds).put (some n) v = ⟨cs.setIfInBounds n v, ds⟩ := rfl
/-- sums, word by word -/
def S8.add (s t : S8) : S8 := ⟨s.a + t.a, s.b + t.b, s.c + t.c, s.d + t.d, s.e + t.e, s.f + t.f, s.g + t.g, s.h + t.h⟩
/-- the words in the midst of the last sums -/
def adC (v s : S8) (q : Nat) : Array Value := (((v.add s).list.take q ++ v.list.drop q).map u32).toArray
theorem adC_zero (v s : S8) : adC v s 0 = v.cells.toArray := rfl
theorem adC_end (v s : S8) : adC v s 8 = (v.add s).cells.toArray := rfl
theorem adC_here (v s : S8) (q : Nat) (h : q < 8) : (adC v s q)[q]? = some (.int .u32 (iv32 (atS v q))) := by
  match q, h with
  | 0, _ | 1, _ | 2, _ | 3, _ | 4, _ | 5, _ | 6, _ | 7, _ => rfl
theorem cells_here (s : S8) (q : Nat) (h : q < 8) : s.cells.toArray[q]? = some (.int .u32 (iv32 (atS s q))) := by
  match q, h with
  | 0, _ | 1, _ | 2, _ | 3, _ | 4, _ | 5, _ | 6, _ | 7, _ => rfl
theorem adC_set (v s : S8) (q : Nat) (h : q < 8) : (adC v s q).setIfInBounds q (.int .u32 (iv32 (atS v q + atS s q))) = adC v s (q + 1) := by
  match q, h with
  | 0, _ | 1, _ | 2, _ | 3, _ | 4, _ | 5, _ | 6, _ | 7, _ => rfl
/-- the eight words behind a block -/
def S8.mix (s : S8) (bs : List (BitVec 8)) : S8 := (s.rounds (wl bs 64) 64).add s

set_option maxRecDepth 100000 in
set_option maxHeartbeats 4000000 in
theorem mix_any (s : S8) (p : Option Addr) (c : Nat) (bs : List (BitVec 8)) (w : World) (hn : bs.length = 64) (hr : Row8 w p bs) :
    Calls Tryd.prog 46 #[.agg s.cells.toArray, .slice p 64 c] w fun e w' => e = .returned (.agg (s.mix bs).cells.toArray) ∧ Below w.heap.size w w' := by
  have HN := Lib.hid hn
  have hz8 := zero8
  have hz64 := zero64
  obtain ⟨Z, hZ⟩ : ∃ Z, Z = zero8L.toArray := ⟨_, rfl⟩
  obtain ⟨Y, hY⟩ : ∃ Y, Y = wDone [] := ⟨_, rfl⟩
  obtain ⟨S, hS⟩ : ∃ S, S = s.cells.toArray := ⟨_, rfl⟩
  rw [← hZ] at hz8
  rw [← hY] at hz64
  rw [← hS]
  have HZ := Lib.hid hZ
  have HY := Lib.hid hY
  have HS := Lib.hid hS
  clear hZ hY hS hn
  go_enter Tryd.func46, Tryd.ntmps46
  go_upto_region 1 with fail
  refine wp_abst (fun w' => Hid (Blk w' w.heap.size 87 s.cells.toArray) ∧ Hid (Blk w' (w.heap.size + 1) 87 Z) ∧ Below w.heap.size w w')
    ⟨Lib.hid (by rw [← HS.out]; exact (Blk.new w _ _).alloc _), Lib.hid (by exact Blk.new2 w _ _ _), ((Below.refl _ _).alloc (Nat.le_refl _) _).alloc (by simp) _⟩ ?_
  rintro w1 ⟨hs1, hz1, hbel1⟩
  have hr1 := hr.below hbel1 (Nat.le_refl _)
  go_wp2_with fail
  refine (spread_any p c bs _ HN.out hr1).mono ?_
  rintro e w2 ⟨rfl, hbel2⟩
  have hlt := hz1.out.lt
  have hs2 := Lib.hid (hs1.out.below hbel2 (by omega))
  have hz2 := Lib.hid (hz1.out.below hbel2 hlt)
  have hbw2 := hbel1.trans (hbel2.mono hbel1.size)
  obtain ⟨ws, hws⟩ : ∃ ws, ws = wl bs 64 := ⟨_, rfl⟩
  rw [← hws]
  have HW := Lib.hid hws
  have hYs : Hid (Y.size = 64) := Lib.hid (by rw [HY.out]; rfl)
  have hwi := wAll_info bs
  have hws1 := wAll_size bs
  have hwo := wAll_one bs
  rw [← hws] at hwi hws1 hwo
  have HI := Lib.hid hwi
  have HS1 := Lib.hid hws1
  have HO := Lib.hid hwo
  clear hws hs1 hz1 hbel1 hbel2 hr1 hwi hws1 hwo
  have hlt2 := hz2.out.lt
  go_wp2_with (first
    | (with_reducible refine wp_store_blk (o := ⟨none, _, _, _, _, _⟩) ?_ 102 (.tmp 5) (.tmp 14) ?_ w2.heap.size 102 Y (wAll ws) ?_ ?_ (Blk.new w2 _ _) ?_ ?_ ?_ w2.heap.size w2 ?_ ?_ ?_
       · rfl
       · rfl
       · rfl
       · rfl
       · exact HI.out
       · exact hYs.out.trans HS1.out.symm
       · exact HO.out
       · exact (Below.refl _ _).alloc (Nat.le_refl _) _
       · exact Nat.le_refl _
       intro w3 hw3 hbel3 _ _
       have hrg3 := (hs2.out.below hbel3 (by omega)).range8
       have hs3 := Lib.hid (hs2.out.below hbel3 (by omega))
       have hz3 := Lib.hid (hz2.out.below hbel3 hlt2)
       have hlt3 := hw3.out.lt)
    | (with_reducible refine wpList_load_mid (op := ⟨some 15, _, _, _, _, _⟩) ?_ 87 (.tmp 2) ?_ w.heap.size 0 ?_ s.cells _ hrg3 Tryd.underlying87 ?_ ?_ ?_
       · rfl
       · rfl
       · rfl
       · rfl
       · exact S8.infoL s)
    | (with_reducible refine wp_store_blk (o := ⟨none, _, _, _, _, _⟩) ?_ 87 (.tmp 6) (.tmp 15) ?_ w3.heap.size 87 Z s.cells.toArray ?_ ?_ (Blk.new w3 _ _) ?_ ?_ ?_ w3.heap.size w3 ?_ ?_ ?_
       · rfl
       · rfl
       · rfl
       · rfl
       · exact S8.info s
       · rw [HZ.out]; rfl
       · exact S8.cells_one s
       · exact (Below.refl _ _).alloc (Nat.le_refl _) _
       · exact Nat.le_refl _
       intro w4 hv4 hbel4 _ _))
  have hs4 := Lib.hid (hs3.out.below hbel4 (by omega))
  have hz4 := Lib.hid (hz3.out.below hbel4 (by omega))
  have hw4 := Lib.hid (hw3.out.below hbel4 hlt3)
  have hbw4 := (hbw2.trans (hbel3.mono hbw2.size)).trans (hbel4.mono (Nat.le_trans hbw2.size hbel3.size))
  clear hs2 hz2 hbw2 hrg3 hs3 hz3 hw3 hbel3 hbel4
  generalize w2.heap.size = G5 at *
  generalize w3.heap.size = G6 at *
  clear hz8 hz64 HI HO HS1 hYs HY hlt
  go_loopw [16] (fun i wr => ∃ k : Nat, k ≤ 64 ∧ i = .int .i64 k ∧ Hid (Blk wr G6 87 (s.rounds ws k).cells.toArray) ∧ Hid (Blk wr G5 102 (wAll ws)) ∧ Hid (Blk wr (w.heap.size + 1) 87 Z) ∧ Hid (Blk wr w.heap.size 87 s.cells.toArray) ∧ Below w.heap.size w wr) (fun i _ => 64 - (intOf i).toNat)
  case atStart => exact ⟨0, by omega, rfl, hv4, hw4, hz4, hs4, hbw4⟩
  case round =>
    obtain ⟨k, hk, rfl, hv, hw5, hz5, hs5, hbel⟩ := hrel
    clear hv4 hw4 hz4 hs4 hbw4
    by_cases hk64 : k < 64
    · have hlt : (k : Int) < 64 := by omega
      obtain ⟨v, hvv⟩ : ∃ v, v = s.rounds ws k := ⟨_, rfl⟩
      rw [← hvv] at hv
      have HV := Lib.hid hvv
      clear hvv
      go_upto_region 6 with fail
      have f4 : wr.cell? ⟨G6, 4, none⟩ = some (.int .u32 (iv32 v.e)) := by rw [hv.out.cell]; rfl
      have T : ∀ (x : BitVec 32) (a : Nat) (b : Int), b = (a : Int) → a < 32 → ∀ W j, Calls Tryd.prog 53 #[.int .u32 (iv32 x), .int .i64 b] (World.drewN W j) fun e w'' => e = .returned (.int .u32 (iv32 (rr x a))) ∧ ∃ m, w'' = World.drewN W m := by
        intro x a b e hs W j
        subst e
        exact (turned_any x a hs (World.drewN W j)).mono fun _ _ ⟨he, hm⟩ => ⟨he, j, hm⟩
      have T6 := T v.e 6 6 rfl (by omega) wr
      have T11 := T v.e 11 11 rfl (by omega) wr
      have T25 := T v.e 25 25 rfl (by omega) wr
      have x1 := xor32 (rr v.e 6) (rr v.e 11)
      have x2 : bits .xor .u32 (iv32 (rr v.e 6 ^^^ rr v.e 11)) (iv32 (rr v.e 25)) = iv32 (bg1 v.e) := by unfold bg1; exact xor32 _ _
      refine quiet_in (fun k => wr.drewN k) 1 rfl (by kernel_rfl) (by kernel_rfl) ?_
      iterate 3 (go_big_quiet_step (exact T6 _))
      iterate 3 (go_big_quiet_step (exact T11 _))
      iterate 6 (go_big_quiet_step (exact T25 _))
      refine wpQuiet_nil ?_
      rintro _ ⟨nq, rfl⟩
      clear T6 T11 T25 x1 x2 f4
      go_upto_region 7 with fail
      obtain ⟨W2, hW2⟩ : ∃ W2, W2 = wr.drewN nq := ⟨_, rfl⟩
      rw [← hW2]
      have hv2 : Hid (Blk W2 G6 87 v.cells.toArray) := Lib.hid (by rw [hW2]; exact hv.out)
      have hw2 : Hid (Blk W2 G5 102 (wAll ws)) := Lib.hid (by rw [hW2]; exact hw5.out)
      have hz2 : Hid (Blk W2 (w.heap.size + 1) 87 Z) := Lib.hid (by rw [hW2]; exact hz5.out)
      have hs2 : Hid (Blk W2 w.heap.size 87 s.cells.toArray) := Lib.hid (by rw [hW2]; exact hs5.out)
      have hbel2 : Below w.heap.size w W2 := by rw [hW2]; exact below_drewN hbel nq
      clear hW2 hv hw5 hz5 hs5 hbel
      have hx : atW (wl bs 64) k = atW ws k := by rw [HW.out]
      have a1 := add32 v.h (bg1 v.e)
      have a2 := add32 (v.h + bg1 v.e) (chP v.e v.f v.g)
      have a3 := add32 (v.h + bg1 v.e + chP v.e v.f v.g) (kW k)
      have a4 := add32 (v.h + bg1 v.e + chP v.e v.f v.g + kW k) (atW ws k)
      have b0 := not32 v.e
      have b1 := and32 v.e v.f
      have b2 := and32 (~~~v.e) v.g
      have b3 : bits .xor .u32 (iv32 (v.e &&& v.f)) (iv32 (~~~v.e &&& v.g)) = iv32 (chP v.e v.f v.g) := by unfold chP; exact xor32 _ _
      refine' early_mid 18 24 (by omega) (by kernel_rfl) (by kernel_rfl) 117 rfl (by kernel_rfl) (by kernel_rfl) _ rfl rfl (.int .u32 (iv32 (kW k))) (SBw W2) (SBw W2) (SBw.refl _).drew (fun _ h => h) _ _ ?h1 ?hx ?h2 ?ht
      case h1 =>
        intro W hW
        have hvW : Blk W G6 87 v.cells.toArray := hv2.out.below hW hv2.out.lt
        have f4 : W.cell? ⟨G6, 4, none⟩ = some (.int .u32 (iv32 v.e)) := by rw [hvW.cell]; rfl
        have f5 : W.cell? ⟨G6, 5, none⟩ = some (.int .u32 (iv32 v.f)) := by rw [hvW.cell]; rfl
        have f6 : W.cell? ⟨G6, 6, none⟩ = some (.int .u32 (iv32 v.g)) := by rw [hvW.cell]; rfl
        have f7 : W.cell? ⟨G6, 7, none⟩ = some (.int .u32 (iv32 v.h)) := by rw [hvW.cell]; rfl
        simp only [List.take_succ_cons, List.take_zero]
        iterate 18 (go_big_quiet_step (fail))
        refine wpQuiet_nil ?_
        rfl
      case hx =>
        intro j
        simp [go_sem]
        refine (constant_any k hk64 (W2.drewN (1 + j))).mono ?_
        rintro e w' ⟨rfl, hb⟩
        exact ⟨_, rfl, rfl, (below_drewN (Below.refl _ _) _).trans hb⟩
      case h2 =>
        intro W hW
        have hwW : Blk W G5 102 (wAll ws) := hw2.out.below hW hw2.out.lt
        have fk : W.cell? ⟨G5, k, none⟩ = some (.int .u32 (iv32 (atW ws k))) := by
          rw [hwW.cell]; exact wAll_at ws k (by rw [HW.out, wl_len]; exact hk64)
        have hk0 : (0 : Int) ≤ (k : Int) := by omega
        simp only [List.drop_succ_cons, List.drop_zero, List.take_succ_cons, List.take_zero, act_put_someD, List.setIfInBounds_toArray, List.set_cons_succ, List.set_cons_zero]
        iterate 5 (go_big_quiet_step (fail))
        refine wpQuiet_nil ?_
        rfl
      case ht =>
        intro W j hW
        simp only [List.drop_succ_cons, List.drop_zero]
        have hv3 : Hid (Blk (W.drewN j) G6 87 v.cells.toArray) := Lib.hid (hv2.out.below (hW.drewN j) hv2.out.lt)
        have hw3 : Hid (Blk (W.drewN j) G5 102 (wAll ws)) := Lib.hid (hw2.out.below (hW.drewN j) hw2.out.lt)
        have hz3 : Hid (Blk (W.drewN j) (w.heap.size + 1) 87 Z) := Lib.hid (hz2.out.below (hW.drewN j) hz2.out.lt)
        have hs3 : Hid (Blk (W.drewN j) w.heap.size 87 s.cells.toArray) := Lib.hid (hs2.out.below (hW.drewN j) hs2.out.lt)
        have hbel3 := below_drewN (hbel2.trans (Below.mono hW hbel2.size)) j
        generalize W.drewN j = W3 at *
        clear a1 a2 a3 a4 b0 b1 b2 b3 hv2 hw2 hz2 hs2 hbel2
        go_upto_region 8 with fail
        have T : ∀ (x : BitVec 32) (a : Nat) (b : Int), b = (a : Int) → a < 32 → ∀ W j, Calls Tryd.prog 53 #[.int .u32 (iv32 x), .int .i64 b] (World.drewN W j) fun e w'' => e = .returned (.int .u32 (iv32 (rr x a))) ∧ ∃ m, w'' = World.drewN W m := by
          intro x a b e hs W j
          subst e
          exact (turned_any x a hs (World.drewN W j)).mono fun _ _ ⟨he, hm⟩ => ⟨he, j, hm⟩
        have T2 := T v.a 2 2 rfl (by omega) W3
        have T13 := T v.a 13 13 rfl (by omega) W3
        have T22 := T v.a 22 22 rfl (by omega) W3
        have f0 : W3.cell? ⟨G6, 0, none⟩ = some (.int .u32 (iv32 v.a)) := by rw [hv3.out.cell]; rfl
        have f1 : W3.cell? ⟨G6, 1, none⟩ = some (.int .u32 (iv32 v.b)) := by rw [hv3.out.cell]; rfl
        have f2 : W3.cell? ⟨G6, 2, none⟩ = some (.int .u32 (iv32 v.c)) := by rw [hv3.out.cell]; rfl
        have x1 := xor32 (rr v.a 2) (rr v.a 13)
        have x2 : bits .xor .u32 (iv32 (rr v.a 2 ^^^ rr v.a 13)) (iv32 (rr v.a 22)) = iv32 (bg0 v.a) := by unfold bg0; exact xor32 _ _
        have c1 := and32 v.a v.b
        have c2 := and32 v.a v.c
        have c3 := xor32 (v.a &&& v.b) (v.a &&& v.c)
        have c4 := and32 v.b v.c
        have c5 : bits .xor .u32 (iv32 (v.a &&& v.b ^^^ v.a &&& v.c)) (iv32 (v.b &&& v.c)) = iv32 (mjP v.a v.b v.c) := by unfold mjP; exact xor32 _ _
        have c6 := add32 (bg0 v.a) (mjP v.a v.b v.c)
        clear T
        refine quiet_in (fun k => W3.drewN k) 1 rfl (by kernel_rfl) (by kernel_rfl) ?_
        iterate 3 (go_big_quiet_step (exact T2 _))
        iterate 3 (go_big_quiet_step (exact T13 _))
        iterate 4 (go_big_quiet_step (exact T22 _))
        iterate 20 (go_big_quiet_step (fail))
        refine wpQuiet_nil ?_
        rintro _ ⟨nq, rfl⟩
        have hv4 : Hid (Blk (W3.drewN nq) G6 87 (shC v 7)) := Lib.hid (by rw [shC_seven]; exact hv3.out)
        have hw4 : Hid (Blk (W3.drewN nq) G5 102 (wAll ws)) := Lib.hid hw3.out
        have hz4 : Hid (Blk (W3.drewN nq) (w.heap.size + 1) 87 Z) := Lib.hid hz3.out
        have hs4 : Hid (Blk (W3.drewN nq) w.heap.size 87 s.cells.toArray) := Lib.hid hs3.out
        have hbel4 := below_drewN hbel3 nq
        clear T2 T13 T22 f0 f1 f2 x1 x2 c1 c2 c3 c4 c5 c6 hv3 hw3 hz3 hs3 hbel3
        generalize W3.drewN nq = W4 at *
        obtain ⟨A, hA⟩ : ∃ A, A = v.t1 k (atW ws k) := ⟨_, rfl⟩
        obtain ⟨B, hB⟩ : ∃ B, B = v.t2 := ⟨_, rfl⟩
        rw [show v.h + bg1 v.e + chP v.e v.f v.g + kW k + atW ws k = A from hA.symm, show bg0 v.a + mjP v.a v.b v.c = B from hB.symm]
        have HA := Lib.hid hA
        have HBB := Lib.hid hB
        clear hA hB
        go_wp2_with fail
        go_loopw [11] (fun kk wr2 => ∃ j : Nat, j ≤ 7 ∧ kk = .int .i64 j ∧ Hid (Blk wr2 G6 87 (shC v j)) ∧ Hid (Blk wr2 G5 102 (wAll ws)) ∧ Hid (Blk wr2 (w.heap.size + 1) 87 Z) ∧ Hid (Blk wr2 w.heap.size 87 s.cells.toArray) ∧ Below w.heap.size w wr2) (fun kk _ => (intOf kk).toNat)
        case atStart => exact ⟨7, by omega, rfl, hv4, hw4, hz4, hs4, hbel4⟩
        case round =>
          obtain ⟨q, hq, rfl, hv5, hw5, hz5, hs5, hbel5⟩ := hrel
          clear hv4 hw4 hz4 hs4 hbel4
          have hltq := hv5.out.lt
          by_cases hq0 : 0 < q
          · have hgt : (0 : Int) < (q : Int) := by omega
            have eq1 : IntKind.i64.wrap ((q : Int) - 1) = (q : Int) - 1 := by rw [IntKind.wrap_i64]; omega
            have nq1 : ((q : Int) - 1).toNat = q - 1 := by omega
            have pq1 : (0 : Int) ≤ (q : Int) - 1 := by omega
            have qq1 : (q : Int) - 1 < 8 := by omega
            have qq2 : (q : Int) < 8 := by omega
            have cA := hv5.out.cell (q - 1)
            rw [shC_at v q hq0 hq] at cA
            have cB := hv5.out.cell q
            rw [shC_here v q hq] at cB
            have fz := hv5.out.frozen q
            go_wp2
            clear eq1 nq1 pq1 qq1 qq2 cA cB fz
            go_roundw
            case rel =>
              refine ⟨q - 1, by omega, by rw [show ((q - 1 : Nat) : Int) = (q : Int) - 1 by omega], Lib.hid ?_, Lib.hid ?_, Lib.hid ?_, Lib.hid ?_, ?_⟩
              · rw [← shC_set v q hq0 hq]; exact hv5.out.set q _
              · exact hw5.out.far (by show G5 ≠ G6; omega) _
              · exact hz5.out.far (by show w.heap.size + 1 ≠ G6; omega) _
              · exact hs5.out.far (by show w.heap.size ≠ G6; omega) _
              · exact hbel5.setCell (by show w.heap.size ≤ G6; omega) _
            case measure => simp [intOf]; omega
          · have hq00 : q = 0 := by omega
            subst hq00
            have hgt : ¬ (0 : Int) < ((0 : Nat) : Int) := by omega
            have f0 : wr.cell? ⟨G6, 0, none⟩ = some (.int .u32 (iv32 (atS v 0))) := by rw [hv5.out.cell]; exact shC_here v 0 (by omega)
            have f4 : wr.cell? ⟨G6, 4, none⟩ = some (.int .u32 (iv32 v.d)) := by rw [hv5.out.cell]; rfl
            have g0 := hv5.out.frozen 0
            have g4 := hv5.out.frozen 4
            have a1 := add32 A B
            have a2 := add32 v.d A
            go_wp2
            clear f0 f4 g0 g4 a1 a2
            go_roundw
            case rel =>
              refine ⟨k + 1, by omega, by go_num, Lib.hid ?_, Lib.hid ?_, Lib.hid ?_, Lib.hid ?_, ?_⟩
              · have := (hv5.out.set 0 (.int .u32 (iv32 (A + B)))).set 4 (.int .u32 (iv32 (v.d + A)))
                rw [shC_end v (A + B) (v.d + A)] at this
                have e : s.rounds ws (k + 1) = ⟨A + B, v.a, v.b, v.c, v.d + A, v.e, v.f, v.g⟩ := by rw [S8.rounds, ← HV.out, HA.out, HBB.out]; rfl
                rw [e]
                exact this
              · exact (hw5.out.far (by show G5 ≠ G6; omega) _).far (by show G5 ≠ G6; omega) _
              · exact (hz5.out.far (by show w.heap.size + 1 ≠ G6; omega) _).far (by show w.heap.size + 1 ≠ G6; omega) _
              · exact (hs5.out.far (by show w.heap.size ≠ G6; omega) _).far (by show w.heap.size ≠ G6; omega) _
              · exact (hbel5.setCell (by show w.heap.size ≤ G6; omega) _).setCell (by show w.heap.size ≤ G6; omega) _
            case measure => simp [intOf]; omega
    · have hk64' : k = 64 := by omega
      subst hk64'
      have hge : ¬ ((64 : Nat) : Int) < 64 := by omega
      obtain ⟨v, hvv⟩ : ∃ v, v = s.rounds ws 64 := ⟨_, rfl⟩
      rw [← hvv] at hv
      have HV := Lib.hid hvv
      clear hvv
      have hv0 : Hid (Blk wr G6 87 (adC v s 0)) := Lib.hid (by rw [adC_zero]; exact hv.out)
      go_wp2_with fail
      go_loopw [103] (fun i wr2 => ∃ q : Nat, q ≤ 8 ∧ i = .int .i64 q ∧ Hid (Blk wr2 G6 87 (adC v s q)) ∧ Hid (Blk wr2 (w.heap.size + 1) 87 Z) ∧ Hid (Blk wr2 w.heap.size 87 s.cells.toArray) ∧ Below w.heap.size w wr2) (fun i _ => 8 - (intOf i).toNat)
      case atStart => exact ⟨0, by omega, rfl, hv0, hz5, hs5, hbel⟩
      case round =>
        obtain ⟨q, hq, rfl, hv6, hz6, hs6, hbel6⟩ := hrel
        clear hv hv0 hw5 hz5 hs5 hbel
        by_cases hq8 : q < 8
        · have hltq : (q : Int) < 8 := by omega
          go_upto_region 19 with fail
          have cA : wr.cell? ⟨G6, q, none⟩ = some (.int .u32 (iv32 (atS v q))) := by rw [hv6.out.cell]; exact adC_here v s q hq8
          have cB : wr.cell? ⟨w.heap.size, q, none⟩ = some (.int .u32 (iv32 (atS s q))) := by rw [hs6.out.cell]; exact cells_here s q hq8
          have fz := hv6.out.frozen q
          have a1 := add32 (atS v q) (atS s q)
          have q0 : (0 : Int) ≤ (q : Int) := by omega
          refine quiet_tail 9 (by kernel_rfl) (by kernel_rfl) ?_
          simp only [List.take_succ_cons, List.take_zero, List.drop_succ_cons, List.drop_zero]
          iterate 9 (go_big_quiet_step (fail))
          refine wpQuiet_nil ?_
          rintro _ ⟨nq, rfl⟩
          clear cB a1
          go_wp2
          go_roundw
          case rel =>
            refine ⟨q + 1, by omega, by go_num, Lib.hid ?_, Lib.hid ?_, Lib.hid ?_, ?_⟩
            · rw [← adC_set v s q hq8]; exact (hv6.out.drewN nq).set q _
            · exact (hz6.out.drewN nq).far (by show w.heap.size + 1 ≠ G6; omega) _
            · exact (hs6.out.drewN nq).far (by show w.heap.size ≠ G6; omega) _
            · exact (below_drewN hbel6 nq).setCell (by show w.heap.size ≤ G6; omega) _
          case measure => simp [intOf]; omega
        · have hq8' : q = 8 := by omega
          subst hq8'
          have hgeq : ¬ ((8 : Nat) : Int) < 8 := by omega
          rw [adC_end] at hv6
          have hm : v.add s = s.mix bs := by unfold S8.mix; rw [HV.out, HW.out]
          rw [hm] at hv6
          clear hm
          obtain ⟨M, hM⟩ : ∃ M, M = s.mix bs := ⟨_, rfl⟩
          rw [← hM] at hv6
          have HM := Lib.hid hM
          clear hM
          have hrg : wr.rangeAt G6 0 M.cells := hv6.out.range8
          go_wp2_with (first
            | (with_reducible refine wpList_load_mid (op := ⟨some 116, _, _, _, _, _⟩) ?_ 87 (.tmp 6) ?_ G6 0 ?_ M.cells _ hrg Tryd.underlying87 ?_ ?_ ?_
               · rfl
               · rfl
               · rfl
               · rfl
               · exact S8.infoL M)
            | (with_reducible refine wp_store_blk (o := ⟨none, _, _, _, _, _⟩) ?_ 87 (.tmp 4) (.tmp 116) ?_ (w.heap.size + 1) 87 Z M.cells.toArray ?_ ?_ hz6.out ?_ ?_ ?_ w.heap.size w hbel6 ?_ ?_
               · rfl
               · rfl
               · rfl
               · rfl
               · exact S8.info _
               · rw [HZ.out]; rfl
               · exact S8.cells_one _
               · omega
               intro w7 hz7 hbel7 _ _))
          refine bodyPost_ret (results_cell1 rfl _ _ _ (w.heap.size + 1) _ M.cells _ rfl hz7.out Tryd.underlying87 rfl (S8.infoL M)) rfl ?_
          refine ⟨?_, hbel7⟩
          rw [HM.out]
end Go.Proofs.YtikjhnbehihbjaaDoor
