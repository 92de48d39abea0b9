/- sporranref01.spread: the 64 words of a block: the walk. -/
import Derived.Test.YtikjhnbehihbjaaDoorShaB
namespace Go.Proofs.YtikjhnbehihbjaaDoor
open Go.RowKit

def sm0 (x : BitVec 32) : BitVec 32 := (rr x 7 ^^^ rr x 18) ^^^ (x >>> 3)
def sm1 (x : BitVec 32) : BitVec 32 := (rr x 17 ^^^ rr x 19) ^^^ (x >>> 10)
/-- the number of k bytes from a place on, the highest first -/
def beTo (bs : List (BitVec 8)) (at0 : Nat) : Nat → BitVec 32
  | 0 => 0#32
  | k + 1 => beTo bs at0 k * 256#32 + (bs[at0 + k]?.getD 0#8).setWidth 32
def atW (l : List (BitVec 32)) (i : Nat) : BitVec 32 := l[i]?.getD 0#32
def nextW (l : List (BitVec 32)) (i : Nat) : BitVec 32 := atW l (i - 16) + sm0 (atW l (i - 15)) + atW l (i - 7) + sm1 (atW l (i - 2))
/-- the first words of a block -/
def wl (bs : List (BitVec 8)) : Nat → List (BitVec 32)
  | 0 => []
  | i + 1 => wl bs i ++ [if i < 16 then beTo bs (4 * i) 4 else nextW (wl bs i) i]
theorem wl_len (bs : List (BitVec 8)) (i : Nat) : (wl bs i).length = i := by
  induction i with
  | zero => rfl
  | succ i ih => simp [wl, ih]
/-- words, the rest noughts, in 64 cells; x is the word behind them -/
def wCells (l : List (BitVec 32)) (x : BitVec 32) : Array Value := (l.map u32 ++ (u32 x :: List.replicate (63 - l.length) (u32 0#32))).toArray
theorem wCells_size (l : List (BitVec 32)) (x : BitVec 32) (h : l.length < 64) : (wCells l x).size = 64 := by simp [wCells]; omega
theorem wCells_at (l : List (BitVec 32)) (x : BitVec 32) (i : Nat) (h : i < l.length) : (wCells l x)[i]? = some (.int .u32 (iv32 (atW l i))) := by
  unfold wCells atW
  rw [List.getElem?_toArray, List.getElem?_append_left (by simpa using h), List.getElem?_map, List.getElem?_eq_getElem h]
  rfl
theorem wCells_here (l : List (BitVec 32)) (x : BitVec 32) : (wCells l x)[l.length]? = some (.int .u32 (iv32 x)) := by
  unfold wCells
  rw [List.getElem?_toArray, List.getElem?_append_right (by simp)]
  simp
theorem wCells_set (l : List (BitVec 32)) (x y : BitVec 32) : (wCells l x).setIfInBounds l.length (.int .u32 (iv32 y)) = wCells l y := by
  unfold wCells
  rw [List.setIfInBounds_toArray, List.set_append_right _ _ (by simp)]
  simp
theorem wCells_next (l : List (BitVec 32)) (x : BitVec 32) (h : l.length < 63) : wCells l x = wCells (l ++ [x]) 0#32 := by
  unfold wCells
  simp only [List.map_append, List.append_assoc, List.length_append, List.length_singleton]
  rw [show 63 - l.length = (63 - (l.length + 1)) + 1 by omega, List.replicate_succ]
  rfl
/-- 64 words in 64 cells -/
def wAll (l : List (BitVec 32)) : Array Value := (l.map u32).toArray
theorem wCells_last (l : List (BitVec 32)) (x : BitVec 32) (h : l.length = 63) : wCells l x = wAll (l ++ [x]) := by
  unfold wCells wAll
  rw [h]
  simp
/-- what the array holds when i words are done -/
def wDone (l : List (BitVec 32)) : Array Value := if l.length < 64 then wCells l 0#32 else wAll l
theorem wDone_next (l : List (BitVec 32)) (x : BitVec 32) (h : l.length < 64) : wCells l x = wDone (l ++ [x]) := by
  unfold wDone
  by_cases h1 : l.length < 63
  · rw [if_pos (by simp; omega)]; exact wCells_next l x h1
  · rw [if_neg (by simp; omega)]; exact wCells_last l x (by omega)
theorem zero_of2 {P : Program} {t : TypeId} {z : Value} (h : (P.info? t).map (·.zero) = some (some z)) : ∀ w, (zeroValue t).run P w = .ok z w := by
  intro w
  cases hi : P.info? t with
  | none => rw [hi] at h; cases h
  | some i =>
    rw [hi] at h
    simp only [Option.map_some, Option.some.injEq] at h
    simp [zeroValue, typeInfo, hi, h, go_sem]
theorem zero64 : ∀ w, (zeroValue 102).run Tryd.prog w = .ok (.agg (wDone [])) w := zero_of2 (by kernel_rfl)

theorem Blk.range64 {w : World} {g : Nat} {t : TypeId} {l : List (BitVec 32)} (h : Blk w g t (wAll l)) : w.rangeAt g 0 (l.map u32) := fun j v hj => by
  rw [Nat.zero_add, h.cell, wAll, List.getElem?_toArray]; exact hj
theorem wAll_size (bs : List (BitVec 8)) : (wAll (wl bs 64)).size = 64 := by rw [wAll, List.size_toArray, List.length_map, wl_len]
theorem wAll_info (bs : List (BitVec 8)) : (Tryd.prog.info? 102).map (·.size) = some (wAll (wl bs 64)).size := by rw [wAll_size]; kernel_rfl
theorem wAll_one (bs : List (BitVec 8)) : (wAll (wl bs 64)).all (·.oneCell') = true := by
  rw [wAll, List.all_toArray]; simp [Value.oneCell']
theorem results_cell1 {fn : Func} {p : Tmp} {ty : TypeId} (h : fn.results = #[.cell p ty]) (tmps : Array Value) (P : Program) (w : World) (g : Nat) (t : TypeId) (cs : List Value) (d : TypeDesc)
    (hp : tmps.getD p undef = .pointer (some ⟨g, 0, none⟩)) (hg : Blk w g t cs.toArray) (hu : P.underlying ty = some d) (hd : d.isRow = true) (hi : (P.info? ty).map (·.size) = some cs.length) :
    (results fn tmps).run P w = .ok (.agg cs.toArray) w := by
  have hp' : tmps[p]?.getD undef = .pointer (some ⟨g, 0, none⟩) := by simpa using hp
  have hr : w.rangeAt g 0 cs := fun j v hj => by rw [Nat.zero_add, hg.cell, List.getElem?_toArray]; exact hj
  simp [results, h, hp', asAddr, run_loadVar_mid w g 0 ty cs d hr hu hd hi]

set_option maxRecDepth 100000 in
set_option maxHeartbeats 4000000 in
theorem spread_any (p : Option Addr) (c : Nat) (bs : List (BitVec 8)) (w : World) (hn : bs.length = 64) (hr : Row8 w p bs) :
    Calls Tryd.prog 52 #[.slice p 64 c] w fun e w' => e = .returned (.agg (wAll (wl bs 64))) ∧ Below w.heap.size w w' := by
  have HN := Lib.hid hn
  obtain ⟨bb, of, rfl, hbl, hcell⟩ := hr (fun e => by rw [e] at hn; simp at hn)
  have hz := zero64
  obtain ⟨Z, hZ⟩ : ∃ Z, Z = wDone [] := ⟨_, rfl⟩
  rw [← hZ] at hz
  have HZ := Lib.hid hZ
  clear hZ hn
  go_enter Tryd.func52, Tryd.ntmps52
  go_upto_region 2 with fail
  refine wp_abst (fun w' => Hid (Blk w' w.heap.size 102 Z) ∧ Hid (Blk w' (w.heap.size + 1) 102 (wDone (wl bs 0))) ∧ Below w.heap.size w w')
    ⟨Lib.hid ((Blk.new w _ _).alloc _), Lib.hid (by rw [show wDone (wl bs 0) = Z from HZ.out.symm]; exact Blk.new2 w _ _ _), ((Below.refl _ _).alloc (Nat.le_refl _) _).alloc (by simp) _⟩ ?_
  rintro w1 ⟨hk0, hk1, hbel1⟩
  have hr1 := hr.below hbel1 (Nat.le_refl _)
  go_wp2_with fail
  go_loopw [8] (fun i wr => ∃ k : Nat, k ≤ 64 ∧ i = .int .i64 k ∧ Hid (Blk wr (w.heap.size + 1) 102 (wDone (wl bs k))) ∧ Hid (Blk wr w.heap.size 102 Z) ∧ Below w.heap.size w wr) (fun i _ => 64 - (intOf i).toNat)
  case atStart => exact ⟨0, by omega, rfl, hk1, hk0, hbel1⟩
  case round =>
    obtain ⟨k, hk, rfl, hb1, hb0, hbel⟩ := hrel
    clear hk0 hk1 hbel1 hr1
    have hlt1 := hb1.out.lt
    by_cases hk64 : k < 64
    · have hlt : (k : Int) < 64 := by omega
      obtain ⟨l, hl⟩ : ∃ l, l = wl bs k := ⟨_, rfl⟩
      have hll : l.length = k := by rw [hl, wl_len]
      have hwd : wDone (wl bs k) = wCells l 0#32 := by rw [← hl]; unfold wDone; rw [if_pos (by omega)]
      rw [hwd] at hb1
      have HLL := Lib.hid hll
      have HL := Lib.hid hl
      clear hwd hll hl
      by_cases hk16 : k < 16
      · have hlt16 : (k : Int) < 16 := by omega
        go_wp2
        go_loopw [13] (fun j wr2 => ∃ m : Nat, m ≤ 4 ∧ j = .int .i64 m ∧ Hid (Blk wr2 (w.heap.size + 1) 102 (wCells l (beTo bs (4 * k) m))) ∧ Hid (Blk wr2 w.heap.size 102 Z) ∧ Below w.heap.size w wr2) (fun j _ => 4 - (intOf j).toNat)
        case atStart => exact ⟨0, by omega, rfl, hb1, hb0, hbel⟩
        case round =>
          obtain ⟨m, hm, rfl, hb2, hb02, hbel2⟩ := hrel
          clear hb1 hb0 hbel
          by_cases hm4 : m < 4
          · have hltm : (m : Int) < 4 := by omega
            have hc1 := hb2.out.cell k
            have hcc := wCells_here l (beTo bs (4 * k) m)
            rw [HLL.out] at hcc
            rw [hcc] at hc1
            obtain ⟨x, hx⟩ : ∃ x, bs[4 * k + m]? = some x := ⟨bs[4 * k + m]'(by rw [HN.out]; omega), List.getElem?_eq_getElem _⟩
            have hrow2 := hr.below hbel2 (Nat.le_refl _)
            obtain ⟨bb', of', e', _, hcell2⟩ := hrow2 (fun e => by have := HN.out; rw [e] at this; simp at this)
            injection e' with e'
            injection e' with e1 e2 _
            subst e1
            subst e2
            have hc2 := hcell2 _ x hx
            have hf1 := hb2.out.frozen k
            have hstep : beTo bs (4 * k) (m + 1) = beTo bs (4 * k) m * 256#32 + x.setWidth 32 := by rw [beTo, hx]; rfl
            have HST := Lib.hid hstep
            have s1 : IntKind.u32.wrap (iv32 (beTo bs (4 * k) m) * 256) = iv32 (beTo bs (4 * k) m * 256#32) := mul32 _ 256#32
            have s2 := ext8_32 x
            have s3 := add32 (beTo bs (4 * k) m * 256#32) (x.setWidth 32)
            have i1 : (4 : Int) * (k : Int) + (m : Int) < 64 := by omega
            have i0 : (0 : Int) ≤ (4 : Int) * (k : Int) + (m : Int) := by omega
            clear hcell2 hcc hstep hx hrow2
            have w1 : IntKind.i64.wrap (4 * (k : Int)) = 4 * (k : Int) := by rw [IntKind.wrap_i64]; omega
            have w2 : IntKind.i64.wrap (4 * (k : Int) + (m : Int)) = 4 * (k : Int) + (m : Int) := by rw [IntKind.wrap_i64]; omega
            have n1 : (4 * (k : Int) + (m : Int)).toNat = 4 * k + m := by omega
            go_wp2
            refine quiet_tail 15 (by kernel_rfl) (by kernel_rfl) ?_
            simp only [List.take_succ_cons, List.take_zero, List.drop_succ_cons, List.drop_zero]
            repeat (go_big_quiet_step (fail))
            refine wpQuiet_nil ?_
            rintro _ ⟨nq, rfl⟩
            clear s1 s2 s3 hc2
            go_wp2
            go_roundw
            case rel =>
              refine ⟨m + 1, by omega, by go_num, Lib.hid ?_, Lib.hid ?_, ?_⟩
              · rw [HST.out]
                have := (hb2.out.drewN nq).set k (.int .u32 (iv32 (beTo bs (4 * k) m * 256#32 + x.setWidth 32)))
                have e := wCells_set l (beTo bs (4 * k) m) (beTo bs (4 * k) m * 256#32 + x.setWidth 32)
                rw [HLL.out] at e
                rw [e] at this
                exact this
              · exact (hb02.out.drewN nq).far (by simp) _
              · exact (below_drewN hbel2 nq).setCell (by simp) _
            case measure => simp [intOf]; omega
          · have hm4' : m = 4 := by omega
            subst hm4'
            have hwn : wCells l (beTo bs (4 * k) 4) = wDone (wl bs (k + 1)) := by
              rw [wDone_next l _ (by rw [HLL.out]; omega), wl, if_pos hk16, ← HL.out]
            rw [hwn] at hb2
            have hge4 : ¬ ((4 : Nat) : Int) < 4 := by omega
            clear hwn
            go_wp2
            go_roundw
            case rel => exact ⟨k + 1, by omega, by go_num, hb2, hb02, hbel2⟩
            case measure => simp [intOf]; omega
      · have hge16 : ¬ (k : Int) < 16 := by omega
        go_upto_region 11 with fail
        have hnx : nextW l k = atW l (k - 16) + sm0 (atW l (k - 15)) + atW l (k - 7) + sm1 (atW l (k - 2)) := rfl
        have HNX := Lib.hid hnx
        have e16 : IntKind.i64.wrap ((k : Int) - 16) = (k : Int) - 16 := by rw [IntKind.wrap_i64]; omega
        have n16 : ((k : Int) - 16).toNat = k - 16 := by omega
        have p16 : (0 : Int) ≤ (k : Int) - 16 := by omega
        have q16 : (k : Int) - 16 < 64 := by omega
        have c16 : wr.cell? ⟨w.heap.size + 1, k - 16, none⟩ = some (.int .u32 (iv32 (atW l (k - 16)))) := by rw [hb1.out.cell]; exact wCells_at l _ _ (by rw [HLL.out]; omega)
        have e15 : IntKind.i64.wrap ((k : Int) - 15) = (k : Int) - 15 := by rw [IntKind.wrap_i64]; omega
        have n15 : ((k : Int) - 15).toNat = k - 15 := by omega
        have p15 : (0 : Int) ≤ (k : Int) - 15 := by omega
        have q15 : (k : Int) - 15 < 64 := by omega
        have c15 : wr.cell? ⟨w.heap.size + 1, k - 15, none⟩ = some (.int .u32 (iv32 (atW l (k - 15)))) := by rw [hb1.out.cell]; exact wCells_at l _ _ (by rw [HLL.out]; omega)
        have e7 : IntKind.i64.wrap ((k : Int) - 7) = (k : Int) - 7 := by rw [IntKind.wrap_i64]; omega
        have n7 : ((k : Int) - 7).toNat = k - 7 := by omega
        have p7 : (0 : Int) ≤ (k : Int) - 7 := by omega
        have q7 : (k : Int) - 7 < 64 := by omega
        have c7 : wr.cell? ⟨w.heap.size + 1, k - 7, none⟩ = some (.int .u32 (iv32 (atW l (k - 7)))) := by rw [hb1.out.cell]; exact wCells_at l _ _ (by rw [HLL.out]; omega)
        have e2 : IntKind.i64.wrap ((k : Int) - 2) = (k : Int) - 2 := by rw [IntKind.wrap_i64]; omega
        have n2 : ((k : Int) - 2).toNat = k - 2 := by omega
        have p2 : (0 : Int) ≤ (k : Int) - 2 := by omega
        have q2 : (k : Int) - 2 < 64 := by omega
        have c2 : wr.cell? ⟨w.heap.size + 1, k - 2, none⟩ = some (.int .u32 (iv32 (atW l (k - 2)))) := by rw [hb1.out.cell]; exact wCells_at l _ _ (by rw [HLL.out]; omega)
        have hf1 := hb1.out.frozen k
        have ck : wr.cell? ⟨w.heap.size + 1, k, none⟩ = some (.int .u32 (iv32 0#32)) := by rw [hb1.out.cell]; have := wCells_here l 0#32; rw [HLL.out] at this; exact this
        obtain ⟨X, hX⟩ : ∃ X, X = atW l (k - 15) := ⟨_, rfl⟩
        obtain ⟨Y, hY⟩ : ∃ Y, Y = atW l (k - 2) := ⟨_, rfl⟩
        obtain ⟨A, hA⟩ : ∃ A, A = atW l (k - 16) := ⟨_, rfl⟩
        obtain ⟨B, hB⟩ : ∃ B, B = atW l (k - 7) := ⟨_, rfl⟩
        rw [← hX] at c15
        rw [← hY] at c2
        rw [← hA] at c16
        rw [← hB] at c7
        have HN2 : Hid (nextW l k = A + sm0 X + B + sm1 Y) := Lib.hid (by rw [hA, hX, hB, hY]; rfl)
        clear hX hY hA hB hnx
        go_quiet (fail)
        clear e16 n16 p16 q16 e7 n7 p7 q7 e15 n15 p15 q15 e2 n2 p2 q2
        go_upto_region 12 with fail
        obtain ⟨W, hW⟩ : ∃ W, W = wr.drewN nq := ⟨_, rfl⟩
        rw [← hW]
        have hB1 : Hid (Blk W (w.heap.size + 1) 102 (wCells l 0#32)) := Lib.hid (by rw [hW]; exact hb1.out)
        have hB0 : Hid (Blk W w.heap.size 102 Z) := Lib.hid (by rw [hW]; exact hb0.out)
        have hBel : Below w.heap.size w W := by rw [hW]; exact below_drewN hbel nq
        have C16 : W.cell? ⟨w.heap.size + 1, k - 16, none⟩ = some (.int .u32 (iv32 A)) := by rw [hW]; exact c16
        have C7 : W.cell? ⟨w.heap.size + 1, k - 7, none⟩ = some (.int .u32 (iv32 B)) := by rw [hW]; exact c7
        have CK : W.cell? ⟨w.heap.size + 1, k, none⟩ = some (.int .u32 (iv32 0#32)) := by rw [hW]; exact ck
        have F1 := hB1.out.frozen k
        clear hW hf1 ck c15 c2 c16 c7
        have e16 : IntKind.i64.wrap ((k : Int) - 16) = (k : Int) - 16 := by rw [IntKind.wrap_i64]; omega
        have n16 : ((k : Int) - 16).toNat = k - 16 := by omega
        have p16 : (0 : Int) ≤ (k : Int) - 16 := by omega
        have q16 : (k : Int) - 16 < 64 := by omega
        have e7 : IntKind.i64.wrap ((k : Int) - 7) = (k : Int) - 7 := by rw [IntKind.wrap_i64]; omega
        have n7 : ((k : Int) - 7).toNat = k - 7 := by omega
        have p7 : (0 : Int) ≤ (k : Int) - 7 := by omega
        have q7 : (k : Int) - 7 < 64 := by omega
        have T : ∀ (Z : BitVec 32) (s : Nat) (s1 : Int), s1 = (s : Int) → s < 32 → ∀ j, Calls Tryd.prog 53 #[.int .u32 (iv32 Z), .int .i64 s1] (W.drewN j) fun e w'' => e = .returned (.int .u32 (iv32 (rr Z s))) ∧ ∃ m, w'' = W.drewN m := by
          intro Z s s1 e hs j
          subst e
          exact (turned_any Z s hs (W.drewN j)).mono fun _ _ ⟨he, hm⟩ => ⟨he, j, hm⟩
        have T7 := T X 7 7 rfl (by omega)
        have T18 := T X 18 18 rfl (by omega)
        have T17 := T Y 17 17 rfl (by omega)
        have T19 := T Y 19 19 rfl (by omega)
        have x1 := xor32 (rr X 7) (rr X 18)
        have x2 : bits .xor .u32 (iv32 (rr X 7 ^^^ rr X 18)) (iv32 (X >>> 3)) = iv32 (sm0 X) := by unfold sm0; exact xor32 _ _
        have x3 := xor32 (rr Y 17) (rr Y 19)
        have x4 : bits .xor .u32 (iv32 (rr Y 17 ^^^ rr Y 19)) (iv32 (Y >>> 10)) = iv32 (sm1 Y) := by unfold sm1; exact xor32 _ _
        have h1 := shr32 X 3 8 (by rfl)
        have h2 := shr32 Y 10 1024 (by rfl)
        have a1 := add32 A (sm0 X)
        have a2 := add32 (A + sm0 X) B
        have a3 := add32 (A + sm0 X + B) (sm1 Y)
        clear T
        refine quiet_tail 29 (by kernel_rfl) (by kernel_rfl) ?_
        simp only [List.take_succ_cons, List.take_zero, List.drop_succ_cons, List.drop_zero]
        iterate 7 (go_big_quiet_step (exact T7 _))
        iterate 2 (go_big_quiet_step (exact T18 _))
        iterate 12 (go_big_quiet_step (exact T17 _))
        iterate 2 (go_big_quiet_step (exact T19 _))
        iterate 6 (go_big_quiet_step (exact T19 _))
        refine wpQuiet_nil ?_
        rintro _ ⟨nq, rfl⟩
        clear e16 n16 p16 q16 e7 n7 p7 q7 T7 T18 T17 T19 x1 x2 x3 x4 h1 h2 a1 a2 a3 C16 C7
        go_wp2
        go_roundw
        case rel =>
          refine ⟨k + 1, by omega, by go_num, Lib.hid ?_, Lib.hid ?_, ?_⟩
          · have := (hB1.out.drewN nq).set k (.int .u32 (iv32 (A + sm0 X + B + sm1 Y)))
            have e := wCells_set l 0#32 (A + sm0 X + B + sm1 Y)
            rw [HLL.out] at e
            rw [e, wDone_next l _ (by rw [HLL.out]; omega)] at this
            rw [wl, if_neg hk16, ← HL.out, HN2.out]
            exact this
          · exact (hB0.out.drewN nq).far (by simp) _
          · exact (below_drewN hBel nq).setCell (by simp) _
        case measure => simp [intOf]; omega
    · have hk64' : k = 64 := by omega
      subst hk64'
      have hge : ¬ ((64 : Nat) : Int) < 64 := by omega
      have hwd : wDone (wl bs 64) = wAll (wl bs 64) := by unfold wDone; rw [if_neg (by rw [wl_len]; omega)]
      rw [hwd] at hb1
      have hlen : Hid ((wl bs 64).length = 64) := Lib.hid (wl_len bs 64)
      clear hwd
      have hrg := hb1.out.range64
      have hZs : Hid (Z.size = 64) := Lib.hid (by rw [HZ.out]; rfl)
      go_wp2_with (first
        | (with_reducible refine wpList_load_mid (op := ⟨some 70, _, _, _, _, _⟩) ?_ 102 (.tmp 3) ?_ (w.heap.size + 1) 0 ?_ ((wl bs 64).map Go.Proofs.YtikjhnbehihbjaaDoor.u32) _ hrg Tryd.underlying102 ?_ ?_ ?_
           · rfl
           · rfl
           · rfl
           · rfl
           · rw [List.length_map, hlen.out]; kernel_rfl)
        | (with_reducible refine wp_store_blk (o := ⟨none, _, _, _, _, _⟩) ?_ 102 (.tmp 2) (.tmp 70) ?_ w.heap.size 102 Z (wAll (wl bs 64)) ?_ ?_ hb0.out ?_ ?_ ?_ w.heap.size w hbel ?_ ?_
           · rfl
           · rfl
           · rfl
           · rfl
           · exact wAll_info bs
           · exact hZs.out.trans (wAll_size bs).symm
           · exact wAll_one bs
           · exact Nat.le_refl _
           intro w6 hb6 hbel6 _ _))
      refine bodyPost_ret (results_cell1 rfl _ _ _ w.heap.size _ ((wl bs 64).map Go.Proofs.YtikjhnbehihbjaaDoor.u32) _ rfl hb6.out Tryd.underlying102 rfl (by rw [List.length_map, hlen.out]; kernel_rfl)) rfl ?_
      exact ⟨rfl, hbel6⟩
end Go.Proofs.YtikjhnbehihbjaaDoor
