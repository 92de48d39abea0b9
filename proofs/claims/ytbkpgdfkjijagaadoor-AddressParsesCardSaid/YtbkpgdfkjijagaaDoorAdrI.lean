/- slices.Backward over bytes: the iterator's contract. -/
import Derived.Test.YtbkpgdfkjijagaaDoorAdrG
import Derived.RangeFuncNested
import Derived.RangeFuncBound
import Derived.RangeFuncCalls
import Derived.RangeFuncLeaves
import Derived.RangeFuncBox
import Derived.Shelf.Abstract
import Derived.Shelf.RegionOpen
import Derived.WalkKit
import Derived.OwnWalkIn
import Derived.TacticsInMore
import Derived.LoopNIn
import Derived.LoopIn
namespace Go.Proofs.YtbkpgdfkjijagaaDoor
open Go.RowKit Go.Shelf
set_option linter.unusedVariables false
attribute [local go_sem] Oper.semAt_some

/-- what has come when k rounds are over -/
def uptoN {α : Type} (f : Nat → α) (k : Nat) : List α := (List.range k).map f
theorem uptoN_succ {α : Type} (f : Nat → α) (k : Nat) : uptoN f (k + 1) = uptoN f k ++ [f k] := by simp [uptoN, List.range_succ]
theorem uptoN_length {α : Type} (f : Nat → α) (k : Nat) : (uptoN f k).length = k := by simp [uptoN]
/-- two blocks stand as they stood -/
def KpB (Bs g : Nat) (W W' : World) : Prop := W'.heap[Bs]? = W.heap[Bs]? ∧ W'.heap[g]? = W.heap[g]?
theorem KpB.trans {Bs g : Nat} {A B C : World} (h : KpB Bs g A B) (k : KpB Bs g B C) : KpB Bs g A C := ⟨k.1.trans h.1, k.2.trans h.2⟩
theorem KpB.cell {Bs g : Nat} {A B : World} (h : KpB Bs g A B) (i : Nat) : B.cell? ⟨Bs, i, none⟩ = A.cell? ⟨Bs, i, none⟩ ∧ B.cell? ⟨g, i, none⟩ = A.cell? ⟨g, i, none⟩ :=
  ⟨World.cell?_of_block (a := ⟨Bs, i, none⟩) h.1, World.cell?_of_block (a := ⟨g, i, none⟩) h.2⟩
theorem KpB.putObj {Bs g : Nat} (W : World) (l : Nat) (o : Obj) (h1 : Bs ≠ l) (h2 : g ≠ l) : KpB Bs g W (W.putObj l o) := ⟨World.putObj_heap_other h1, World.putObj_heap_other h2⟩
/-- the last first, each with its place -/
abbrev P58 := { x : Nat × BitVec 8 // x.2.toNat < 58 }
def backF (zs : List (BitVec 8)) (h : ∀ i, (zs.getD i 0#8).toNat < 58) (k : Nat) : P58 := ⟨(zs.length - 1 - k, zs.getD (zs.length - 1 - k) 0#8), h _⟩

set_option maxRecDepth 100000 in
set_option maxHeartbeats 4000000 in
theorem back1_in (F : Fence) (n : Nat) (h8 : F.fn 46) (hro : F.round = none) (hn : 1 ≤ n) (l Bs g off len cap : Nat) (q : Option Addr) (zs : List (BitVec 8)) (h58 : ∀ i, (zs.getD i 0#8).toNat < 58) (hz : zs.length = len) (hlen : len ≤ 1000) (hq : len ≠ 0 → q = some ⟨g, off, none⟩) (J Jx : List P58 → World → Prop)
    (hY : ∀ pre x W, J pre W → pre.length < len → YieldAt F (n - 1) Tryd.prog l #[.int .i64 (x.1.1 : Int), .int .u8 (iv8 x.1.2)] W fun e W' =>
      (e = .returned (.bool true) ∧ J (pre ++ [x]) W' ∧ KpB Bs g W W') ∨ (e = .returned (.bool false) ∧ Jx (pre ++ [x]) W'))
    (W : World) (hBs : W.cell? ⟨Bs, 0, none⟩ = some (.slice q len cap)) (hc : ∀ j, j < len → W.cell? ⟨g, off + j, none⟩ = some (.int .u8 (iv8 (zs.getD j 0#8)))) (h0 : J [] W) :
    CallsIn F n Tryd.prog 46 #[.func (.yield l) #[] #[], .pointer (some ⟨Bs, 0, none⟩)] W fun e W' => (∃ v, e = .returned v) ∧
      ((∃ ys, ys = uptoN (backF zs h58) len ∧ J ys W') ∨ (∃ pre, (∃ k, k ≤ len ∧ pre = uptoN (backF zs h58) k) ∧ Jx pre W')) := by
  refine callsIn_of_wp Tryd.func46 rfl h8 ?_ hro
  simp only [Tryd.ntmps46, List.size_toArray, List.length_cons, List.length_nil, Nat.reduceAdd, Nat.reduceSub, Array.replicate_succ, Array.replicate_zero, List.push_toArray, List.append_toArray, List.nil_append, List.cons_append]
  have HC := Lib.hid hc
  have HBS := Lib.hid hBs
  have HZ := Lib.hid hz
  have HQ := Lib.hid hq
  have hw0 : wrap64 ((len : Int) - 1) = (len : Int) - 1 := wrap64_self _ (by omega) (by omega)
  clear hc hz hq
  gi_wp2
  gi_loopw [3] (fun i wr => ∃ k : Nat, k ≤ len ∧ i = .int .i64 ((len : Int) - 1 - (k : Int)) ∧ J (uptoN (backF zs h58) k) wr ∧ Hid (KpB Bs g W wr)) (fun i _ => (intOf i + 1).toNat)
  case atStart => exact ⟨0, Nat.zero_le _, by simp, h0, Lib.hid ⟨rfl, rfl⟩⟩
  case round =>
    obtain ⟨k, hk, rfl, hJs, hnx⟩ := hrel
    have hB2 := (hnx.out.cell 0).1.trans HBS.out
    by_cases hlt : k < len
    · obtain ⟨p, hp⟩ : ∃ p : Nat, p = len - 1 - k := ⟨_, rfl⟩
      have hpi : (len : Int) - 1 - (k : Int) = (p : Int) := by omega
      obtain rfl := HQ.out (by omega)
      obtain ⟨y, hy0⟩ : ∃ y, y = zs.getD p 0#8 := ⟨_, rfl⟩
      have hcx := ((hnx.out.cell (off + p)).2).trans (HC.out p (by omega))
      rw [← hy0] at hcx
      obtain ⟨X, hX⟩ : ∃ X, X = backF zs h58 k := ⟨_, rfl⟩
      have hbk : Hid (backF zs h58 k = X) := Lib.hid hX.symm
      have hX1 : X.1.1 = p := by rw [hX]; unfold backF; simp only; rw [HZ.out, ← hp]
      have hX2 : X.1.2 = y := by rw [hX]; unfold backF; simp only; rw [HZ.out, ← hp, ← hy0]
      obtain ⟨fn, tmps, assign, body, hy, hR⟩ := hY _ X wr hJs (by rw [uptoN_length]; exact hlt)
      rw [hX1, hX2] at hy
      clear hX hX1 hX2
      have hp0 : (0 : Int) ≤ (p : Int) := by omega
      have hpl : (p : Int) < (len : Int) := by omega
      have HP := Lib.hid hp
      rw [hpi]
      clear hp hpi hy0 hBs
      gi_wp2
      refine hR.mono ?_
      rintro e W3 (⟨rfl, hJ3, hk3⟩ | ⟨rfl, hJx3⟩)
      · gi_wp2
        go_roundw
        case rel => exact ⟨k + 1, by omega, by congr 1; have := HP.out; omega, by rw [uptoN_succ, hbk.out]; exact hJ3, Lib.hid (hnx.out.trans hk3)⟩
        case measure => simp [intOf]
      · gi_wp2
        refine bodyPost_ret (results_none rfl _ _ _) rfl ?_
        exact ⟨⟨_, rfl⟩, .inr ⟨_, ⟨k + 1, by omega, rfl⟩, by rw [uptoN_succ, hbk.out]; exact hJx3⟩⟩
    · obtain rfl : k = len := by omega
      have hge : ¬ (0 : Int) ≤ (k : Int) - 1 - (k : Int) := by omega
      gi_wp2
      go_end0
      first | exact ⟨⟨_, rfl⟩, .inl ⟨_, rfl, hJs⟩⟩ | exact ⟨⟨_, rfl⟩, .inl hJs⟩

theorem back_stops (F : Fence) (n : Nat) (h8 : F.fn 46) (hro : F.round = none) (hn : 1 ≤ n) (Bs g off len cap : Nat) (q : Option Addr) (zs : List (BitVec 8)) (h58 : ∀ i, (zs.getD i 0#8).toNat < 58) (hz : zs.length = len) (hlen : len ≤ 1000) (hq : len ≠ 0 → q = some ⟨g, off, none⟩)
    (w : World) (hB : Bs < w.heap.size) (hg : g < w.heap.size) (hBs : w.cell? ⟨Bs, 0, none⟩ = some (.slice q len cap)) (hc : ∀ j, j < len → w.cell? ⟨g, off + j, none⟩ = some (.int .u8 (iv8 (zs.getD j 0#8)))) :
    SeqStopsK F n Tryd.prog 46 #[.pointer (some ⟨Bs, 0, none⟩)] (fun x : P58 => #[Value.int .i64 (x.1.1 : Int), Value.int .u8 (iv8 x.1.2)]) (KpB Bs g) (fun ys => ys = uptoN (backF zs h58) len)
      (fun pre => ∃ k, k ≤ len ∧ pre = uptoN (backF zs h58) k) len w := fun l J Jx W hW _ _ hY h0 =>
  back1_in F n h8 hro hn l Bs g off len cap q zs h58 hz hlen hq J Jx hY W ((hW.cell (p := ⟨Bs, 0, none⟩) hB).trans hBs) (fun j hj => (hW.cell (p := ⟨g, off + j, none⟩) hg).trans (hc j hj)) h0
/-- a function that ranges over a function, entered -/
theorem calls_marks {P : Program} {f : FuncId} {fn : Func} {c : Code} {args : Array Value} {w : World} {R : Ending → World → Prop}
    (hf : P.funcs[f]? = some fn) (hb : fn.body = some c) (h : c.wp P (bodyPostM Fence.wide 10 P fn R) { tmps := args ++ Array.replicate (fn.ntmps - args.size) undef, defers := [] } w) : Calls P f args w R :=
  callsIn_wide.1 (callsIn_of_wp_marks (F := Fence.wide) (n := 10) hf hb trivial (wpIn_wide.2 h))

set_option maxRecDepth 100000 in
theorem back_any (a : Option Addr) (len cap : Nat) (w : World) : Calls Tryd.prog 21 #[.slice a len cap] w fun e w' => e = .returned (.func (.func 46) #[] #[.pointer (some ⟨w.heap.size, 0, none⟩)]) ∧ w' = w.alloc (.cells #[.slice a len cap] 22) := by
  have hmf : ∀ (fn : Fn) (first cap : Array Value) (w : World), (Instr.makeFunc fn first cap).run Tryd.prog w = .ok (.func fn first cap) w := fun _ _ _ _ => rfl
  go_enter Tryd.func21, Tryd.ntmps21
  go_wp2_with fail
  go_ret
  exact ⟨rfl, rfl⟩
end Go.Proofs.YtbkpgdfkjijagaaDoor
