/- The map of kinds, filled in any order within a region. -/
import Derived.Test.YtbkpgdfkjijagaaDoorAdrE
import Derived.Test.YtbkpgdfkjijagaaDoorGA
namespace Go.Proofs.YtbkpgdfkjijagaaDoor
open Go Go.RowKit
set_option linter.unusedVariables false

theorem wpOp_put {ops : Array Oper} {Q : Exit → Act → World → Prop} {i : Nat} {o : Oper} {K : Act → World → Prop} {a : Act} {W : World} (hi : ops[i]? = some o) (hg : o.guard = none) (hd : o.dst = none) (m k x : Operand) (ho : o.op = .insert 84 m k x)
    {b : Nat} {v n z : Int} {ks : List (Int × Int × Int)} (hm : a.eval m = .map (some b)) (hk : a.eval k = kv v n) (hx : a.eval x = .int .i64 z) (hv : (Lit.int .i64 v).wf = true) (hn : (Lit.int .i64 n).wf = true)
    (h : MapHas W b ks) (hno : look ks v n = none) (hK : ∀ w', MapHas w' b (ks ++ [(v, n, z)]) → W.grownBy w' (some b) → K a w') : wpOp Tryd.prog ops Q i K a W := by
  obtain ⟨w', hr, h1, h2⟩ := h.put v n z hv hn hno
  unfold wpOp
  simp only [hi]
  rw [if_pos (by unfold Region.wanted; rw [hg])]
  left
  unfold Oper.wp execOp
  simp only [ho, hm, hk, hx, Sem.run_bind, hr, Result.andThen_ok, Sem.run_pure]
  show K (a.put o.dst undef) w'
  rw [hd]
  exact hK w' h1 h2
theorem MapHas.draws {w : World} {b : Nat} {ks : List (Int × Int × Int)} (h : MapHas w b ks) (k : Nat) : MapHas (w.drewN k) b ks := h
def mapAll (ks : List (Int × Int × Int)) : Prop := ∀ v n, (look ks v n).getD 0 = kindAt v n
theorem all_kinds : mapAll [(0, 20, 3), (0, 32, 4), (1, 32, 5)] ∧ mapAll [(0, 20, 3), (1, 32, 5), (0, 32, 4)] ∧ mapAll [(0, 32, 4), (0, 20, 3), (1, 32, 5)] ∧ mapAll [(0, 32, 4), (1, 32, 5), (0, 20, 3)] ∧ mapAll [(1, 32, 5), (0, 20, 3), (0, 32, 4)] ∧ mapAll [(1, 32, 5), (0, 32, 4), (0, 20, 3)] := by
  refine ⟨?_, ?_, ?_, ?_, ?_, ?_⟩ <;>
  · intro v n
    unfold kindAt
    simp only [look]
    by_cases h1 : v = 0 <;> by_cases h2 : n = 20 <;> by_cases h3 : n = 32 <;> by_cases h4 : v = 1 <;> simp_all <;> omega
/-- the map's end: whatever order the three came in -/
def MapIs (w : World) (b : Nat) : Prop := ∃ ks, MapHas w b ks ∧ mapAll ks
theorem MapIs.at {w : World} {b : Nat} (h : MapIs w b) (v n : Int) (hv : (Lit.int .i64 v).wf = true) (hn : (Lit.int .i64 n).wf = true) :
    (Instr.lookup 84 (.map (some b)) (kv v n) false).run Tryd.prog w = .ok (.int .i64 (kindAt v n)) w := by
  obtain ⟨ks, h1, h2⟩ := h
  rw [h1.at v n hv hn, h2 v n]
theorem MapHas.below {w w' : World} {b B : Nat} {ks : List (Int × Int × Int)} (h : MapHas w b ks) (hb : Below B w w') (hB : b < B) : MapHas w' b ks := by
  obtain ⟨es, clock, h1, h2, h3⟩ := h
  exact ⟨es, clock, (hb.block b hB).trans h1, h2, h3⟩
theorem MapHas.lt {w : World} {b : Nat} {ks : List (Int × Int × Int)} (h : MapHas w b ks) : b < w.heap.size := by
  obtain ⟨es, clock, h1, _⟩ := h
  exact (Array.getElem?_eq_some_iff.1 h1).1
theorem MapIs.below {w w' : World} {b B : Nat} (h : MapIs w b) (hb : Below B w w') (hB : b < B) : MapIs w' b := by
  obtain ⟨ks, h1, h2⟩ := h
  exact ⟨ks, h1.below hb hB, h2⟩
theorem MapIs.lt {w : World} {b : Nat} (h : MapIs w b) : b < w.heap.size := by
  obtain ⟨ks, h1, _⟩ := h
  exact h1.lt
/-- three inserts that may come in any order -/
theorem map_three {ops : Array Oper} {Q : Exit → Act → World → Prop} {w0 : World} {B : Nat} {t : PTree} {a : Act} {W : World} {b : Nat} {o2 o4 o6 : Oper} {m k2 k4 k6 x2 x4 x6 : Operand}
    (h2 : ops[2]? = some o2) (h4 : ops[4]? = some o4) (h6 : ops[6]? = some o6) (g2 : o2.guard = none ∧ o2.dst = none ∧ o2.op = .insert 84 m k2 x2) (g4 : o4.guard = none ∧ o4.dst = none ∧ o4.op = .insert 84 m k4 x4) (g6 : o6.guard = none ∧ o6.dst = none ∧ o6.op = .insert 84 m k6 x6)
    (hm : a.eval m = .map (some b)) (e2 : a.eval k2 = kv 0 20 ∧ a.eval x2 = .int .i64 3) (e4 : a.eval k4 = kv 0 32 ∧ a.eval x4 = .int .i64 4) (e6 : a.eval k6 = kv 1 32 ∧ a.eval x6 = .int .i64 5)
    (hW : MapHas W b []) (hbw : Below B w0 W) (hB : B ≤ b) (hBs : B ≤ w0.heap.size)
    (hend : ∀ w', MapIs w' b → Below B w0 w' → wpTree Tryd.prog ops Q t (Below B w0) a w') :
    wpTree Tryd.prog ops Q (.three 2 (.two 4 (.o 6 t) 6 (.o 4 t)) 4 (.two 2 (.o 6 t) 6 (.o 2 t)) 6 (.two 2 (.o 4 t) 4 (.o 2 t))) (Below B w0) a W := by
  have step : ∀ {w w' : World}, Below B w0 w → w.grownBy w' (some b) → Below B w0 w' := fun {w w'} h hg => h.grown hg (Nat.le_trans hBs h.size) (fun k hk => by injection hk with hk; omega)
  have hall := all_kinds
  have p2 : ∀ {K : Act → World → Prop} {w : World} {ks : List (Int × Int × Int)}, MapHas w b ks → Below B w0 w → look ks 0 20 = none → (∀ w', MapHas w' b (ks ++ [(0, 20, 3)]) → Below B w0 w' → K a w') → wpOp Tryd.prog ops Q 2 K a w :=
    fun h hb hn hK => wpOp_put h2 g2.1 g2.2.1 _ _ _ g2.2.2 hm e2.1 e2.2 (by decide) (by decide) h hn fun w' h1 h2 => hK w' h1 (step hb h2)
  have p4 : ∀ {K : Act → World → Prop} {w : World} {ks : List (Int × Int × Int)}, MapHas w b ks → Below B w0 w → look ks 0 32 = none → (∀ w', MapHas w' b (ks ++ [(0, 32, 4)]) → Below B w0 w' → K a w') → wpOp Tryd.prog ops Q 4 K a w :=
    fun h hb hn hK => wpOp_put h4 g4.1 g4.2.1 _ _ _ g4.2.2 hm e4.1 e4.2 (by decide) (by decide) h hn fun w' h1 h2 => hK w' h1 (step hb h2)
  have p6 : ∀ {K : Act → World → Prop} {w : World} {ks : List (Int × Int × Int)}, MapHas w b ks → Below B w0 w → look ks 1 32 = none → (∀ w', MapHas w' b (ks ++ [(1, 32, 5)]) → Below B w0 w' → K a w') → wpOp Tryd.prog ops Q 6 K a w :=
    fun h hb hn hK => wpOp_put h6 g6.1 g6.2.1 _ _ _ g6.2.2 hm e6.1 e6.2 (by decide) (by decide) h hn fun w' h1 h2 => hK w' h1 (step hb h2)
  obtain ⟨a1, a2, a3, a4, a5, a6⟩ := hall
  refine ⟨fun k => p2 (hW.draws k) (below_drewN hbw k) rfl fun w1 m1 b1 => Grows.same b1 ⟨fun k => p4 (m1.draws k) (below_drewN b1 k) rfl fun w2 m2 b2 => Grows.same b2 fun k => p6 (m2.draws k) (below_drewN b2 k) rfl fun w3 m3 b3 => Grows.same b3 (hend w3 ⟨_, m3, a1⟩ b3),
    fun k => p6 (m1.draws k) (below_drewN b1 k) rfl fun w2 m2 b2 => Grows.same b2 fun k => p4 (m2.draws k) (below_drewN b2 k) rfl fun w3 m3 b3 => Grows.same b3 (hend w3 ⟨_, m3, a2⟩ b3)⟩,
    fun k => p4 (hW.draws k) (below_drewN hbw k) rfl fun w1 m1 b1 => Grows.same b1 ⟨fun k => p2 (m1.draws k) (below_drewN b1 k) rfl fun w2 m2 b2 => Grows.same b2 fun k => p6 (m2.draws k) (below_drewN b2 k) rfl fun w3 m3 b3 => Grows.same b3 (hend w3 ⟨_, m3, a3⟩ b3),
    fun k => p6 (m1.draws k) (below_drewN b1 k) rfl fun w2 m2 b2 => Grows.same b2 fun k => p2 (m2.draws k) (below_drewN b2 k) rfl fun w3 m3 b3 => Grows.same b3 (hend w3 ⟨_, m3, a4⟩ b3)⟩,
    fun k => p6 (hW.draws k) (below_drewN hbw k) rfl fun w1 m1 b1 => Grows.same b1 ⟨fun k => p2 (m1.draws k) (below_drewN b1 k) rfl fun w2 m2 b2 => Grows.same b2 fun k => p4 (m2.draws k) (below_drewN b2 k) rfl fun w3 m3 b3 => Grows.same b3 (hend w3 ⟨_, m3, a5⟩ b3),
    fun k => p4 (m1.draws k) (below_drewN b1 k) rfl fun w2 m2 b2 => Grows.same b2 fun k => p2 (m2.draws k) (below_drewN b2 k) rfl fun w3 m3 b3 => Grows.same b3 (hend w3 ⟨_, m3, a6⟩ b3)⟩⟩
end Go.Proofs.YtbkpgdfkjijagaaDoor
