/- Drawn regions in which a call may panic. -/
import Derived.Test.YthglocpbdfcfnaaGA
namespace Go.Proofs.Ythglocpbdfcfnaa
open Go Go.RowKit

theorem region_planP {P : Program} {ops : Array Oper} {Q : Exit → Act → World → Prop} {id : Nat} {a : Act} {w : World} (plan : List (Bool × Nat × Option Nat)) (F : World → Prop) (hm : P.follows .mixedOrders = true)
    (hB : (Region.noSelect ops && (planLen plan == ops.size && planB .any ops plan (Array.replicate ops.size false))) = true) (hQ : ∀ c a d v w, Q (.panic c) (a.put d v) w → Q (.panic c) a w) (hF : F w.drew)
    (h : wpPlan P ops Q F plan a w.drew) : (Code.region id ops true).wp P Q a w := by
  simp only [Bool.and_eq_true, beq_iff_eq] at hB
  obtain ⟨hsel, hlen, hB⟩ := hB
  refine wp_region_any hm ?_
  have := wpAny_of_D _ _ _ _ 0 (plan_D hsel hQ plan _ a w.drew hB hF h)
  rw [hlen] at this
  exact this
theorem region_treeP {P : Program} {ops : Array Oper} {Q : Exit → Act → World → Prop} {id : Nat} {a : Act} {w : World} (t : PTree) (F : World → Prop) (hm : P.follows .mixedOrders = true)
    (hB : (Region.noSelect ops && (treeLen t == ops.size && treeB .any ops t (Array.replicate ops.size false))) = true) (hQ : ∀ c a d v w, Q (.panic c) (a.put d v) w → Q (.panic c) a w) (hF : F w.drew)
    (h : wpTree P ops Q t F a w.drew) : (Code.region id ops true).wp P Q a w := by
  simp only [Bool.and_eq_true, beq_iff_eq] at hB
  obtain ⟨hsel, hlen, hB⟩ := hB
  refine wp_region_any hm ?_
  have := wpAny_of_E _ _ _ _ _ 0 (tree_D hsel hQ t F _ a w.drew hB hF h)
  rw [hlen] at this
  exact this
end Go.Proofs.Ythglocpbdfcfnaa
