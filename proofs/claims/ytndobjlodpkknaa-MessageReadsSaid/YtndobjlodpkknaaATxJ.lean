/- A transaction read as data, with the sizes of its parts.  -/
import Derived.Test.YtndobjlodpkknaaAGD
namespace Go.Proofs.Ytndobjlodpkknaa
open Go Go.ChangeShapes Go.WideShapes Go.ChangeAt Go.RowKit
set_option linter.unusedVariables false
def maxB : Nat := 140737488351232
def Wts {H : Type} (t : TypeId) (d : DataW H) : Prop := ∀ m ∈ d.weights Try.prog t, m ≤ maxB
theorem wts_elem {H : Type} (P : Program) (e : TypeId) : ∀ (l : List (DataW H)) (d : DataW H), d ∈ l → ∀ m ∈ d.weights P e, m ∈ DataW.weightsAll P e l
  | [], d, h, m, hm => by cases h
  | x :: l, d, h, m, hm => by
    simp only [DataW.weightsAll, List.mem_append]
    rcases List.mem_cons.1 h with rfl | h
    · exact .inl hm
    · exact .inr (wts_elem P e l d h m hm)
theorem wts_slice {H : Type} {t e : TypeId} {els sp : List (DataW H)} (ht : Try.prog.underlying t = some (.slice e)) (h : Wts t (.slice els sp)) : (els.length + sp.length) * Try.prog.bytesOf e ≤ maxB ∧ ∀ d ∈ els, Wts e d := by
  unfold Wts at h
  simp only [DataW.weights, ht] at h
  refine ⟨h _ (List.mem_cons_self ..), fun d hd m hm => h m ?_⟩
  exact List.mem_cons_of_mem _ (List.mem_append_left _ (wts_elem _ _ _ _ hd m hm))
theorem wts_field {H : Type} {t : TypeId} {fs : Array Field} {parts : List (DataW H)} (ht : Try.prog.underlying t = some (.struct fs)) (h : Wts t (.agg parts)) {i : Nat} {f : Field} {d : DataW H} (hf : fs[i]? = some f) (hd : parts[i]? = some d) : Wts f.type d := by
  unfold Wts at h
  simp only [DataW.weights, ht] at h
  intro m hm
  refine h m (DataW.weights_mem_each (j := i) ?_ hd m hm)
  rw [List.getElem?_map, Array.getElem?_toList, hf]
  rfl
theorem wts_arg {H : Type} {ts : List TypeId} {ds : List (DataW H)} (h : (DataW.weightsEach Try.prog ts ds).all (· ≤ reachBytes) = true) {j : Nat} {t : TypeId} {d : DataW H} (ht : ts[j]? = some t) (hd : ds[j]? = some d) : Wts t d := fun m hm => by
  have := List.all_eq_true.1 h _ (DataW.weights_mem_each ht hd m hm)
  have h2 := of_decide_eq_true this
  simpa [reachBytes, maxB] using h2
end Go.Proofs.Ytndobjlodpkknaa
