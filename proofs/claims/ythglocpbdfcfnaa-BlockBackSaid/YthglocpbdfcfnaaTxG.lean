/- tx.Encode: the walk. -/
import Derived.Test.YthglocpbdfcfnaaTxF
import Derived.Test.YthglocpbdfcfnaaLoadG
namespace Go.Proofs.Ythglocpbdfcfnaa
open Go Go.RowKit
set_option linter.unusedVariables false

/-- bytes of the call's own, and an error -/
def OutB (w : World) (x : Bs × Int) (e : Ending) (w' : World) : Prop := ∃ v, e = .returned (.tuple #[v, .int .i64 x.2]) ∧ Own8 w' w.heap.size v x.1 ∧ Below w.heap.size w w'
theorem OutB.of {w w' : World} {x : Bs × Int} {v : Value} {bs : Bs} {k : Int} (h : Hid (x = (bs, k))) (ho : Own8 w' w.heap.size v bs) (hb : Below w.heap.size w w') : OutB w x (.returned (.tuple #[v, .int .i64 k])) w' := by
  have := h.out
  subst this
  exact ⟨v, rfl, ho, hb⟩
theorem ESl.mem {α : Type} {E : World → α → List Value → Prop} {N : Nat} {w : World} {v : Value} {xs : List α} (h : ESl E N w v xs) {x : α} (hx : x ∈ xs) : ∃ cs, E w x cs := by
  obtain ⟨p, n, c, _, _, _, _, hr, _⟩ := h
  obtain ⟨b, off, _, _, hc⟩ := hr (by intro e; rw [e] at hx; cases hx)
  obtain ⟨i, hi⟩ := List.getElem?_of_mem hx
  obtain ⟨cs, h1, _⟩ := hc i x hi
  exact ⟨cs, h1⟩
theorem text_le {b : Bs} {n : Nat} (h : b.length ≤ n) : (text b).length ≤ n + 9 := by
  unfold text; rw [List.length_append]; have := enc_len (BitVec.ofNat 64 b.length); omega
theorem canTx_all {t : TTx} (h : canTx t = true) : 0 < t.is.length ∧ t.is.length ≤ 2000 ∧ t.os.length ≤ 2000 ∧ (∀ x ∈ t.is, x.sc.length ≤ 10000 ∧ x.wi.length ≤ 100 ∧ ∀ b ∈ x.wi, b.length ≤ 10000) ∧ ∀ x ∈ t.os, ¬ x.va.toInt < 0 ∧ x.sc.length ≤ 10000 := by
  unfold canTx at h
  simp only [Bool.and_eq_true, decide_eq_true_eq, List.all_eq_true] at h
  refine ⟨h.1, h.2.1, h.2.2.1, fun x hx => ?_, fun x hx => ?_⟩
  · have := h.2.2.2.1 x hx
    unfold canIn at this
    simp only [Bool.and_eq_true, Bool.not_eq_true', decide_eq_false_iff_not, List.all_eq_true] at this
    exact ⟨by omega, by omega, fun b hb => by have := this.2.2 b hb; omega⟩
  · have := h.2.2.2.2 x hx
    unfold canOut at this
    simp only [Bool.and_eq_true, Bool.not_eq_true', decide_eq_false_iff_not] at this
    exact ⟨this.1, by omega⟩
theorem listIn_tx {t : TTx} (h : canTx t = true) (u : Value) (w0 w : World) (v : Value) (ys : Bs) (hu : ESl InC 36 w0 u t.is) (hw : Wr w0 w v ys) (hl : ys.length ≤ 50000000000000) :
    Calls Try.prog 30 #[v, u, .func (.func 31) #[] #[]] w (AppTo w w0.heap.size v (ys ++ insB t.is)) := by
  obtain ⟨_, h2, _, h4, _⟩ := canTx_all h
  refine listIns_any inB 10049 31 (enters_of Try.func31 (by kernel_rfl) rfl) u t.is h2 (by omega) (fun x hx => ?_) w0 w v ys hu hw hl fun W v' zs x cs hm hw' hl' hE => txIn_any x cs (by have := (h4 x hm).1; omega) w0 W v' zs hE hw' hl'
  obtain ⟨cs, _, _, _, hid, _⟩ := hu.mem hx
  have := text_le (h4 x hx).1
  unfold inB
  rw [List.length_append, List.length_append, List.length_append, hid, le32, le32, low_len, low_len]
  omega
theorem listOut_tx {t : TTx} (h : canTx t = true) (u : Value) (w0 w : World) (v : Value) (ys : Bs) (hu : ESl OutC 2 w0 u t.os) (hw : Wr w0 w v ys) (hl : ys.length ≤ 50000000000000) :
    Calls Try.prog 29 #[v, u, .func (.func 32) #[] #[]] w (AppTo w w0.heap.size v (ys ++ outsB t.os)) := by
  obtain ⟨_, _, h3, _, h5⟩ := canTx_all h
  refine listOuts_any outB 10049 32 (enters_of Try.func32 (by kernel_rfl) rfl) u t.os h3 (by omega) (fun x hx => ?_) w0 w v ys hu hw hl fun W v' zs x cs hm hw' hl' hE => txOut_any x cs (by have := (h5 x hm).2; omega) w0 W v' zs hE hw' hl'
  have := text_le (h5 x hx).2
  unfold outB
  rw [List.length_append, low_len]
  omega
theorem listWit_tx (xs : List Bs) (h : xs.length ≤ 100) (h2 : ∀ b ∈ xs, b.length ≤ 10000) (u : Value) (w0 w : World) (v : Value) (ys : Bs) (hu : ESl TextC 1 w0 u xs) (hw : Wr w0 w v ys) (hl : ys.length ≤ 50000000000000) :
    Calls Try.prog 33 #[v, u, .func (.func 34) #[] #[]] w (AppTo w w0.heap.size v (ys ++ witB xs)) := by
  refine listTexts_any text 10009 34 (enters_of Try.func34 (by kernel_rfl) rfl) u xs (by omega) (by omega) (fun x hx => text_le (h2 x hx)) w0 w v ys hu hw hl fun W v' zs x cs hm hw' hl' hE => ?_
  obtain ⟨vx, rfl, hs⟩ := hE
  exact txText_any vx x (by have := h2 x hm; omega) w0.heap.size W v' zs hw'.below.size (hs.below hw'.below (Nat.le_refl _)) hw'.own (by omega)
theorem info_Tx {cs : List Value} (h : cs.length = 4) : (Try.prog.info? 26).map (·.size) = some cs.length := by rw [h]; kernel_rfl
theorem cntB_len (n : Nat) : (cntB n).length ≤ 9 := enc_len _
theorem insB_len {t : TTx} (h : canTx t = true) {w : World} {u : Value} (hu : ESl InC 36 w u t.is) : (insB t.is).length ≤ 1000000000 := by
  obtain ⟨_, h2, _, h4, _⟩ := canTx_all h
  have := flat_le inB 10049 t.is fun x hx => by
    obtain ⟨cs, _, _, _, hid, _⟩ := hu.mem hx
    have := text_le (h4 x hx).1
    unfold inB
    rw [List.length_append, List.length_append, List.length_append, hid, le32, le32, low_len, low_len]
    omega
  have h3 := cntB_len t.is.length
  unfold insB
  rw [List.length_append]
  omega
theorem outsB_len {t : TTx} (h : canTx t = true) : (outsB t.os).length ≤ 1000000000 := by
  obtain ⟨_, _, h3, _, h5⟩ := canTx_all h
  have := flat_le outB 10049 t.os fun x hx => by
    have := text_le (h5 x hx).2
    unfold outB
    rw [List.length_append, low_len]
    omega
  have h4 := cntB_len t.os.length
  unfold outsB
  rw [List.length_append]
  omega
end Go.Proofs.Ythglocpbdfcfnaa
