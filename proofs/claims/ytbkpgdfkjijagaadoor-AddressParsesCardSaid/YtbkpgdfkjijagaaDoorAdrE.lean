/- address.bits: its map of kinds. -/
import Derived.Test.YtbkpgdfkjijagaaDoorAdrZ
import Derived.WideMake
import Derived.WideKeyRuns
import Derived.DeepKeys
namespace Go.Proofs.YtbkpgdfkjijagaaDoor
open Go.RowKit
set_option linter.unusedVariables false

abbrev kv (a b : Int) : Value := .agg #[.int .i64 a, .int .i64 b]
theorem key_under : Tryd.prog.underlying 83 = some (.array 2 3) := by kernel_rfl
theorem map_under : Tryd.prog.underlying 84 = some (.map 83 3) := by kernel_rfl
theorem key_find (x : Value) (es : List MapEntry) (w : World) : (Instr.findKey 83 x es).run Tryd.prog w = (Instr.findAsking 83 x es).run Tryd.prog w := run_findKey_eq (P := Tryd.prog) w (by rw [key_under]) x es
theorem key_check (em : Bool) (a b : Int) (w : World) : (Instr.checkKey em 10000 83 (kv a b)).run Tryd.prog w = .ok () w := by kernel_rfl
theorem key_lits (a b : Int) (ha : (Lit.int .i64 a).wf = true) (hb : (Lit.int .i64 b).wf = true) : Tryd.prog.keyLits 2 83 [.int .i64 a, .int .i64 b] = some [.int .i64 a, .int .i64 b] := by
  have hu : Tryd.prog.underlying 83 = some (.array 2 3) := by kernel_rfl
  have hi : Tryd.prog.underlying 3 = some (.int .i64) := by kernel_rfl
  have c2 : Tryd.prog.cellsOf 83 = 2 := by kernel_rfl
  have c1 : Tryd.prog.cellsOf 3 = 1 := by kernel_rfl
  simp [Program.keyLits, hu, hi, c2, c1, ha, hb, List.range, List.range.loop]
theorem key_eq (a b c d : Int) (w : World) (ha : (Lit.int .i64 a).wf = true) (hb : (Lit.int .i64 b).wf = true) (hc : (Lit.int .i64 c).wf = true) (hd : (Lit.int .i64 d).wf = true) : (Op.equal 83 (kv a b) (kv c d)).run Tryd.prog w = .ok (a == c && b == d) w := by
  obtain ⟨r, hr, hiff⟩ := run_equalIn_deep (P := Tryd.prog) 9998 2 83 (by kernel_rfl) w 2 2 (kv a b) (kv c d) [.int .i64 a, .int .i64 b] [.int .i64 c, .int .i64 d] (by kernel_rfl) (by kernel_rfl) (key_lits a b ha hb) (key_lits c d hc hd)
  have e : r = (a == c && b == d) := by
    rw [Bool.eq_iff_iff, hiff]
    simp
  rw [← e]
  exact hr
/-- the map's entries: a kind for a version and a length -/
def ents : Nat → Array MapEntry
  | 0 => #[]
  | 1 => #[{ key := kv 0 20, val := .int .i64 3, born := 0 }]
  | 2 => #[{ key := kv 0 20, val := .int .i64 3, born := 0 }, { key := kv 0 32, val := .int .i64 4, born := 1 }]
  | _ => #[{ key := kv 0 20, val := .int .i64 3, born := 0 }, { key := kv 0 32, val := .int .i64 4, born := 1 }, { key := kv 1 32, val := .int .i64 5, born := 2 }]
theorem map_first (b : Nat) (w : World) (h : w.heap[b]? = some (.map (ents 0) 0)) :
    (Instr.mapUpdate 84 (.map (some b)) (kv 0 20) (.int .i64 3)).run Tryd.prog w = .ok () { w with heap := w.heap.setIfInBounds b (.map (ents 1) 1) } := by
  have hf : (Instr.findKey 83 (kv 0 20) []).run Tryd.prog w = .ok none w := by
    rw [key_find]; simp [Instr.findAsking]
  simp [Instr.mapUpdate, run_underlying map_under, MapKept.run_getObj_map h, key_check, ents, hf, MapKept.run_setObj_map _ h, Result.andThen]
theorem map_second (b : Nat) (w : World) (h : w.heap[b]? = some (.map (ents 1) 1)) :
    (Instr.mapUpdate 84 (.map (some b)) (kv 0 32) (.int .i64 4)).run Tryd.prog w = .ok () { w with heap := w.heap.setIfInBounds b (.map (ents 2) 2) } := by
  have hf : (Instr.findKey 83 (kv 0 32) (ents 1).toList).run Tryd.prog w = .ok none w := by
    rw [key_find]; simp [Instr.findAsking, ents, key_eq _ _ _ _ w (show (Lit.int .i64 0).wf = true by decide) (show (Lit.int .i64 32).wf = true by decide) (show (Lit.int .i64 0).wf = true by decide) (show (Lit.int .i64 20).wf = true by decide)]
  simp only [ents] at hf
  simp [Instr.mapUpdate, run_underlying map_under, MapKept.run_getObj_map h, key_check, ents, hf, MapKept.run_setObj_map _ h, Result.andThen]
theorem map_third (b : Nat) (w : World) (h : w.heap[b]? = some (.map (ents 2) 2)) :
    (Instr.mapUpdate 84 (.map (some b)) (kv 1 32) (.int .i64 5)).run Tryd.prog w = .ok () { w with heap := w.heap.setIfInBounds b (.map (ents 3) 3) } := by
  have hf : (Instr.findKey 83 (kv 1 32) (ents 2).toList).run Tryd.prog w = .ok none w := by
    rw [key_find]
    simp [Instr.findAsking, ents, key_eq _ _ _ _ w (show (Lit.int .i64 1).wf = true by decide) (show (Lit.int .i64 32).wf = true by decide) (show (Lit.int .i64 0).wf = true by decide) (show (Lit.int .i64 20).wf = true by decide), key_eq _ _ _ _ w (show (Lit.int .i64 1).wf = true by decide) (show (Lit.int .i64 32).wf = true by decide) (show (Lit.int .i64 0).wf = true by decide) (show (Lit.int .i64 32).wf = true by decide)]
  simp only [ents] at hf
  simp [Instr.mapUpdate, run_underlying map_under, MapKept.run_getObj_map h, key_check, ents, hf, MapKept.run_setObj_map _ h, Result.andThen]
/-- the kind of a version and a length; 0: none -/
def kindAt (v n : Int) : Int := if v = 0 ∧ n = 20 then 3 else if v = 0 ∧ n = 32 then 4 else if v = 1 ∧ n = 32 then 5 else 0
theorem map_look (b : Nat) (v n : Int) (w : World) (h : w.heap[b]? = some (.map (ents 3) 3)) (hv : (Lit.int .i64 v).wf = true) (hn : (Lit.int .i64 n).wf = true) :
    (Instr.lookup 84 (.map (some b)) (kv v n) false).run Tryd.prog w = .ok (.int .i64 (kindAt v n)) w := by
  have hz : (zeroValue 3).run Tryd.prog w = .ok (.int .i64 0) w := by kernel_rfl
  have k1 := key_eq v n 0 20 w hv hn (by decide) (by decide)
  have k2 := key_eq v n 0 32 w hv hn (by decide) (by decide)
  have k3 := key_eq v n 1 32 w hv hn (by decide) (by decide)
  have hf : (Instr.findKey 83 (kv v n) (ents 3).toList).run Tryd.prog w = .ok (if v = 0 ∧ n = 20 then some (0, .int .i64 3) else if v = 0 ∧ n = 32 then some (1, .int .i64 4) else if v = 1 ∧ n = 32 then some (2, .int .i64 5) else none) w := by
    rw [key_find]
    by_cases h1 : v = 0 ∧ n = 20
    · obtain ⟨rfl, rfl⟩ := h1
      simp [Instr.findAsking, ents, k1]
    · have e1 : (v == 0 && n == 20) = false := by simpa using fun h => h1 h
      by_cases h2 : v = 0 ∧ n = 32
      · obtain ⟨rfl, rfl⟩ := h2
        simp [Instr.findAsking, ents, k1, k2]
      · by_cases h3 : v = 1 ∧ n = 32
        · obtain ⟨rfl, rfl⟩ := h3
          simp [Instr.findAsking, ents, k1, k2, k3]
        · rw [if_neg h1, if_neg h2, if_neg h3]
          have e1 : (v == 0 && n == 20) = false := by
            rw [Bool.eq_false_iff]; intro e; rw [Bool.and_eq_true, beq_iff_eq, beq_iff_eq] at e; exact h1 e
          have e2 : (v == 0 && n == 32) = false := by
            rw [Bool.eq_false_iff]; intro e; rw [Bool.and_eq_true, beq_iff_eq, beq_iff_eq] at e; exact h2 e
          have e3 : (v == 1 && n == 32) = false := by
            rw [Bool.eq_false_iff]; intro e; rw [Bool.and_eq_true, beq_iff_eq, beq_iff_eq] at e; exact h3 e
          rw [e1] at k1
          rw [e2] at k2
          rw [e3] at k3
          simp [Instr.findAsking, ents, k1, k2, k3]
  simp only [Instr.lookup, Sem.run_bind, run_underlying map_under, MapKept.run_getObj_map h, key_check, hf, Result.andThen_ok, Sem.run_pure]
  unfold kindAt
  by_cases h1 : v = 0 ∧ n = 20
  · simp [h1]
  · by_cases h2 : v = 0 ∧ n = 32
    · simp [h2]
    · by_cases h3 : v = 1 ∧ n = 32
      · simp [h3]
      · simp [h1, h2, h3, hz]

/-! ### the map in whatever order it was filled -/
/-- the number at a key, the first -/
def look : List (Int × Int × Int) → Int → Int → Option Int
  | [], _, _ => none
  | k :: r, v, n => if v = k.1 ∧ n = k.2.1 then some k.2.2 else look r v n
def entK (k : Int × Int × Int) : Value × Value := (kv k.1 k.2.1, .int .i64 k.2.2)
def wfK (k : Int × Int × Int) : Prop := (Lit.int .i64 k.1).wf = true ∧ (Lit.int .i64 k.2.1).wf = true
/-- a map that holds these, in this order -/
def MapHas (w : World) (b : Nat) (ks : List (Int × Int × Int)) : Prop := ∃ es clock, w.heap[b]? = some (.map es clock) ∧ es.toList.map (fun e => (e.key, e.val)) = ks.map entK ∧ ∀ k ∈ ks, wfK k
theorem find_asking (v n : Int) (hv : (Lit.int .i64 v).wf = true) (hn : (Lit.int .i64 n).wf = true) (w : World) : ∀ (ks : List (Int × Int × Int)) (es : List MapEntry) (i : Nat), (∀ k ∈ ks, wfK k) → es.map (fun e => (e.key, e.val)) = ks.map entK →
    ∃ r, (Instr.findAsking 83 (kv v n) es i).run Tryd.prog w = .ok r w ∧ r.map Prod.snd = (look ks v n).map (Value.int .i64)
  | [], [], i, _, _ => ⟨none, by simp [Instr.findAsking], rfl⟩
  | [], e :: es, i, _, h => by cases h
  | k :: ks, [], i, _, h => by cases h
  | k :: ks, e :: es, i, hw, h => by
    rw [List.map_cons, List.map_cons] at h
    injection h with h1 h2
    injection h1 with h1 h3
    obtain ⟨hk1, hk2⟩ := hw k (List.mem_cons_self)
    have hq := key_eq v n k.1 k.2.1 w hv hn hk1 hk2
    rw [← h1] at hq
    obtain ⟨r, hr, hrl⟩ := find_asking v n hv hn w ks es (i + 1) (fun x hx => hw x (List.mem_cons_of_mem _ hx)) h2
    by_cases he : v = k.1 ∧ n = k.2.1
    · have e1 : (v == k.1 && n == k.2.1) = true := by rw [Bool.and_eq_true, beq_iff_eq, beq_iff_eq]; exact he
      rw [e1] at hq
      exact ⟨some (i, e.val), by simp [Instr.findAsking, hq], by rw [look, if_pos he, h3]; rfl⟩
    · have e1 : (v == k.1 && n == k.2.1) = false := by
        rw [Bool.eq_false_iff]; intro e; rw [Bool.and_eq_true, beq_iff_eq, beq_iff_eq] at e; exact he e
      rw [e1] at hq
      exact ⟨r, by simp [Instr.findAsking, hq, hr], by rw [look, if_neg he]; exact hrl⟩
theorem MapHas.made (w : World) : MapHas (w.alloc (.map #[] 0)) w.heap.size [] := ⟨#[], 0, (MapKept.heap_alloc w _).1, rfl, fun k hk => by cases hk⟩
theorem MapHas.put {w : World} {b : Nat} {ks : List (Int × Int × Int)} (h : MapHas w b ks) (v n z : Int) (hv : (Lit.int .i64 v).wf = true) (hn : (Lit.int .i64 n).wf = true) (hno : look ks v n = none) :
    ∃ w', (Instr.mapUpdate 84 (.map (some b)) (kv v n) (.int .i64 z)).run Tryd.prog w = .ok () w' ∧ MapHas w' b (ks ++ [(v, n, z)]) ∧ w.grownBy w' (some b) := by
  obtain ⟨es, clock, hb, he, hw⟩ := h
  obtain ⟨r, hr, hrl⟩ := find_asking v n hv hn w ks es.toList 0 hw he
  rw [hno] at hrl
  have hrn : r = none := by cases r with
    | none => rfl
    | some x => cases hrl
  subst hrn
  have hf : (Instr.findKey 83 (kv v n) es.toList).run Tryd.prog w = .ok none w := by rw [key_find]; exact hr
  refine ⟨{ w with heap := w.heap.setIfInBounds b (.map (es.push { key := kv v n, val := .int .i64 z, born := clock }) (clock + 1)) }, ?_, ⟨_, _, by show (w.heap.setIfInBounds b _)[b]? = _; rw [Array.getElem?_setIfInBounds_self, if_pos (Array.getElem?_eq_some_iff.1 hb).1], ?_, ?_⟩, ⟨rfl, rfl, rfl, by simp, fun i _ hi => by show (w.heap.setIfInBounds b _)[i]? = _; rw [Array.getElem?_setIfInBounds_ne (fun e => hi (by rw [e]))]⟩⟩
  · simp [Instr.mapUpdate, run_underlying map_under, MapKept.run_getObj_map hb, key_check, hf, MapKept.run_setObj_map _ hb, Result.andThen]
  · rw [Array.toList_push, List.map_append, List.map_append, he]; rfl
  · intro k hk
    rcases List.mem_append.1 hk with h | h
    · exact hw k h
    · rw [List.mem_singleton.1 h]; exact ⟨hv, hn⟩
theorem MapHas.at {w : World} {b : Nat} {ks : List (Int × Int × Int)} (h : MapHas w b ks) (v n : Int) (hv : (Lit.int .i64 v).wf = true) (hn : (Lit.int .i64 n).wf = true) :
    (Instr.lookup 84 (.map (some b)) (kv v n) false).run Tryd.prog w = .ok (.int .i64 ((look ks v n).getD 0)) w := by
  obtain ⟨es, clock, hb, he, hw⟩ := h
  obtain ⟨r, hr, hrl⟩ := find_asking v n hv hn w ks es.toList 0 hw he
  have hf : (Instr.findKey 83 (kv v n) es.toList).run Tryd.prog w = .ok r w := by rw [key_find]; exact hr
  have hz : (zeroValue 3).run Tryd.prog w = .ok (.int .i64 0) w := by kernel_rfl
  simp only [Instr.lookup, Sem.run_bind, run_underlying map_under, MapKept.run_getObj_map hb, Result.andThen_ok, Sem.run_pure]
  rw [show ∀ em, (Instr.checkKey em 10000 83 (kv v n)).run Tryd.prog w = .ok () w from fun em => key_check em v n w, Result.andThen_ok, hf, Result.andThen_ok]
  cases hl : look ks v n with
  | none =>
    rw [hl] at hrl
    cases r with
    | none => simp [hz]
    | some x => cases hrl
  | some z =>
    rw [hl] at hrl
    cases r with
    | none => cases hrl
    | some x =>
      obtain ⟨i, x⟩ := x
      have hx : x = Value.int .i64 z := Option.some.inj (show some x = some (Value.int .i64 z) from hrl)
      rw [hx]
      show (Sem.run Tryd.prog (do let __x ← pure (Value.int .i64 z, true); pure (if false = true then Value.tuple #[__x.fst, Value.bool __x.snd] else __x.fst)) w) = _
      simp only [Sem.run_bind, Sem.run_pure, Result.andThen_ok]
      rfl
end Go.Proofs.YtbkpgdfkjijagaaDoor
