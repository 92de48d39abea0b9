/- The reader of transactions: take, num, must, text. · The reader of transactions: parts. · The reader of transactions: an input, an output. · The reader of transactions: an output; rows in which an element is written. · The reader of transactions: a whole one. · tx.Decode: the walk; a reader's panic is caught. · sporranref07.Can, has: the walks. · A small transaction is written (the laws' awake). · A transaction read as data (a row's argument). · sporranlaw07.TxShort: the walk. · sporranplain.SameTx: what says the same is the same. · sporranref07's reader, which keeps its first error: take, low, count, text. · sporranref07's reader: an input, an output. · sporranref07.has; what is still to be read. · sporranref07.Decode: the walk. · sporranlaw07.TxOnce: the walk. -/
import Derived.WalkSmall
import Derived.Defers
import Derived.Recover
import Derived.Deep.MidRow
import Derived.Deep.CutBlock
import Derived.Deep.DeepCutAuto
import Derived.Test.YthglocpbdfcfnaaDoorGT
import Derived.Test.YthglocpbdfcfnaaDoorGB
namespace Go.Proofs.YthglocpbdfcfnaaDoor
open Go Go.RowKit
set_option linter.unusedVariables false

theorem addr_add0 (a : Addr) : a.add 0 = a := by
  obtain ⟨b, o, i⟩ := a
  unfold Addr.add
  split <;> simp_all
theorem slice_hm8 (w : World) (p : Option Addr) (m c k : Nat) (h : k ≤ m) (h2 : m ≤ c) :
    (Instr.sliceAt 38 (.slice p m c) none (some (.int .i64 (k : Int))) (some (.int .i64 (k : Int)))).run Tryd.prog w = .ok (.slice p k k) w := by
  have hu : Tryd.prog.underlying 38 = some (.slice (Tryd.prog.elem 38)) := by kernel_rfl
  have hs : (sizeOf (Tryd.prog.elem 38)).run Tryd.prog w = .ok 1 w := by kernel_rfl
  rw [run_sliceAt_slice w _ _ _ _ _ hu, run_slice_hm w _ _ _ _ hu _ _ _ _ (by omega) (by omega) (by omega)]
  rw [hs]
  have e : p.map (fun x => x.add 0) = p := by
    cases p with
    | none => rfl
    | some a => rw [Option.map_some, addr_add0]
  simp [Result.andThen, sliced, e]
theorem Dat.open {B g : Nat} {w : World} {v : Value} {s : Bs} (h : Dat B g w v s) : ∃ p n c, v = .slice p n c ∧ s.length = n ∧ n ≤ c ∧ c ≤ 9223372036854775807 ∧ Row8 w p s ∧ (p = none → c = 0) := by
  obtain ⟨⟨p, n, c, rfl, h1, h2, h3, h4, h5⟩, _⟩ := h
  exact ⟨p, n, c, rfl, h1, h2, by unfold maxLen at h3; omega, h4, h5⟩
theorem Dat.take {B g : Nat} {w : World} {p : Option Addr} {n c k : Nat} {s : Bs} (h : Dat B g w (.slice p n c) s) (hk : k ≤ n) (hp : p = none → c = 0) : Dat B g w (.slice p k k) (s.take k) := by
  obtain ⟨⟨p', n', c', e, h1, h2, h3, h4, h5⟩, h6⟩ := h
  injection e with e1 e2 e3
  subst e1 e2 e3
  exact ⟨⟨p, k, k, rfl, by rw [List.length_take]; omega, Nat.le_refl _, by omega, h4.take k, fun e => by have := h5 e; omega⟩, fun h0 j hj => h6 (fun e => h0 (by rw [e, List.take_nil])) j (by rw [own_slice] at hj ⊢; exact hj)⟩
theorem Dat.cut {B g : Nat} {w : World} {p : Option Addr} {n c k : Nat} {s : Bs} (h : Dat B g w (.slice p n c) s) (hk : k ≤ n) : Dat B g w (.slice (cut8 p c k) (n - k) (c - k)) (s.drop k) := by
  obtain ⟨⟨p', n', c', e, h1, h2, h3, h4, h5⟩, h6⟩ := h
  injection e with e1 e2 e3
  subst e1 e2 e3
  refine ⟨⟨_, _, _, rfl, by rw [List.length_drop]; omega, by omega, by omega, ?_, fun e => ?_⟩, fun h0 j hj => h6 (fun e => h0 (by rw [e, List.drop_nil])) j ?_⟩
  · exact h4.drop (by omega)
  · unfold cut8 at e
    split at e
    · omega
    · cases p with
      | none => have := h5 rfl; omega
      | some a => cases e
  · rw [own_slice] at hj ⊢
    rw [own_cut8] at hj
    exact hj
theorem Dat.own {B g : Nat} {w : World} {v : Value} {s : Bs} (h : Own8 w B v s) (hg : g < B) : Dat B g w v s := by
  refine ⟨h.sl, fun _ k hk => ?_⟩
  rcases h.2 with ⟨rfl, _⟩ | ⟨q, cap, cur, rfl, hB, hh, _⟩
  · cases hk
  · injection hk with hk
    subst hk
    exact ⟨by have : B ≤ q := hB; simp only; omega, .inr ⟨cur, hh⟩⟩
def MustP (k : Int) (w : World) (e : Ending) (w' : World) : Prop := w' = w ∧ e = if k = 0 then .returned (.tuple #[]) else .panicked [{ v := .iface 30 (.int .i64 k), recovered := false }]
end Go.Proofs.YthglocpbdfcfnaaDoor
namespace Go.Proofs.YthglocpbdfcfnaaDoor
open Go Go.RowKit
set_option linter.unusedVariables false

theorem own_rw {B g : Nat} {w : World} {T N : Nat} {v : Value} {n : Nat} {xs : List Value} (h : w.ownsRow B T N v n xs) (hT : T ≠ 5) : Rw B g w (fun k => v.ownBlock = some k) := fun k hk => by
  rcases h.2 with ⟨rfl, _⟩ | ⟨q, cap, cur, rfl, hB, hh, _⟩
  · cases hk
  · injection hk with hk
    subst hk
    exact .inr ⟨hB, T, cur, hh, hT⟩
theorem own_ge {B : Nat} {w : World} {T N : Nat} {v : Value} {n : Nat} {xs : List Value} (h : w.ownsRow B T N v n xs) : ∀ k, v.ownBlock = some k → B ≤ k ∧ k < w.heap.size := fun k hk => by
  rcases h.2 with ⟨rfl, _⟩ | ⟨q, cap, cur, rfl, hB, hh, _⟩
  · cases hk
  · injection hk with hk
    subst hk
    exact ⟨hB, Blk.lt (t := T) (cs := cur) hh⟩
theorem in_info : (Tryd.prog.info? 40).map (fun i => (i.zero, i.size, i.bytes)) = some (some (.agg (List.replicate 32 (Value.int .u8 0) ++ [Value.int .u32 0, Value.slice none 0 0, Value.int .u32 0, Value.slice none 0 0]).toArray), 36, 96) := by kernel_rfl
theorem out_info : (Tryd.prog.info? 62).map (fun i => (i.zero, i.size, i.bytes)) = some (some (.agg #[.int .i64 0, .slice none 0 0]), 2, 32) := by kernel_rfl
theorem txt_info : (Tryd.prog.info? 38).map (fun i => (i.zero, i.size, i.bytes)) = some (some (.slice none 0 0), 1, 24) := by kernel_rfl
theorem InO.len {B : Nat} {w : World} {x : TIn} {cs : List Value} (h : InO B w x cs) : cs.length = 36 := h.c.len
theorem OutO.len {B : Nat} {w : World} {x : TOut} {cs : List Value} (h : OutO B w x cs) : cs.length = 2 := h.c.len
theorem TextO.len {B : Nat} {w : World} {x : Bs} {cs : List Value} (h : TextO B w x cs) : cs.length = 1 := by obtain ⟨v, rfl, _⟩ := h; rfl
theorem InO.one {B : Nat} {w : World} {x : TIn} {cs : List Value} (h : InO B w x cs) : cs.toArray.all (·.oneCell') = true := h.c.one
theorem OutO.one {B : Nat} {w : World} {x : TOut} {cs : List Value} (h : OutO B w x cs) : cs.toArray.all (·.oneCell') = true := h.c.one
theorem one_all {cs : List Value} (h : cs.toArray.all (·.oneCell') = true) : ∀ u ∈ cs, u.oneCell' = true := fun u hu => by
  rw [List.all_toArray, List.all_eq_true] at h
  exact h u hu
theorem TextO.one {B : Nat} {w : World} {x : Bs} {cs : List Value} (h : TextO B w x cs) : cs.toArray.all (·.oneCell') = true := by
  obtain ⟨v, rfl, h1⟩ := h
  rw [List.all_toArray]
  simp [h1.sl.one]
/-- a value that is these cells -/
def CellV (v : Value) (cs : List Value) : Prop := v.cells = cs.toArray


end Go.Proofs.YthglocpbdfcfnaaDoor
namespace Go.Proofs.YthglocpbdfcfnaaDoor
open Go Go.RowKit
set_option linter.unusedVariables false

theorem asFn {α : Type} (p : List α) (n : Nat) (h : p.length = n) : ∃ x : Fin n → α, p = List.ofFn x := by
  subst h
  exact ⟨fun i => p[i], List.ofFn_getElem.symm⟩
def ZIn : Array Value := (List.replicate 32 (Value.int .u8 0) ++ [Value.int .u32 0, Value.slice none 0 0, Value.int .u32 0, Value.slice none 0 0]).toArray
theorem ZIn_size : ZIn.size = 36 := by rfl
theorem zIn (w : World) : (zeroValue 40).run Tryd.prog w = .ok (.agg ZIn) w := zero_of (by kernel_rfl) w
theorem zOut (w : World) : (zeroValue 62).run Tryd.prog w = .ok (.agg #[.int .i64 0, .slice none 0 0]) w := zero_of (by kernel_rfl) w
/-- an input of id and index alone -/
def inCells (id : Bs) (ix : BitVec 32) (sc sq wi : Value) : List Value := hCells id ++ [u32 ix, sc, sq, wi]
theorem inCells_len {id : Bs} (h : id.length = 32) (ix : BitVec 32) (sc sq wi : Value) : (inCells id ix sc sq wi).length = 36 := by simp [inCells, hCells, h]
theorem built_pt (id : Bs) (h : id.length = 32) (ix : BitVec 32) : Tryd.prog.built 37 [(0, .agg (hCells id).toArray), (1, u32 ix)] = some (hCells id ++ [u32 ix]).toArray := by
  obtain ⟨x, rfl⟩ := asFn id 32 h
  kernel_rfl
theorem built_in (id : Bs) (h : id.length = 32) (ix : BitVec 32) : Tryd.prog.built 40 [(0, .agg (hCells id ++ [u32 ix]).toArray)] = some (inCells id ix (.slice none 0 0) (.int .u32 0) (.slice none 0 0)).toArray := by
  obtain ⟨x, rfl⟩ := asFn id 32 h
  kernel_rfl
theorem inCells_one {id : Bs} {ix : BitVec 32} {sc sq wi : Value} (h1 : sc.oneCell' = true) (h2 : sq.oneCell' = true) (h3 : wi.oneCell' = true) : (inCells id ix sc sq wi).toArray.all (·.oneCell') = true := by
  rw [List.all_toArray, inCells, hCells, List.all_eq_true]
  intro v hv
  rcases List.mem_append.1 hv with hv | hv
  · obtain ⟨b, _, rfl⟩ := List.mem_map.1 hv
    rfl
  · simp only [List.mem_cons, List.not_mem_nil, or_false] at hv
    rcases hv with rfl | rfl | rfl | rfl
    · rfl
    · exact h1
    · exact h2
    · exact h3
theorem inCells_at {id : Bs} (h : id.length = 32) (ix : BitVec 32) (sc sq wi : Value) (j : Nat) : (inCells id ix sc sq wi)[32 + j]? = [u32 ix, sc, sq, wi][j]? := by
  unfold inCells
  have hl : (hCells id).length = 32 := by simp [hCells, h]
  rw [List.getElem?_append_right (by omega), hl, Nat.add_sub_cancel_left]
theorem inCells_set (id : Bs) (h : id.length = 32) (ix : BitVec 32) (sc sq wi v : Value) : ((inCells id ix sc sq wi).toArray.setIfInBounds 33 v = (inCells id ix v sq wi).toArray) ∧ ((inCells id ix sc sq wi).toArray.setIfInBounds 34 v = (inCells id ix sc v wi).toArray) ∧ ((inCells id ix sc sq wi).toArray.setIfInBounds 35 v = (inCells id ix sc sq v).toArray) := by
  have hl : (hCells id).length = 32 := by simp [hCells, h]
  unfold inCells
  refine ⟨?_, ?_, ?_⟩ <;> rw [List.setIfInBounds_toArray, List.set_append_right _ _ (by omega), hl] <;> rfl
theorem row_range {w : World} {b o : Nat} {bs : Bs} (h : Row8 w (some ⟨b, o, none⟩) bs) : w.rangeAt b o (hCells bs) := fun j v hj => by
  rw [hCells, List.getElem?_map] at hj
  cases hx : bs[j]? with
  | none => rw [hx] at hj; cases hj
  | some x =>
    rw [hx] at hj
    injection hj with hj
    obtain ⟨b', o', e, _, hc⟩ := h (fun e => by rw [e] at hx; cases hx)
    injection e with e
    injection e with e1 e2
    subst e1 e2
    rw [hc j x hx, ← hj]

theorem run_arr32 (w : World) (b o c : Nat) : (Instr.arrayAt 29 (.slice (some ⟨b, o, none⟩) 32 c)).run Tryd.prog w = .ok (.pointer (some ⟨b, o, none⟩)) w := by
  simp [Instr.arrayAt, run_underlying Tryd.underlying29]
/-- what stays while a reader in block g moves on, and new memory is made -/
def Stable (g : Nat) (F : World → Prop) : Prop := ∀ W W', F W → Stays (· = g) W W' → F W'
theorem Stable.and {g : Nat} {F F' : World → Prop} (h : Stable g F) (h' : Stable g F') : Stable g (fun W => F W ∧ F' W) := fun W W' hF hs => ⟨h W W' hF.1 hs, h' W W' hF.2 hs⟩
theorem Stable.blk {g z : Nat} {t : TypeId} {cs : Array Value} (h : z ≠ g) : Stable g (fun W => Blk W z t cs) := fun W W' hF hs => hF.stays hs h
theorem Stable.dat {B g : Nat} {v : Value} {s : Bs} : Stable g (fun W => Dat B g W v s) := fun W W' hF hs => hF.stays hs fun k hk => .inl hk
theorem Stable.stays {g : Nat} (w : World) : Stable g (fun W => Stays (· = g) w W) := fun W W' hF hs => hF.trans hs fun k _ hk => hk
theorem Stable.fut {g : Nat} {F : World → Prop} (h : Stable g F) {W W' : World} (hF : F W) (hb : Below W.heap.size W W') : F W' := h W W' hF (Stays.of_below hb (Nat.le_refl _) _)
theorem Dat.range {B g : Nat} {w : World} {b o n c : Nat} {bs : Bs} (h : Dat B g w (.slice (some ⟨b, o, none⟩) n c) bs) : w.rangeAt b o (hCells bs) := by
  obtain ⟨p, n', c', e, _, _, _, hr, _⟩ := h.open
  injection e with e
  subst e
  exact row_range hr
theorem sep_one {B z : Nat} {Ts : List TypeId} {T : TypeId} {cs : Array Value} {w : World} (h : Blk w z T cs) (hT : T ∉ Ts) : Sep B Ts w (· = z) := fun k hk => .inr ⟨T, cs, (show k = z from hk) ▸ h, hT⟩
theorem rw_one {B g z : Nat} {T : TypeId} {cs : Array Value} {w : World} (h : Blk w z T cs) (hB : B ≤ z) (hT : T ≠ 5) : Rw B g w (· = z) := fun k hk => .inr ⟨(show k = z from hk) ▸ hB, T, cs, (show k = z from hk) ▸ h, hT⟩
end Go.Proofs.YthglocpbdfcfnaaDoor
namespace Go.Proofs.YthglocpbdfcfnaaDoor
open Go Go.RowKit
set_option linter.unusedVariables false

theorem toInt_small (v : BitVec 64) (h : ¬ 9223372036854775808 ≤ v.toNat) : v.toInt = iv64 v := by
  have e : iv64 v = (v.toNat : Int) := rfl
  rw [e, BitVec.toInt_eq_toNat_cond, if_pos (by omega)]
theorem built_out (V sv : Value) (h1 : V.cells = #[V]) (h2 : sv.cells = #[sv]) (k : Int) (hV : V = .int .i64 k) (p : Option Addr) (n c : Nat) (hs : sv = .slice p n c) : Tryd.prog.built 62 [(0, V), (1, sv)] = some #[V, sv] := by
  subst hV hs
  kernel_rfl
theorem shr63 (v : BitVec 64) : iv64 v / 9223372036854775808 = if 9223372036854775808 ≤ v.toNat then 1 else 0 := by
  have h := v.isLt
  have e : iv64 v = (v.toNat : Int) := rfl
  rw [e]
  split <;> omega
theorem insZ_parts (s : Bs) : insZ s = match partsZ 2000 inZ s with
    | .ok (l, r) => if l.length = 0 then .error 51 else .ok (l, r)
    | .error e => .error e := by
  unfold insZ partsZ
  cases hc : cntZ 2000 s with
  | error e => rw [Pz.bind_err hc, Pz.bind_err hc]
  | ok x =>
    obtain ⟨n, r⟩ := x
    rw [Pz.bind_ok hc, Pz.bind_ok hc]
    by_cases h0 : n = 0
    · subst h0
      rfl
    · rw [if_neg h0]
      cases hm : manyZ inZ n r with
      | error e => rfl
      | ok y =>
        obtain ⟨l, r'⟩ := y
        have := (many_ok inZ_ok n _ _ _ hm).2.1
        simp only
        rw [if_neg (by omega)]
/-- what is read so far of witnesses -/
def contW (xs : List TIn) (ys : List TIn) (s : Bs) : Except Int (List TIn × Bs) := match witsZ ys s with
  | .ok (l, r) => .ok (xs ++ l, r)
  | .error e => .error e
theorem contW_start (ys : List TIn) (s : Bs) : witsZ ys s = contW [] ys s := by
  unfold contW
  cases witsZ ys s with
  | error e => rfl
  | ok x => rfl
theorem contW_end (xs : List TIn) (s : Bs) : contW xs [] s = .ok (xs, s) := by
  unfold contW witsZ Pz.ret
  simp
theorem contW_ok {xs ys : List TIn} {x : TIn} {s r : Bs} {a : List Bs} (h : partsZ 100 textZ s = .ok (a, r)) : contW xs (x :: ys) s = contW (xs ++ [{ x with wi := a }]) ys r := by
  unfold contW
  rw [show witsZ (x :: ys) = ((partsZ 100 textZ).bind fun w => (witsZ ys).bind fun l => Pz.ret ({ x with wi := w } :: l)) from rfl, Pz.bind_ok h]
  unfold Pz.bind
  cases witsZ ys r with
  | error e => rfl
  | ok x => simp [Pz.ret]
theorem contW_bad {xs ys : List TIn} {x : TIn} {s : Bs} {e : Int} (h : partsZ 100 textZ s = .error e) : contW xs (x :: ys) s = .error e := by
  unfold contW
  rw [show witsZ (x :: ys) = ((partsZ 100 textZ).bind fun w => (witsZ ys).bind fun l => Pz.ret ({ x with wi := w } :: l)) from rfl, Pz.bind_err h]

theorem flat_set (N : Nat) : ∀ (css : List (List Value)), (∀ cs ∈ css, cs.length = N) → ∀ (i : Nat) (cs : List Value), css[i]? = some cs → ∀ j, j < N → ∀ u, css.flatten.set (i * N + j) u = (css.set i (cs.set j u)).flatten
  | [], _, i, cs, h, j, hj, u => by cases h
  | c :: css, hl, i, cs, h, j, hj, u => by
    have hc := hl c (List.mem_cons_self ..)
    cases i with
    | zero =>
      rw [List.getElem?_cons_zero] at h
      injection h with h
      subst h
      rw [List.flatten_cons, Nat.zero_mul, Nat.zero_add, List.set_append_left _ _ (by omega), List.set_cons_zero, List.flatten_cons]
    | succ i =>
      rw [List.getElem?_cons_succ] at h
      rw [List.flatten_cons, List.set_append_right _ _ (by rw [Nat.succ_mul]; omega), hc, Nat.succ_mul, show i * N + N + j - N = i * N + j by omega, List.set_cons_succ, List.flatten_cons, flat_set N css (fun cs h => hl cs (List.mem_cons_of_mem _ h)) i cs h j hj u]
theorem css_set_len {css : List (List Value)} {N i : Nat} {cs : List Value} (hl : ∀ cs ∈ css, cs.length = N) (hc : cs.length = N) : ∀ c ∈ css.set i cs, c.length = N := fun c hm => by
  rcases List.mem_or_eq_of_mem_set hm with h | rfl
  · exact hl c h
  · exact hc
/-- a cell of an element of a row of one's own is written -/
theorem RowO.poke {α : Type} {E : World → α → List Value → Prop} {T N B : Nat} {Ts : List TypeId} {w : World} {b n c k j : Nat} {xs : List α} (h : RowO E T N B w (.slice (some ⟨b, 0, none⟩) n c) xs) (hE : KeepsO B Ts E) (hT : T ∉ Ts) {x x' : α} {u : Value} (hx : xs[k]? = some x) (hj : j < N)
    (hx' : ∀ cs, E w x cs → cs.length = N → E (w.setCell ⟨b, k * N + j, none⟩ u) x' (cs.set j u)) :
    (∃ cur, Blk w b T cur ∧ B ≤ b ∧ k * N + j < cur.size) ∧ RowO E T N B (w.setCell ⟨b, k * N + j, none⟩ u) (.slice (some ⟨b, 0, none⟩) n c) (xs.set k x') := by
  obtain ⟨css, h1, h2, h3⟩ := h
  have hk : k < xs.length := (List.getElem?_eq_some_iff.1 hx).1
  have hl := css_len h1 h3
  rcases h2.2 with ⟨e, _⟩ | ⟨g, cap, cur, e, hB, hh, hc1, hc2, hsz, htk⟩
  · cases e
  · injection e with e1 e2 e3
    injection e1 with e1
    injection e1 with e1
    subst e1 e2 e3
    have hb : Blk w b T cur := hh
    have hlt : k * N + j < xs.length * N := by
      have := Nat.mul_le_mul_right N (show k + 1 ≤ xs.length by omega)
      rw [Nat.succ_mul] at this
      omega
    have hcN := Nat.mul_le_mul_right N hc1
    have hst := Stays.set w b (k * N + j) u
    have hsep : Sep B Ts w (· = b) := sep_one hb hT
    obtain ⟨cs0, h40, h50, h60⟩ := h3 k x hx
    refine ⟨⟨cur, hb, hB, by omega⟩, css.set k (cs0.set j u), by simp [h1], ⟨?_, .inr ⟨b, c, cur.setIfInBounds (k * N + j) u, by simp, hB, hb.set _ _, ?_, hc2, ?_, ?_⟩⟩, fun i y hy => ?_⟩
    · rw [← flat_set N css hl k cs0 h40 j hj u, List.length_set, List.length_set]
      exact h2.1
    · rw [List.length_set]; exact hc1
    · rw [Array.size_setIfInBounds]; exact hsz
    · rw [List.length_set, ← flat_set N css hl k cs0 h40 j hj u, ← htk, Array.toList_setIfInBounds, List.take_set]
    · by_cases hik : i = k
      · subst hik
        rw [List.getElem?_set_self hk] at hy
        injection hy with hy
        subst hy
        exact ⟨cs0.set j u, by rw [List.getElem?_set_self (by omega)], hx' cs0 h50 h60, by rw [List.length_set]; exact h60⟩
      · rw [List.getElem?_set_ne (by omega)] at hy
        obtain ⟨cs, h4, h5, h6⟩ := h3 i y hy
        exact ⟨cs, by rw [List.getElem?_set_ne (by omega)]; exact h4, hE _ _ _ _ _ h5 hst hsep, h6⟩
end Go.Proofs.YthglocpbdfcfnaaDoor
namespace Go.Proofs.YthglocpbdfcfnaaDoor
open Go Go.RowKit
set_option linter.unusedVariables false

def ZTx : List Value := [.int .u32 0, .slice none 0 0, .slice none 0 0, .int .u32 0]
theorem zTx (w : World) : (zeroValue 26).run Tryd.prog w = .ok (.agg ZTx.toArray) w := zero_of (by kernel_rfl) w
theorem built_tx (k : Int) : Tryd.prog.built 26 [(0, .int .u32 k)] = some #[.int .u32 k, .slice none 0 0, .slice none 0 0, .int .u32 0] := by kernel_rfl
theorem set_mid {α : Type} (xs ys : List α) (x x' : α) (k : Nat) (hk : xs.length = k) (hx : ys[k]? = some x) : (xs ++ ys.drop k).set k x' = (xs ++ [x']) ++ ys.drop (k + 1) := by
  have hl : k < ys.length := (List.getElem?_eq_some_iff.1 hx).1
  rw [List.drop_eq_getElem_cons hl, List.set_append_right _ _ (by omega), hk, Nat.sub_self, List.set_cons_zero, List.append_assoc]
  rfl
theorem at_mid {α : Type} (xs ys : List α) (k : Nat) (hk : xs.length = k) : (xs ++ ys.drop k)[k]? = ys[k]? := by
  rw [List.getElem?_append_right (by omega), hk, Nat.sub_self, List.getElem?_drop, Nat.add_zero]
theorem drop_mid {α : Type} (ys : List α) (k : Nat) (x : α) (hx : ys[k]? = some x) : ys.drop k = x :: ys.drop (k + 1) := by
  have hl : k < ys.length := (List.getElem?_eq_some_iff.1 hx).1
  rw [List.drop_eq_getElem_cons hl]
  rw [List.getElem?_eq_getElem hl] at hx
  injection hx with hx
  rw [hx]
theorem RowO.blk {α : Type} {E : World → α → List Value → Prop} {T N B b n c : Nat} {w : World} {xs : List α} (h : RowO E T N B w (.slice (some ⟨b, 0, none⟩) n c) xs) : ∃ cur, Blk w b T cur ∧ B ≤ b ∧ cur.size = c * N ∧ n ≤ c := by
  obtain ⟨css, g1, g2, g3⟩ := h
  rcases g2.2 with ⟨e', _⟩ | ⟨b', cap, cur', e', hBb, hh, hc1, _, hsz, _⟩
  · cases e'
  · injection e' with e1 e2 e3
    injection e1 with e1
    injection e1 with e1
    subst e1 e2 e3
    exact ⟨cur', hh, hBb, hsz, hc1⟩
theorem inO_wit {B : Nat} {w w' : World} {x : TIn} {cs : List Value} {S : Nat → Prop} {v : Value} {ws : List Bs} (h : InO B w x cs) (hs : Stays S w w') (hp : Sep B [5, 38] w S) (hr : RowO (TextO B) 38 1 B w' v ws) : InO B w' { x with wi := ws } (cs.set 35 v) := by
  obtain ⟨sv, wv, rfl, h1, h2, h3⟩ := h
  refine ⟨sv, v, ?_, h1, h2.sep hs (hp.mono (by simp)), hr⟩
  have hl : (hCells x.id).length = 32 := by simp [hCells, h1]
  rw [List.set_append_right _ _ (by omega), hl]
  rfl

end Go.Proofs.YthglocpbdfcfnaaDoor
namespace Go.Proofs.YthglocpbdfcfnaaDoor
open Go Go.RowKit
set_option linter.unusedVariables false

theorem assert_nil (w : World) : (Instr.typeAssert .nilIface 20 30 true).run Tryd.prog w = .ok (.tuple #[.int .i64 0, .bool false]) w := by
  kernel_rfl
theorem assert_errno (k : Int) (w : World) : (Instr.typeAssert (.iface 30 (.int .i64 k)) 20 30 true).run Tryd.prog w = .ok (.tuple #[.int .i64 k, .bool true]) w := by
  kernel_rfl
theorem zTx_no8 (o : Nat) (x : BitVec 8) : ZTx[o]? ≠ some (u8 x) := by
  match o with
  | 0 => intro h; cases h
  | 1 => intro h; cases h
  | 2 => intro h; cases h
  | 3 => intro h; cases h
  | n + 4 => intro h; cases h
theorem RowO.mono {α : Type} {E E' : World → α → List Value → Prop} {T N B B' : Nat} {w : World} {v : Value} {xs : List α} (h : RowO E T N B w v xs) (hE : ∀ x cs, E w x cs → E' w x cs) (hB : B' ≤ B) : RowO E' T N B' w v xs := by
  obtain ⟨css, h1, h2, h3⟩ := h
  refine ⟨css, h1, ownsRow_mono h2 hB, fun i x hx => ?_⟩
  obtain ⟨cs, h4, h5, h6⟩ := h3 i x hx
  exact ⟨cs, h4, hE _ _ h5, h6⟩
theorem TextO.mono {B B' : Nat} {w : World} {x : Bs} {cs : List Value} (h : TextO B w x cs) (hB : B' ≤ B) : TextO B' w x cs := by obtain ⟨v, h1, h2⟩ := h; exact ⟨v, h1, ownsRow_mono h2 hB⟩
theorem InO.mono {B B' : Nat} {w : World} {x : TIn} {cs : List Value} (h : InO B w x cs) (hB : B' ≤ B) : InO B' w x cs := by obtain ⟨sv, wv, h1, h2, h3, h4⟩ := h; exact ⟨sv, wv, h1, h2, ownsRow_mono h3 hB, h4.mono (fun _ _ h => h.mono hB) hB⟩
theorem OutO.mono {B B' : Nat} {w : World} {x : TOut} {cs : List Value} (h : OutO B w x cs) (hB : B' ≤ B) : OutO B' w x cs := by obtain ⟨sv, h1, h2⟩ := h; exact ⟨sv, h1, ownsRow_mono h2 hB⟩
theorem TxO.mono {B B' : Nat} {w : World} {x : TTx} {cs : List Value} (h : TxO B w x cs) (hB : B' ≤ B) : TxO B' w x cs := by obtain ⟨iv, ov, h1, h2, h3⟩ := h; exact ⟨iv, ov, h1, h2.mono (fun _ _ h => h.mono hB) hB, h3.mono (fun _ _ h => h.mono hB) hB⟩
/-- what a transaction's bytes say: it, what stands behind, the error -/
def txDecP (s : Bs) : TTx × Bs × Int := match txZ s with
  | .ok (t, r) => (t, r, 0)
  | .error k => (⟨0#32, [], [], 0#32⟩, [], k)
def DecTx (w : World) (x : TTx × Bs × Int) (e : Ending) (w' : World) : Prop := ∃ cs v, e = .returned (.tuple #[.agg cs.toArray, v, .int .i64 x.2.2]) ∧ TxO w.heap.size w' x.1 cs ∧ Own8 w' w.heap.size v x.2.1 ∧ Below w.heap.size w w'
theorem results_cells3 {fn : Func} {p u v : Tmp} {ty tu tv : TypeId} (h : fn.results = #[.cell p ty, .cell u tu, .cell v tv]) (tmps : Array Value) (P : Program) (w : World) (g g2 g3 : Nat) (t : TypeId) (cs : List Value) (x y : Value) (d : TypeDesc)
    (hp : tmps.getD p undef = .pointer (some ⟨g, 0, none⟩)) (hu' : tmps.getD u undef = .pointer (some ⟨g2, 0, none⟩)) (hv' : tmps.getD v undef = .pointer (some ⟨g3, 0, none⟩)) (hg : Blk w g t cs.toArray) (hu : P.underlying ty = some d) (hd : d.isRow = true) (hi : (P.info? ty).map (·.size) = some cs.length)
    (h2 : ∀ w', w' = w → (loadVar tu ⟨g2, 0, none⟩).run P w' = .ok x w') (h3 : ∀ w', w' = w → (loadVar tv ⟨g3, 0, none⟩).run P w' = .ok y w') :
    (results fn tmps).run P w = .ok (.tuple #[.agg cs.toArray, x, y]) w := by
  have hp' : tmps[p]?.getD undef = .pointer (some ⟨g, 0, none⟩) := by simpa using hp
  have hp2 : tmps[u]?.getD undef = .pointer (some ⟨g2, 0, none⟩) := by simpa using hu'
  have hp3 : tmps[v]?.getD undef = .pointer (some ⟨g3, 0, none⟩) := by simpa using hv'
  simp [results, h, hp', hp2, hp3, asAddr, run_loadVar_mid w g 0 ty cs d (blk_range hg) hu hd hi, h2 w rfl, h3 w rfl]

end Go.Proofs.YthglocpbdfcfnaaDoor
namespace Go.Proofs.YthglocpbdfcfnaaDoor
open Go Go.RowKit
set_option linter.unusedVariables false

theorem all_take {α : Type} (p : α → Bool) (xs : List α) (k : Nat) (x : α) (hx : xs[k]? = some x) (h0 : (xs.take k).all p = true) (h1 : p x = true) : (xs.take (k + 1)).all p = true := by
  rw [List.take_add_one, hx, List.all_append, h0]
  simp [h1]
theorem all_miss {α : Type} (p : α → Bool) (xs : List α) (k : Nat) (x : α) (hx : xs[k]? = some x) (h1 : p x = false) : xs.all p = false := by
  rw [List.all_eq_false]
  exact ⟨x, List.mem_of_getElem? hx, by simp [h1]⟩
theorem canTx_not {t : TTx} (h : t.is.all canIn = false) : canTx t = false := by unfold canTx; rw [h]; simp
theorem canTx_not2 {t : TTx} (h : t.os.all canOut = false) : canTx t = false := by unfold canTx; rw [h]; simp
/-- the k-th element of a slice, read in a later world -/
theorem ESl.at {α : Type} {E : World → α → List Value → Prop} {N : Nat} {w W : World} {p : Option Addr} {n c k : Nat} {xs : List α} (h : ESl E N w (.slice p n c) xs) (hb : Below w.heap.size w W) (hk : k < n) : ∃ b off cs x, p = some ⟨b, off, none⟩ ∧ xs[k]? = some x ∧ E w x cs ∧ W.rangeAt b (off + k * N) cs := by
  obtain ⟨p', n', c', e, h1, h2, h3, h4, h5⟩ := h
  injection e with e1 e2 e3
  subst e1 e2 e3
  have hx := List.getElem?_eq_getElem (l := xs) (i := k) (by omega)
  obtain ⟨b, off, rfl, hlt, hc⟩ := h4 (by intro e; subst e; simp at h1; omega)
  obtain ⟨cs, h6, h7⟩ := hc k _ hx
  exact ⟨b, off, cs, _, rfl, hx, h6, range_fut h7 hb hlt⟩
theorem ESl.slen {α : Type} {E : World → α → List Value → Prop} {N : Nat} {w : World} {p : Option Addr} {n c : Nat} {xs : List α} (h : ESl E N w (.slice p n c) xs) : xs.length = n ∧ n ≤ c ∧ c ≤ 9223372036854775807 := by
  obtain ⟨p', n', c', e, h1, h2, h3, h4, h5⟩ := h
  injection e with e1 e2 e3
  subst e1 e2 e3
  exact ⟨h1, h2, by unfold maxLen at h3; omega⟩
theorem ESl.opens {α : Type} {E : World → α → List Value → Prop} {N : Nat} {w : World} {v : Value} {xs : List α} (h : ESl E N w v xs) : ∃ p n c, v = .slice p n c := by
  obtain ⟨p', n', c', e, _⟩ := h
  exact ⟨_, _, _, e⟩
theorem Sl.slen {w : World} {p : Option Addr} {n c : Nat} {bs : Bs} (h : Sl w (.slice p n c) bs) : bs.length = n ∧ n ≤ c ∧ c ≤ 9223372036854775807 := by
  obtain ⟨p', n', c', e, h1, h2, h3, h4, h5⟩ := h
  injection e with e1 e2 e3
  subst e1 e2 e3
  exact ⟨h1, h2, by unfold maxLen at h3; omega⟩
theorem Sl.opens {w : World} {v : Value} {bs : Bs} (h : Sl w v bs) : ∃ p n c, v = .slice p n c := by
  obtain ⟨p', n', c', e, _⟩ := h
  exact ⟨_, _, _, e⟩
theorem zeroInZ (w : World) : ∃ Z : Array Value, Z.size = 36 ∧ (zeroValue 40).run Tryd.prog w = .ok (.agg Z) w := by obtain ⟨Z, h1, h2⟩ := zeroIn; exact ⟨Z, h1, h2 w⟩

set_option maxRecDepth 100000 in
set_option maxHeartbeats 16000000 in
theorem refCan_any (t : TTx) (cs : List Value) (w : World) (h : TxC w t cs) : Calls Tryd.prog 8 #[.agg cs.toArray] w fun e w' => e = .returned (.bool (canTx t)) ∧ Below w.heap.size w w' := by
  obtain ⟨iv, ov, rfl, hi, ho⟩ := h
  obtain ⟨r, hr⟩ : ∃ r, r = canTx t := ⟨_, rfl⟩
  rw [← hr]
  have HR := Lib.hid hr
  obtain ⟨pi, n, ci, rfl⟩ := hi.opens
  obtain ⟨po, m, co, rfl⟩ := ho.opens
  have HI := Lib.hid hi
  have HO := Lib.hid ho
  obtain ⟨hn, hnc, hcm⟩ := hi.slen
  obtain ⟨hm, hmc, hcm2⟩ := ho.slen
  obtain ⟨vv, hvv⟩ : ∃ v, v = u32 t.ve := ⟨_, rfl⟩
  obtain ⟨vl, hvl⟩ : ∃ v, v = u32 t.lo := ⟨_, rfl⟩
  rw [← hvv, ← hvl]
  have HN := Lib.hid hn
  have HM := Lib.hid hm
  have hb1 := below_new w (.cells #[vv, .slice pi n ci, .slice po m co, vl] 26)
  have HB1 := Lib.hid (Blk.new w 26 #[vv, .slice pi n ci, .slice po m co, vl])
  clear hr hi ho hn hm hvv hvl
  go_enter Tryd.func8, Tryd.ntmps8
  go_upto_region 1 with fail
  generalize w.alloc (.cells #[vv, .slice pi n ci, .slice po m co, vl] 26) = w1 at *
  have HW1 := Lib.hid hb1
  have c1 := HB1.out.cell 1
  have c2 := HB1.out.cell 2
  simp only [List.getElem?_toArray, List.getElem?_cons_zero, List.getElem?_cons_succ] at c1 c2
  by_cases h1 : n < 1
  · have hl : (n : Int) < 1 := by omega
    go_wp2_with fail
    go_ret
    exact ⟨by rw [HR.out]; unfold canTx; rw [HN.out]; simp; omega, HW1.out⟩
  have hl1 : ¬ (n : Int) < 1 := by omega
  by_cases h2 : 2000 < n
  · have hl2 : (2000 : Int) < (n : Int) := by omega
    go_wp2_with fail
    go_ret
    exact ⟨by rw [HR.out]; unfold canTx; rw [HN.out]; simp; omega, HW1.out⟩
  have hl2 : ¬ (2000 : Int) < (n : Int) := by omega
  by_cases h3 : 2000 < m
  · have hl3 : (2000 : Int) < (m : Int) := by omega
    go_wp2_with fail
    go_ret
    exact ⟨by rw [HR.out]; unfold canTx; rw [HN.out, HM.out]; simp; omega, HW1.out⟩
  have hl3 : ¬ (2000 : Int) < (m : Int) := by omega
  have h1' : 1 ≤ n := by omega
  have h2' : n ≤ 2000 := by omega
  have h3' : m ≤ 2000 := by omega
  go_upto_region 4 with fail
  clear hl1 hl2 hl3 h1 h2 h3 hb1
  go_loopw [28] (fun i wr => ∃ k : Nat, k ≤ n ∧ i = .int .i64 k ∧ Hid (Below w.heap.size w wr) ∧ Hid (Blk wr w.heap.size 26 #[vv, .slice pi n ci, .slice po m co, vl]) ∧ Hid ((t.is.take k).all canIn = true)) (fun i _ => n - (intOf i).toNat)
  case atStart => exact ⟨0, by omega, rfl, HW1, HB1, Lib.hid rfl⟩
  case round =>
    obtain ⟨k, hk, rfl, HWk, HBk, HAk⟩ := hrel
    by_cases hkn : k < n
    · have hlt : (k : Int) < (n : Int) := by omega
      obtain ⟨b, off, cs, x, rfl, hx, hE, l2⟩ := HI.out.at HWk.out hkn
      obtain ⟨sv, wv, k32, k33, k34, k35, hsv, hwv⟩ := hE.cell
      obtain ⟨ps, ns, cs', rfl⟩ := hsv.opens
      obtain ⟨pw, nw, cw, rfl⟩ := hwv.opens
      obtain ⟨hns, hnsc, hcsm⟩ := hsv.slen
      obtain ⟨hnw, hnwc, hcwm⟩ := hwv.slen
      have hcan : canIn x = (!decide (10000 < ns) && (!decide (100 < nw) && x.wi.all fun b => !decide (10000 < b.length))) := by unfold canIn; rw [hns, hnw]
      have HCAN := Lib.hid hcan
      have HX := Lib.hid hx
      have HWV := Lib.hid hwv
      have HNW := Lib.hid hnw
      have K33 := Lib.hid k33
      have K35 := Lib.hid k35
      have H3 := Lib.hid hE.len
      have H1 := Lib.hid hE.one
      obtain ⟨Z, hZl, hz⟩ := zeroIn
      have HZ := Lib.hid hZl
      have hbr := below_new wr (.cells Z 40)
      clear hx hE k32 k33 k34 k35 hsv hwv hns hnw hcan hZl
      go_upto_region 6 with (first
        | (with_reducible refine wpList_load_mid (op := ⟨some 31, _, _, _, _, _⟩) ?_ 40 (.tmp 30) ?_ (b) (off + k * 36) ?_ (cs) _ (l2) Tryd.underlying40 ?_ ?_ ?_
           · rfl
           · rfl
           · rfl
           · rfl
           · exact ((info_Ins H3.out)))
        | (with_reducible refine wp_store_blk (o := ⟨none, _, _, _, _, _⟩) ?_ 40 (.tmp 4) (.tmp 31) ?_ (wr.heap.size) 40 (Z) (cs.toArray) ?_ ?_ (Blk.new wr _ _) ?_ ?_ ?_ (wr.heap.size) (wr) ?_ ?_ ?_
           · rfl
           · rfl
           · rfl
           · rfl
           · exact (by rw [List.size_toArray]; exact info_Ins H3.out)
           · exact (HZ.out.trans (by rw [List.size_toArray]; exact H3.out.symm))
           · exact (H1.out)
           · exact (hbr)
           · exact (Nat.le_refl _)
           intro w6 hB6 hb6 hg6 hs6))
      have HW6 := Lib.hid (below_fut HWk.out hb6 (Nat.le_refl _))
      have HB6 := Lib.hid (HBk.out.fut hb6)
      have c33 := hB6.cell 33
      have c35 := hB6.cell 35
      rw [List.getElem?_toArray, K33.out] at c33
      rw [List.getElem?_toArray, K35.out] at c35
      clear hb6 hg6 hs6 l2 hz hbr HWk HBk
      by_cases hs : 10000 < ns
      · have hls : (10000 : Int) < (ns : Int) := by omega
        go_wp2_with fail
        go_ret
        exact ⟨by rw [HR.out, canTx_not (all_miss canIn t.is k x HX.out (by rw [HCAN.out]; simp [hs]))]; rfl, HW6.out⟩
      have hls : ¬ (10000 : Int) < (ns : Int) := by omega
      by_cases hw : 100 < nw
      · have hlw : (100 : Int) < (nw : Int) := by omega
        go_wp2_with fail
        go_ret
        exact ⟨by rw [HR.out, canTx_not (all_miss canIn t.is k x HX.out (by rw [HCAN.out]; simp [hw]))]; rfl, HW6.out⟩
      have hlw : ¬ (100 : Int) < (nw : Int) := by omega
      have hw' : nw ≤ 100 := by omega
      have hs' : ns ≤ 10000 := by omega
      go_upto_region 9 with fail
      clear hls hlw hs hw c33 c35
      go_loopw [45] (fun i wr => ∃ j : Nat, j ≤ nw ∧ i = .int .i64 j ∧ wr = w6 ∧ Hid ((x.wi.take j).all (fun b => !decide (10000 < b.length)) = true)) (fun i _ => nw - (intOf i).toNat)
      case atStart => exact ⟨0, by omega, rfl, rfl, Lib.hid rfl⟩
      case round =>
        obtain ⟨j, hj, rfl, hwr, HAj⟩ := hrel
        subst hwr
        by_cases hjn : j < nw
        · have hltj : (j : Int) < (nw : Int) := by omega
          obtain ⟨b2, off2, cs2, y, rfl, hy, ⟨vy, rfl, hsy⟩, l3⟩ := HWV.out.at HW6.out hjn
          obtain ⟨py, ny, cy, rfl⟩ := hsy.opens
          obtain ⟨hny, hnyc, hcym⟩ := hsy.slen
          have cy1 : wr.cell? ⟨b2, off2 + j, none⟩ = some (.slice py ny cy) := by
            have := l3 0 _ rfl
            rwa [Nat.mul_one, Nat.add_zero] at this
          have HY := Lib.hid hy
          have HNY := Lib.hid hny
          clear hy hsy l3 hny
          by_cases hl : 10000 < ny
          · have hll : (10000 : Int) < (ny : Int) := by omega
            go_wp2_with fail
            go_ret
            exact ⟨by rw [HR.out, canTx_not (all_miss canIn t.is k x HX.out (by rw [HCAN.out, all_miss _ x.wi j y HY.out (by rw [HNY.out]; simp [hl])]; simp))]; rfl, HW6.out⟩
          · have hll : ¬ (10000 : Int) < (ny : Int) := by omega
            have hAj := Lib.hid (all_take (fun b : Bs => !decide (10000 < b.length)) x.wi j y HY.out HAj.out (by rw [HNY.out]; simp [hl]))
            go_wp2_with fail
            go_roundw
            case rel => exact ⟨j + 1, by omega, by go_num, trivial, hAj⟩
            case measure => simp [intOf]; omega
        · obtain rfl : j = nw := by omega
          have hall := HAj.out
          rw [List.take_of_length_le (by have := HNW.out; omega)] at hall
          have hAk := Lib.hid (all_take canIn t.is k x HX.out HAk.out (by rw [HCAN.out, hall]; simp; omega))
          clear hall
          go_wp2_with fail
          go_roundw
          case rel => exact ⟨k + 1, by omega, by go_num, HW6, HB6, hAk⟩
          case measure => simp [intOf]; omega
    · obtain rfl : k = n := by omega
      have hall := HAk.out
      rw [List.take_of_length_le (by have := HN.out; omega)] at hall
      have HALL := Lib.hid hall
      have d2 := HBk.out.cell 2
      simp only [List.getElem?_toArray, List.getElem?_cons_zero, List.getElem?_cons_succ] at d2
      clear hall
      go_upto_region 16 with fail
      clear d2
      go_loopw [57] (fun i wr => ∃ k : Nat, k ≤ m ∧ i = .int .i64 k ∧ Hid (Below w.heap.size w wr) ∧ Hid ((t.os.take k).all canOut = true)) (fun i _ => m - (intOf i).toNat)
      case atStart => exact ⟨0, by omega, rfl, HWk, Lib.hid rfl⟩
      case round =>
        obtain ⟨j, hj, rfl, HWj, HAj⟩ := hrel
        by_cases hjm : j < m
        · have hlt : (j : Int) < (m : Int) := by omega
          obtain ⟨b, off, cs, x, rfl, hx, hE, l2⟩ := HO.out.at HWj.out hjm
          have H1 := Lib.hid hE.one
          obtain ⟨sv, rfl, hsv⟩ := hE
          obtain ⟨ps, ns, cs', rfl⟩ := hsv.opens
          obtain ⟨hns, hnsc, hcsm⟩ := hsv.slen
          have hcan : canOut x = (!decide (x.va.toInt < 0) && !decide (10000 < ns)) := by unfold canOut; rw [hns]
          obtain ⟨V, hV⟩ : ∃ V, V = x.va.toInt := ⟨_, rfl⟩
          rw [← hV] at hcan l2 H1
          have HCAN := Lib.hid hcan
          have HX := Lib.hid hx
          obtain ⟨Z, hZl, hz⟩ := zeroOut
          have HZ := Lib.hid hZl
          have hbr := below_new wr (.cells Z 62)
          obtain ⟨cs, hcs⟩ : ∃ cs : List Value, cs = [.int .i64 V, .slice ps ns cs'] := ⟨_, rfl⟩
          rw [← hcs] at l2 H1
          have H3 : Hid (cs.length = 2) := Lib.hid (by rw [hcs]; rfl)
          have HCS := Lib.hid hcs
          clear hx hns hcan hZl hV hcs hsv
          go_upto_region 18 with (first
            | (with_reducible refine wpList_load_mid (op := ⟨some 60, _, _, _, _, _⟩) ?_ 62 (.tmp 59) ?_ (b) (off + j * 2) ?_ (cs) _ (l2) Tryd.underlying62 ?_ ?_ ?_
               · rfl
               · rfl
               · rfl
               · rfl
               · exact ((info_Outs H3.out)))
            | (with_reducible refine wp_store_blk (o := ⟨none, _, _, _, _, _⟩) ?_ 62 (.tmp 8) (.tmp 60) ?_ (wr.heap.size) 62 (Z) (cs.toArray) ?_ ?_ (Blk.new wr _ _) ?_ ?_ ?_ (wr.heap.size) (wr) ?_ ?_ ?_
               · rfl
               · rfl
               · rfl
               · rfl
               · exact (by rw [List.size_toArray]; exact info_Outs H3.out)
               · exact (HZ.out.trans (by rw [List.size_toArray]; exact H3.out.symm))
               · exact (H1.out)
               · exact (hbr)
               · exact (Nat.le_refl _)
               intro w6 hB6 hb6 hg6 hs6))
          have HW6 := Lib.hid (below_fut HWj.out hb6 (Nat.le_refl _))
          have d0 := hB6.cell 0
          have d1 := hB6.cell 1
          rw [List.getElem?_toArray, HCS.out] at d0 d1
          simp only [List.getElem?_cons_zero, List.getElem?_cons_succ] at d0 d1
          clear hb6 hg6 hs6 l2 hz hbr HWj
          by_cases hs : V < 0
          · go_wp2_with fail
            go_ret
            exact ⟨by rw [HR.out, canTx_not2 (all_miss canOut t.os j x HX.out (by rw [HCAN.out]; simp [hs]))]; rfl, HW6.out⟩
          by_cases hw : 10000 < ns
          · have hlw : (10000 : Int) < (ns : Int) := by omega
            go_wp2_with fail
            go_ret
            exact ⟨by rw [HR.out, canTx_not2 (all_miss canOut t.os j x HX.out (by rw [HCAN.out]; simp [hw]))]; rfl, HW6.out⟩
          have hlw : ¬ (10000 : Int) < (ns : Int) := by omega
          have hAj := Lib.hid (all_take canOut t.os j x HX.out HAj.out (by rw [HCAN.out]; simp; omega))
          go_wp2_with fail
          go_roundw
          case rel => exact ⟨j + 1, by omega, by go_num, HW6, hAj⟩
          case measure => simp [intOf]; omega
        · obtain rfl : j = m := by omega
          have hall := HAj.out
          rw [List.take_of_length_le (by have := HM.out; omega)] at hall
          have HALL2 := Lib.hid hall
          clear hall
          go_wp2_with fail
          go_ret
          exact ⟨by rw [HR.out]; unfold canTx; rw [HALL.out, HALL2.out, HN.out, HM.out]; simp; omega, HWj.out⟩
end Go.Proofs.YthglocpbdfcfnaaDoor
namespace Go.Proofs.YthglocpbdfcfnaaDoor
open Go Go.RowKit
set_option linter.unusedVariables false

def x0 : TIn := ⟨List.replicate 32 0#8, 0#32, [], 0#32, []⟩
def t0 : TTx := ⟨0#32, [x0], [], 0#32⟩
def ZIn0 : List Value := List.replicate 32 (Value.int .u8 0) ++ [Value.int .u32 0, Value.slice none 0 0, Value.int .u32 0, Value.slice none 0 0]
theorem zIn0_cells : ZIn0 = hCells x0.id ++ [u32 x0.ix, .slice none 0 0, u32 x0.sq, .slice none 0 0] := by rfl
theorem t0_bytes : (txP t0 true).2 = 0 ∧ (txP t0 true).1.length = 51 := by
  constructor <;> decide
theorem built_in0 : Tryd.prog.built 40 [] = some ZIn0.toArray := by kernel_rfl
theorem built_t0 (g : Nat) : Tryd.prog.built 26 [(1, .slice (some ⟨g, 0, none⟩) 1 1)] = some #[.int .u32 0, .slice (some ⟨g, 0, none⟩) 1 1, .slice none 0 0, .int .u32 0] := by kernel_rfl
theorem sl_nil (w : World) : Sl w (.slice none 0 0) [] := ⟨none, 0, 0, rfl, rfl, Nat.le_refl _, by unfold maxLen; omega, Row8.nil _ _, fun _ => rfl⟩
theorem esl_nil {α : Type} (E : World → α → List Value → Prop) (N : Nat) (w : World) : ESl E N w (.slice none 0 0) [] := ⟨none, 0, 0, rfl, rfl, Nat.le_refl _, by unfold maxLen; omega, fun h => absurd rfl h, fun _ => rfl⟩
theorem t0_c (w : World) (g : Nat) (h : Blk w g 40 ZIn0.toArray) : TxC w t0 [.int .u32 0, .slice (some ⟨g, 0, none⟩) 1 1, .slice none 0 0, .int .u32 0] := by
  refine ⟨.slice (some ⟨g, 0, none⟩) 1 1, .slice none 0 0, rfl, ⟨some ⟨g, 0, none⟩, 1, 1, rfl, rfl, Nat.le_refl _, by unfold maxLen; omega, fun _ => ⟨g, 0, rfl, h.lt, fun i x hx => ?_⟩, fun h => by cases h⟩, esl_nil _ _ _⟩
  have hi : i = 0 := by
    have := (List.getElem?_eq_some_iff.1 hx).1
    have hl : t0.is.length = 1 := rfl
    omega
  subst hi
  have hx' : x = x0 := by
    have h0 : t0.is[0]? = some x0 := rfl
    rw [h0] at hx
    injection hx with hx
    exact hx.symm
  subst hx'
  exact ⟨ZIn0, ⟨.slice none 0 0, .slice none 0 0, zIn0_cells, rfl, sl_nil w, esl_nil _ _ _⟩, by have := blk_range h; simpa using this⟩
set_option maxRecDepth 100000 in
set_option maxHeartbeats 8000000 in
theorem awake_any (w : World) : Calls Tryd.prog 9 #[] w fun e w' => e = .returned (.bool true) ∧ Below w.heap.size w w' := by
  have hb0 := built_in0
  have hb1 := built_t0 w.heap.size
  have hcall := txEncode_any t0 _ true _ (t0_c _ _ (Blk.new w 40 ZIn0.toArray))
  have hbn := below_new w (.cells ZIn0.toArray 40)
  obtain ⟨h51a, h51b⟩ := t0_bytes
  obtain ⟨x, hx⟩ : ∃ x, x = txP t0 true := ⟨_, rfl⟩
  rw [← hx] at hcall h51a h51b
  obtain ⟨b, k⟩ := x
  simp only at h51a h51b
  subst h51a
  have HC := Lib.hid hcall
  have HBN := Lib.hid hbn
  have H51 := Lib.hid h51b
  have hsz : ZIn0.length = 36 := rfl
  clear hx hcall hbn h51b
  go_enter Tryd.func9, Tryd.ntmps9
  go_wp2_with (first
    | (with_reducible refine wp_build (o := ⟨some 4, _, _, _, _, _⟩) ?_ 40 #[] ?_ [] ?_ ZIn0.toArray hb0 ?_
       · rfl
       · rfl
       · rfl)
    | (with_reducible refine wp_lit (o := ⟨some 5, _, _, _, _, _⟩) ?_ 23 40 1 #[(0, .tmp 4)] ?_ [.agg ZIn0.toArray] ?_ 36 96 _ Tryd.underlying23 in_info ?_ ?_ ?_ ?_ ?_ ?_
       · rfl
       · rfl
       · rfl
       · omega
       · exact (fun v hv => by rw [List.mem_singleton.1 hv]; exact hsz)
       · rfl
       · omega
       · omega
       simp only [List.flatMap_cons, List.flatMap_nil, List.append_nil, Value.cells])
    | (with_reducible refine wp_build (o := ⟨some 6, _, _, _, _, _⟩) ?_ 26 #[(1, .tmp 5)] ?_ [(1, .slice (some ⟨w.heap.size, 0, none⟩) 1 1)] ?_ #[.int .u32 0, .slice (some ⟨w.heap.size, 0, none⟩) 1 1, .slice none 0 0, .int .u32 0] hb1 ?_
       · rfl
       · rfl
       · rfl)
    | (refine HC.out.mono ?_; rintro e w' ⟨v, rfl, ho, hb⟩; obtain ⟨p, n, c, rfl, hn, hnc, hcm, _⟩ := Own8.open ho; obtain rfl : n = 51 := (hn.out.symm.trans H51.out)))
  have HB := Lib.hid (below_fut HBN.out hb (Nat.le_refl _))
  go_ret
  exact ⟨rfl, HB.out⟩
end Go.Proofs.YthglocpbdfcfnaaDoor
namespace Go.Proofs.YthglocpbdfcfnaaDoor
open Go Go.ChangeShapes Go.WideShapes Go.ChangeAt Go.RowKit
set_option linter.unusedVariables false

theorem open_rowsE {H : Type} {enc : TypeId × Value → H} {W : World} {t e : TypeId} {n : Nat} {α : Type} (E : World → α → List Value → Prop) (hn0 : 0 < n)
    (ht : Tryd.prog.underlying t = some (.slice e)) (hc : Tryd.prog.cellsOf e = n)
    (hel : ∀ (fuel : Nat) (cs : List Value) (x : DataW H × List MemPlace), DataW.trod enc Tryd.prog W 0 (fun _ => true) true fuel e cs = some x → cs.length = n ∧ ∃ y, E W y cs)
    {a0 : Option Addr} {len cap : Nat} {d0 : DataW H} {p : List MemPlace} (h0 : DataW.Trod enc Tryd.prog W 0 (fun _ => true) true t (.slice a0 len cap) d0 p) :
    ∃ ys : List α, ESl E n W (.slice a0 len cap) ys := by
  obtain ⟨css, h1, h2, h3, h4, h5, h6, _⟩ := open_rows (n := n) (fun cs : List Value => cs) (fun cs => cs.length = n ∧ ∃ y, E W y cs) (fun cs h => h.1) hn0 ht hc (fun fuel cs x h => ⟨cs, hel fuel cs x h, rfl⟩) h0
  rw [List.map_id'] at h5
  have key : ∀ (l : List (List Value)), (∀ cs ∈ l, cs.length = n ∧ ∃ y, E W y cs) → ∃ ys : List α, ys.length = l.length ∧ ∀ (i : Nat) (y : α), ys[i]? = some y → ∃ cs, l[i]? = some cs ∧ E W y cs := by
    intro l
    induction l with
    | nil => exact fun _ => ⟨[], rfl, fun i y h => by cases h⟩
    | cons c l ih =>
      intro h
      obtain ⟨y, hy⟩ := (h c (List.mem_cons_self ..)).2
      obtain ⟨ys, g1, g2⟩ := ih fun cs hm => h cs (List.mem_cons_of_mem _ hm)
      refine ⟨y :: ys, by simp [g1], fun i z hz => ?_⟩
      cases i with
      | zero => rw [List.getElem?_cons_zero] at hz; injection hz with hz; subst hz; exact ⟨c, rfl, hy⟩
      | succ i => rw [List.getElem?_cons_succ] at hz; exact g2 i z hz
  obtain ⟨ys, g1, g2⟩ := key css h2
  refine ⟨ys, a0, len, cap, rfl, by omega, h3, h4, fun hn => ?_, h6⟩
  obtain ⟨b, off, rfl, hlt, hc⟩ := h5 (by intro e; rw [e] at g1; exact hn (List.eq_nil_of_length_eq_zero g1))
  refine ⟨b, off, rfl, hlt, fun i x hx => ?_⟩
  obtain ⟨cs, g3, g4⟩ := g2 i x hx
  exact ⟨cs, g4, (hc i cs g3).2⟩
theorem bytes_cell {H : Type} {enc : TypeId × Value → H} {W : World} {fuel : Nat} {cs : List Value} {x : DataW H × List MemPlace} (h : DataW.trod enc Tryd.prog W 0 (fun _ => true) true fuel 38 cs = some x) : ∃ v bs, cs = [v] ∧ Sl W v bs := by
  have hv : ∃ a len cap, cs = [.slice a len cap] := by
    rcases open_ints Tryd.underlying38 Tryd.underlying5 (by kernel_rfl) h with ⟨hcs, _⟩ | ⟨a, len', cap', zs, hcs, _⟩
    · exact ⟨_, _, _, hcs⟩
    · exact ⟨_, _, _, hcs⟩
  obtain ⟨a, len, cap, rfl⟩ := hv
  obtain ⟨bs, q1, q2, q3, q4, q5, _⟩ := open_bytes (enc := enc) (W := W) (d0 := x.1) (p := x.2) Tryd.underlying38 Tryd.underlying5 (by kernel_rfl) ⟨fuel, h⟩
  exact ⟨_, bs, rfl, a, len, cap, rfl, q1, q2, q3, q4, q5⟩
theorem slice_cell {H : Type} {enc : TypeId × Value → H} {W : World} {fuel : Nat} {t e : TypeId} {cs : List Value} {x : DataW H × List MemPlace} (ht : Tryd.prog.underlying t = some (.slice e)) (h : DataW.trod enc Tryd.prog W 0 (fun _ => true) true fuel t cs = some x) : ∃ a len cap, cs = [.slice a len cap] := by
  rcases DataW.trod_slice ht h with ⟨e, _⟩ | ⟨a, len, cap, el, re, m, _, e, _⟩
  · exact ⟨_, _, _, e⟩
  · exact ⟨_, _, _, e⟩
theorem texts_cell {H : Type} {enc : TypeId × Value → H} {W : World} {fuel : Nat} {cs : List Value} {x : DataW H × List MemPlace} (h : DataW.trod enc Tryd.prog W 0 (fun _ => true) true fuel 27 cs = some x) : ∃ v ls, cs = [v] ∧ ESl TextC 1 W v ls := by
  obtain ⟨a, len, cap, rfl⟩ := slice_cell Tryd.underlying27 h
  obtain ⟨ys, hy⟩ := open_rowsE (enc := enc) (W := W) (n := 1) (d0 := x.1) (p := x.2) TextC (by omega) Tryd.underlying27 (by kernel_rfl) (fun fuel cs x h => by
    obtain ⟨v, bs, rfl, hs⟩ := bytes_cell h
    exact ⟨rfl, bs, v, rfl, hs⟩) ⟨fuel, h⟩
  exact ⟨_, ys, rfl, hy⟩
theorem trod_len {H : Type} {enc : TypeId × Value → H} {W : World} {fuel : Nat} {t : TypeId} {fs : Array Field} {cs : List Value} {x : DataW H × List MemPlace} (ht : Tryd.prog.underlying t = some (.struct fs)) (h : DataW.trod enc Tryd.prog W 0 (fun _ => true) true fuel t cs = some x) : cs.length = Tryd.prog.cellsOf t := by
  obtain ⟨_, _, _, _, hl, _⟩ := DataW.trod_struct ht h
  exact hl
theorem point_cells {H : Type} {enc : TypeId × Value → H} {W : World} {fuel : Nat} {cs : List Value} {x : DataW H × List MemPlace} (h : DataW.trod enc Tryd.prog W 0 (fun _ => true) true fuel 37 cs = some x) : ∃ (id : Bs) (ix : BitVec 32), id.length = 32 ∧ cs = hCells id ++ [u32 ix] := by
  have hl : cs.length = 33 := by rw [trod_len Tryd.underlying37 h]; kernel_rfl
  obtain ⟨n0, y0, h0⟩ := trod_fieldH Tryd.underlying37 h 0 _ rfl 32 (by kernel_rfl)
  obtain ⟨n1, y1, h1⟩ := trod_fieldH Tryd.underlying37 h 1 _ rfl 1 (by kernel_rfl)
  obtain ⟨i1, e1, _, w1⟩ := DataW.trod_int Tryd.underlying22 h1
  obtain ⟨p, hp, ep⟩ := trod_bytes Tryd.underlying29 Tryd.underlying5 hashH_cells byteH_cells h0
  obtain ⟨v, rfl⟩ := of32 i1 w1
  refine ⟨p, v, hp, ?_⟩
  have q := parts2 cs 32 1 (by omega)
  have a0 : (cs.drop 0).take 32 = p.map u8 := ep
  have a1 : (cs.drop 32).take 1 = [u32 v] := e1
  rw [a0, a1] at q
  exact q
theorem in_cells {H : Type} {enc : TypeId × Value → H} {W : World} {fuel : Nat} {cs : List Value} {x : DataW H × List MemPlace} (h : DataW.trod enc Tryd.prog W 0 (fun _ => true) true fuel 40 cs = some x) : cs.length = 36 ∧ ∃ y, InC W y cs := by
  have hl : cs.length = 36 := by rw [trod_len Tryd.underlying40 h]; kernel_rfl
  obtain ⟨n0, y0, h0⟩ := trod_fieldH Tryd.underlying40 h 0 _ rfl 33 (by kernel_rfl)
  obtain ⟨n1, y1, h1⟩ := trod_fieldH Tryd.underlying40 h 1 _ rfl 1 (by kernel_rfl)
  obtain ⟨n2, y2, h2⟩ := trod_fieldH Tryd.underlying40 h 2 _ rfl 1 (by kernel_rfl)
  obtain ⟨n3, y3, h3⟩ := trod_fieldH Tryd.underlying40 h 3 _ rfl 1 (by kernel_rfl)
  obtain ⟨id, ix, hid, e0⟩ := point_cells h0
  obtain ⟨sv, bs, e1, hs⟩ := bytes_cell h1
  obtain ⟨i2, e2, _, w2⟩ := DataW.trod_int Tryd.underlying22 h2
  obtain ⟨wv, ls, e3, hw⟩ := texts_cell h3
  obtain ⟨sq, rfl⟩ := of32 i2 w2
  refine ⟨hl, ⟨id, ix, bs, sq, ls⟩, sv, wv, ?_, hid, hs, hw⟩
  have q1 := parts3 cs 33 1 2 (by omega)
  have q2 := parts2 ((cs.drop 34).take 2) 1 1 (by simp; omega)
  have a0 : (cs.drop 0).take 33 = hCells id ++ [u32 ix] := e0
  have a1 : (cs.drop 33).take 1 = [sv] := e1
  have a2 : (((cs.drop 34).take 2).drop 0).take 1 = [u32 sq] := by rw [List.drop_zero, List.take_take]; exact e2
  have a3 : (((cs.drop 34).take 2).drop 1).take 1 = [wv] := by rw [List.drop_take, List.drop_drop, List.take_take]; exact e3
  rw [a2, a3] at q2
  rw [a0, a1, q2] at q1
  rw [q1]
  simp
theorem out_cells {H : Type} {enc : TypeId × Value → H} {W : World} {fuel : Nat} {cs : List Value} {x : DataW H × List MemPlace} (h : DataW.trod enc Tryd.prog W 0 (fun _ => true) true fuel 62 cs = some x) : cs.length = 2 ∧ ∃ y, OutC W y cs := by
  have hl : cs.length = 2 := by rw [trod_len Tryd.underlying62 h]; kernel_rfl
  obtain ⟨n0, y0, h0⟩ := trod_fieldH Tryd.underlying62 h 0 _ rfl 1 (by kernel_rfl)
  obtain ⟨n1, y1, h1⟩ := trod_fieldH Tryd.underlying62 h 1 _ rfl 1 (by kernel_rfl)
  obtain ⟨i0, e0, _, w0⟩ := DataW.trod_int Tryd.underlying2 h0
  obtain ⟨sv, bs, e1, hs⟩ := bytes_cell h1
  have hb : -9223372036854775808 ≤ i0 ∧ i0 ≤ 9223372036854775807 := by simpa [Lit.wf, IntKind.min, IntKind.max, IntKind.signed, IntKind.bits] using w0
  have hi : (BitVec.ofInt 64 i0).toInt = i0 := by rw [BitVec.toInt_ofInt, Int.bmod_eq_of_le (by simp; omega) (by simp; omega)]
  refine ⟨hl, ⟨BitVec.ofInt 64 i0, bs⟩, sv, ?_, hs⟩
  have q := parts2 cs 1 1 (by omega)
  have a0 : (cs.drop 0).take 1 = [.int .i64 i0] := e0
  have a1 : (cs.drop 1).take 1 = [sv] := e1
  rw [a0, a1] at q
  rw [q]
  simp [hi]
theorem tx_cells {H : Type} {enc : TypeId × Value → H} {W : World} {fuel : Nat} {cs : List Value} {x : DataW H × List MemPlace} (h : DataW.trod enc Tryd.prog W 0 (fun _ => true) true fuel 26 cs = some x) : cs.length = 4 ∧ ∃ t, TxC W t cs := by
  have hl : cs.length = 4 := by rw [trod_len Tryd.underlying26 h]; kernel_rfl
  obtain ⟨n0, y0, h0⟩ := trod_fieldH Tryd.underlying26 h 0 _ rfl 1 (by kernel_rfl)
  obtain ⟨n1, y1, h1⟩ := trod_fieldH Tryd.underlying26 h 1 _ rfl 1 (by kernel_rfl)
  obtain ⟨n2, y2, h2⟩ := trod_fieldH Tryd.underlying26 h 2 _ rfl 1 (by kernel_rfl)
  obtain ⟨n3, y3, h3⟩ := trod_fieldH Tryd.underlying26 h 3 _ rfl 1 (by kernel_rfl)
  obtain ⟨i0, e0, _, w0⟩ := DataW.trod_int Tryd.underlying22 h0
  obtain ⟨i3, e3, _, w3⟩ := DataW.trod_int Tryd.underlying22 h3
  obtain ⟨a1, l1, c1, e1⟩ := slice_cell Tryd.underlying23 h1
  obtain ⟨a2, l2, c2, e2⟩ := slice_cell Tryd.underlying24 h2
  obtain ⟨ve, rfl⟩ := of32 i0 w0
  obtain ⟨lo, rfl⟩ := of32 i3 w3
  have e1' : (cs.drop 1).take 1 = [.slice a1 l1 c1] := e1
  have e2' : (cs.drop 2).take 1 = [.slice a2 l2 c2] := e2
  have h1' : DataW.trod enc Tryd.prog W 0 (fun _ => true) true n1 23 ((cs.drop 1).take 1) = some y1 := h1
  have h2' : DataW.trod enc Tryd.prog W 0 (fun _ => true) true n2 24 ((cs.drop 2).take 1) = some y2 := h2
  rw [e1'] at h1'
  rw [e2'] at h2'
  obtain ⟨is, hi⟩ := open_rowsE (enc := enc) (W := W) (d0 := y1.1) (p := y1.2) InC (by omega) Tryd.underlying23 (by kernel_rfl) (fun fuel cs x h => in_cells h) ⟨n1, h1'⟩
  obtain ⟨os, ho⟩ := open_rowsE (enc := enc) (W := W) (d0 := y2.1) (p := y2.2) OutC (by omega) Tryd.underlying24 (by kernel_rfl) (fun fuel cs x h => out_cells h) ⟨n2, h2'⟩
  refine ⟨hl, ⟨ve, is, os, lo⟩, _, _, ?_, hi, ho⟩
  have q1 := parts3 cs 1 1 2 (by omega)
  have q2 := parts2 ((cs.drop 2).take 2) 1 1 (by simp; omega)
  have a0 : (cs.drop 0).take 1 = [u32 ve] := e0
  have b2 : (((cs.drop 2).take 2).drop 0).take 1 = [.slice a2 l2 c2] := by rw [List.drop_zero, List.take_take]; exact e2'
  have b3 : (((cs.drop 2).take 2).drop 1).take 1 = [u32 lo] := by rw [List.drop_take, List.drop_drop, List.take_take]; exact e3
  rw [b2, b3] at q2
  rw [a0, e1', q2] at q1
  rw [q1]
  simp
theorem open_tx {H : Type} {enc : TypeId × Value → H} {W : World} {cs : Array Value} {d0 : DataW H} {p : List MemPlace} (h0 : DataW.Trod enc Tryd.prog W 0 (fun _ => true) true 26 (.agg cs) d0 p) : ∃ t, TxC W t cs.toList := by
  obtain ⟨fuel, hf⟩ := h0
  exact (tx_cells hf).2
end Go.Proofs.YthglocpbdfcfnaaDoor
namespace Go.Proofs.YthglocpbdfcfnaaDoor
open Go Go.RowKit
set_option linter.unusedVariables false

theorem TxC.ok {w : World} {t : TTx} {cs : List Value} (h : TxC w t cs) : okTx t := fun x hx => by
  obtain ⟨iv, ov, _, hi, _⟩ := h
  obtain ⟨cs, hc⟩ := hi.mem hx
  obtain ⟨_, _, _, h1, _⟩ := hc
  exact h1
theorem TxC.one {w : World} {t : TTx} {cs : List Value} (h : TxC w t cs) : cs.toArray.all (·.oneCell') = true := by
  obtain ⟨iv, ov, rfl, hi, ho⟩ := h
  rw [List.all_toArray]
  simp [Value.oneCell']
  exact ⟨hi.one, ho.one⟩
theorem txB_len {t : TTx} (h : canTx t = true) (hk : okTx t) (m : Bool) : 10 ≤ (txB t m).length := by
  obtain ⟨h1, _⟩ := canTx_all h
  obtain ⟨x, l, hl⟩ : ∃ x l, t.is = x :: l := by
    cases hi : t.is with
    | nil => rw [hi] at h1; simp at h1
    | cons x l => exact ⟨x, l, rfl⟩
  have hx : x.id.length = 32 := hk x (by rw [hl]; exact List.mem_cons_self ..)
  have h2 : 32 ≤ (insB t.is).length := by
    unfold insB
    rw [hl, List.length_append, List.map_cons, List.flatten_cons, List.length_append]
    unfold inB
    rw [List.length_append]
    omega
  unfold txB
  rw [List.length_append, List.length_append, List.length_append]
  omega
theorem txB_big {t : TTx} (h : canTx t = true) {w : World} {cs : List Value} (hc : TxC w t cs) (m : Bool) : (txB t m).length ≤ 10000000000 := by
  obtain ⟨iv, ov, _, hi, _⟩ := hc
  have h1 := insB_len h hi
  have h2 := outsB_len h
  obtain ⟨_, hn, _, hall, _⟩ := canTx_all h
  have h3 : (witsB t.is).length ≤ 2002000000 := by
    have h1 := flat_le (fun x => witB x.wi) 1001000 t.is (fun y hy => by
      have hy2 := hall y hy
      have h3 := flat_le text 10009 y.wi (fun b hb => text_le (hy2.2.2 b hb))
      have h4 := cntB_len y.wi.length
      unfold witB
      rw [List.length_append]
      have h5 := Nat.mul_le_mul hy2.2.1 (Nat.le_refl 10009)
      omega)
    have h3 := Nat.mul_le_mul hn (Nat.le_refl 1001000)
    unfold witsB
    omega
  unfold txB
  rw [List.length_append, List.length_append, List.length_append, List.length_append, List.length_append]
  cases m
  · simp [le32_len]; omega
  · simp [le32_len]; omega

theorem rem_small (z : Int) (n : Nat) (h : 0 < n) (hn : n ≤ 9223372036854775807) : ∃ k : Nat, wrap64 ((IntKind.u64.wrap z).tmod (n : Int)) = (k : Int) ∧ k < n := by
  have h0 : 0 ≤ IntKind.u64.wrap z := by
    have e : IntKind.u64.wrap z = z % 18446744073709551616 := by simp [IntKind.wrap, IntKind.bits, IntKind.signed]
    rw [e]
    exact Int.emod_nonneg _ (by omega)
  obtain ⟨u, hu⟩ := Int.eq_ofNat_of_zero_le h0
  rw [hu]
  have e : (u : Int).tmod (n : Int) = ((u % n : Nat) : Int) := rfl
  rw [e]
  have hlt := Nat.mod_lt u h
  refine ⟨u % n, ?_, hlt⟩
  unfold wrap64
  omega
theorem slice_h8k (w : World) (p : Option Addr) (m c k : Nat) (h2 : k ≤ c) :
    (Instr.sliceAt 38 (.slice p m c) none (some (.int .i64 (k : Int))) none).run Tryd.prog w = .ok (.slice p k c) w := by
  have hu : Tryd.prog.underlying 38 = some (.slice (Tryd.prog.elem 38)) := by kernel_rfl
  have hs : (sizeOf (Tryd.prog.elem 38)).run Tryd.prog w = .ok 1 w := by kernel_rfl
  rw [run_sliceAt_slice w _ _ _ _ _ hu, run_slice_h w _ _ _ _ hu _ _ (by omega) (by omega)]
  rw [hs]
  have e : p.map (fun x => x.add 0) = p := by
    cases p with
    | none => rfl
    | some a => rw [Option.map_some, addr_add0]
  simp [Result.andThen, sliced, e]

end Go.Proofs.YthglocpbdfcfnaaDoor
namespace Go.Proofs.YthglocpbdfcfnaaDoor
open Go Go.RowKit
set_option linter.unusedVariables false

theorem pt_same (id : Bs) (h : id.length = 32) (ix : BitVec 32) (w : World) : (Op.equalIn 10000 37 (.agg (hCells id ++ [u32 ix]).toArray) (.agg (hCells id ++ [u32 ix]).toArray)).run Tryd.prog w = .ok true w := by
  have hf : (Value.agg (hCells id ++ [u32 ix]).toArray).formed Tryd.prog 37 = true := by
    obtain ⟨x, rfl⟩ := keyFn id 32 h
    kernel_rfl
  have hl : Tryd.prog.keyLits 4 37 (hCells id ++ [u32 ix]) = some (id.map (fun x => .int .u8 (iv8 x)) ++ [.int .u32 (iv32 ix)]) := by
    have hlen : (hCells id).length = 32 := by simp [hCells, h]
    have e0 : ((hCells id ++ [u32 ix]).drop 0).take 32 = id.map u8 := by rw [List.drop_zero, List.take_left' hlen]; rfl
    have e1 : (hCells id ++ [u32 ix]).drop 32 = [u32 ix] := List.drop_left' hlen
    have hc1 : Tryd.prog.cellsOf 22 = 1 := by kernel_rfl
    have hcl : (hCells id ++ [u32 ix]).length = Tryd.prog.cellsOf 37 := by rw [List.length_append, hlen]; kernel_rfl
    unfold Program.keyLits
    rw [Tryd.underlying37]
    simp only []
    rw [if_pos ⟨hcl, by simp⟩]
    simp only [List.mapM_cons, List.mapM_nil, hc1, hashH_cells, e0, e1, List.take_succ_cons, List.take_zero, lits_u32 2, lits_hash 1 _ h]
    simp
  exact equalIn_same (m := 4) (by omega) (by kernel_rfl) hf hl w
theorem bEqual_any (u v : Value) (x : Bs) (w : World) (h1 : Sl w u x) (h2 : Sl w v x) : Calls Tryd.prog 14 #[u, v] w fun e w' => e = .returned (.bool true) ∧ w' = w := by
  obtain ⟨p, n, c, rfl, hn, _, _, hr, _⟩ := h1
  obtain ⟨q, m, d, rfl, hm, _, _, hs, _⟩ := h2
  exact equal_same p q n c m d x w hr hs hn hm
theorem ESl.lt {α : Type} {E : World → α → List Value → Prop} {N : Nat} {w W : World} {b off n c k : Nat} {xs : List α} (h : ESl E N w (.slice (some ⟨b, off, none⟩) n c) xs) (hb : Below w.heap.size w W) (hk : k < n) : b < W.heap.size := by
  obtain ⟨p', n', c', e, h1, h2, h3, h4, h5⟩ := h
  injection e with e1 e2 e3
  subst e1 e2 e3
  obtain ⟨b', off', e, hlt, _⟩ := h4 (by intro e; rw [e] at h1; simp at h1; omega)
  injection e with e
  injection e with e1 e2
  subst e1
  exact Nat.lt_of_lt_of_le hlt hb.size

set_option maxRecDepth 100000 in
set_option maxHeartbeats 8000000 in
theorem eqTexts_any (gf : Nat) (eg : ∀ args w, (callFunc gf args).run Tryd.prog w = .ok (.enter gf args) w) (u v : Value) (xs : List (Bs)) (w : World) (hu : ESl TextC 1 w u xs) (hv : ESl TextC 1 w v xs)
    (hp : ∀ (W : World) (x : Bs) (cs ds : List Value), Below w.heap.size w W → TextC W x cs → TextC W x ds → Calls Tryd.prog gf #[cs.head!, ds.head!] W fun e w' => e = .returned (.bool true) ∧ Below W.heap.size W w') :
    Calls Tryd.prog 62 #[u, v, .func (.func gf) #[] #[]] w fun e w' => e = .returned (.bool true) ∧ Below w.heap.size w w' := by
  obtain ⟨p, n, c, rfl⟩ := hu.opens
  obtain ⟨q, m, d, rfl⟩ := hv.opens
  have HU := Lib.hid hu
  have HV := Lib.hid hv
  have HP := Lib.hid hp
  obtain ⟨hn, hnc, hcm⟩ := hu.slen
  obtain ⟨hm, hmd, hdm⟩ := hv.slen
  have hnm : n = m := hn.symm.trans hm
  subst hnm
  have HN := Lib.hid hn
  clear hu hv hp hn hm
  go_enter Tryd.func62, Tryd.ntmps62
  go_upto_region 4 with fail
  go_loopw [17] (fun i wr => ∃ k : Nat, k ≤ n ∧ i = .int .i64 k ∧ Hid (Below w.heap.size w wr)) (fun i _ => n - (intOf i).toNat)
  case atStart => exact ⟨0, by omega, rfl, Lib.hid (Below.refl _ _)⟩
  case round =>
    obtain ⟨k, hk, rfl, HWk⟩ := hrel
    by_cases hkn : k < n
    · have hlt : (k : Int) < (n : Int) := by omega
      obtain ⟨b, off, cs, x, rfl, hx, hE, l2⟩ := HU.out.at HWk.out hkn
      obtain ⟨b', off', ds, x', rfl, hx', hE', l3⟩ := HV.out.at HWk.out hkn
      have hxx : x' = x := by rw [hx] at hx'; injection hx' with h; exact h.symm
      subst hxx
      clear hx hx'
      obtain ⟨v1, rfl, hs1⟩ := hE
      obtain ⟨v2, rfl, hs2⟩ := hE'
      have d1 : wr.cell? ⟨b, off + k, none⟩ = some v1 := by
        have := l2 0 _ rfl
        rwa [Nat.mul_one, Nat.add_zero] at this
      have d2 : wr.cell? ⟨b', off' + k, none⟩ = some v2 := by
        have := l3 0 _ rfl
        rwa [Nat.mul_one, Nat.add_zero] at this
      have hcall := HP.out wr _ [v1] [v2] HWk.out ⟨v1, rfl, hs1.below HWk.out (Nat.le_refl _)⟩ ⟨v2, rfl, hs2.below HWk.out (Nat.le_refl _)⟩
      simp only [List.head!] at hcall
      clear l2 l3 hs1 hs2
      go_wp2_with fail
      go_at_fn gf
      refine hcall.mono ?_
      rintro e w8 ⟨rfl, hb8⟩
      have HW8 := Lib.hid (below_fut HWk.out hb8 (Nat.le_refl _))
      go_wp2_with fail
      go_roundw
      case rel => exact ⟨k + 1, by omega, by go_num, HW8⟩
      case measure => simp [intOf]; omega
    · obtain rfl : k = n := by omega
      go_wp2_with fail
      go_ret
      exact ⟨rfl, HWk.out⟩

set_option maxRecDepth 100000 in
theorem sameTexts_any (u v : Value) (xs : List Bs) (w : World) (hu : ESl TextC 1 w u xs) (hv : ESl TextC 1 w v xs) : Calls Tryd.prog 46 #[u, v] w fun e w' => e = .returned (.bool true) ∧ Below w.heap.size w w' := by
  have hc := eqTexts_any 14 (enters_of Tryd.func14 (by kernel_rfl) rfl) u v xs w hu hv fun W x cs ds hb ⟨a, e1, h1⟩ ⟨b, e2, h2⟩ => by
    subst e1 e2
    refine (bEqual_any a b x W h1 h2).mono ?_
    rintro e w' ⟨rfl, hw⟩
    subst hw
    exact ⟨rfl, Below.refl _ _⟩
  clear hu hv
  go_enter Tryd.func46, Tryd.ntmps46
  go_wp2_with fail
  refine hc.mono ?_
  rintro e w' ⟨rfl, hb⟩
  go_wp2_with fail
  go_ret
  exact ⟨rfl, hb⟩
set_option maxRecDepth 100000 in
set_option maxHeartbeats 8000000 in
theorem sameIn_any (x : TIn) (cs ds : List Value) (w : World) (h1 : InC w x cs) (h2 : InC w x ds) : Calls Tryd.prog 45 #[.agg cs.toArray, .agg ds.toArray] w fun e w' => e = .returned (.bool true) ∧ Below w.heap.size w w' := by
  obtain ⟨sv, wv, rfl, hid, hs, hw⟩ := id h1
  obtain ⟨sv', wv', rfl, _, hs', hw'⟩ := id h2
  have H1 := Lib.hid h1
  have H2 := Lib.hid h2
  obtain ⟨c1, hc1⟩ : ∃ c, c = hCells x.id ++ [u32 x.ix, sv, u32 x.sq, wv] := ⟨_, rfl⟩
  obtain ⟨c2, hc2⟩ : ∃ c, c = hCells x.id ++ [u32 x.ix, sv', u32 x.sq, wv'] := ⟨_, rfl⟩
  rw [← hc1, ← hc2]
  have hb1 := below_new w (.cells c1.toArray 40)
  have hb2 := below_new (w.alloc (.cells c1.toArray 40)) (.cells c2.toArray 40)
  have HB1 := Lib.hid ((Blk.new w 40 c1.toArray).fut hb2)
  have HB2 := Lib.hid (Blk.new (w.alloc (.cells c1.toArray 40)) 40 c2.toArray)
  have HW := Lib.hid (below_fut hb1 hb2 (Nat.le_refl _))
  simp only [World.size_alloc] at HB2
  have HC1 := Lib.hid hc1
  have HC2 := Lib.hid hc2
  clear h1 h2 hb1 hb2 hc1 hc2
  go_enter Tryd.func45, Tryd.ntmps45
  go_upto_region 1 with fail
  generalize (w.alloc (.cells c1.toArray 40)).alloc (.cells c2.toArray 40) = w2 at *
  obtain ⟨z3, hz3⟩ : ∃ z, z = w.heap.size + 1 := ⟨_, rfl⟩
  rw [← hz3] at HB2 ⊢
  obtain ⟨z2, hz2⟩ : ∃ z, z = w.heap.size := ⟨_, rfl⟩
  rw [← hz2] at HB1 ⊢
  have hl : (hCells x.id).length = 32 := by simp [hCells, hid]
  have hc1 := HC1.out
  have hc2 := HC2.out
  have at1 : ∀ j, c1[32 + j]? = [u32 x.ix, sv, u32 x.sq, wv][j]? := fun j => by rw [hc1, List.getElem?_append_right (by omega), hl, Nat.add_sub_cancel_left]
  have at2 : ∀ j, c2[32 + j]? = [u32 x.ix, sv', u32 x.sq, wv'][j]? := fun j => by rw [hc2, List.getElem?_append_right (by omega), hl, Nat.add_sub_cancel_left]
  have a33 := HB1.out.cell 33
  have a34 := HB1.out.cell 34
  have a35 := HB1.out.cell 35
  have b33 := HB2.out.cell 33
  have b34 := HB2.out.cell 34
  have b35 := HB2.out.cell 35
  rw [List.getElem?_toArray, at1 1] at a33
  rw [List.getElem?_toArray, at1 2] at a34
  rw [List.getElem?_toArray, at1 3] at a35
  rw [List.getElem?_toArray, at2 1] at b33
  rw [List.getElem?_toArray, at2 2] at b34
  rw [List.getElem?_toArray, at2 3] at b35
  simp only [List.getElem?_cons_zero, List.getElem?_cons_succ] at a33 a34 a35 b33 b34 b35
  have r1 : w2.rangeAt z2 0 (hCells x.id ++ [u32 x.ix]) := fun j v hj => by
    rw [Nat.zero_add, HB1.out.cell, List.getElem?_toArray, hc1, show hCells x.id ++ [u32 x.ix, sv, u32 x.sq, wv] = (hCells x.id ++ [u32 x.ix]) ++ [sv, u32 x.sq, wv] by simp, List.getElem?_append_left (List.getElem?_eq_some_iff.1 hj).1]
    exact hj
  have r2 : w2.rangeAt z3 0 (hCells x.id ++ [u32 x.ix]) := fun j v hj => by
    rw [Nat.zero_add, HB2.out.cell, List.getElem?_toArray, hc2, show hCells x.id ++ [u32 x.ix, sv', u32 x.sq, wv'] = (hCells x.id ++ [u32 x.ix]) ++ [sv', u32 x.sq, wv'] by simp, List.getElem?_append_left (List.getElem?_eq_some_iff.1 hj).1]
    exact hj
  have hpi : (Tryd.prog.info? 37).map (·.size) = some (hCells x.id ++ [u32 x.ix]).length := by rw [List.length_append, hl]; kernel_rfl
  have hsame := pt_same x.id hid x.ix
  have heq := bEqual_any sv sv' x.sc w2 (hs.below HW.out (Nat.le_refl _)) (hs'.below HW.out (Nat.le_refl _))
  have htx := sameTexts_any wv wv' x.wi w2 (hw.fut textC_keeps HW.out) (hw'.fut textC_keeps HW.out)
  obtain ⟨P, hP⟩ : ∃ P, P = hCells x.id ++ [u32 x.ix] := ⟨_, rfl⟩
  rw [← hP] at r1 r2 hpi hsame
  obtain ⟨sq, hsq⟩ : ∃ s, s = iv32 x.sq := ⟨_, rfl⟩
  have a34' : w2.cell? ⟨z2, 34, none⟩ = some (.int .u32 sq) := by rw [a34, hsq]
  have b34' : w2.cell? ⟨z3, 34, none⟩ = some (.int .u32 sq) := by rw [b34, hsq]
  clear a34 b34 hP hsq at1 at2 hc1 hc2 HC1 HC2 hl hz2 hz3 HB1 HB2 H1 H2 hs hs' hw hw'
  go_wp2_with (first
    | (with_reducible refine wpList_load_mid (op := ⟨some 6, _, _, _, _, _⟩) ?_ 37 (.tmp 5) ?_ (z2) (0) ?_ (P) _ (r1) Tryd.underlying37 ?_ ?_ ?_
       · rfl
       · rfl
       · rfl
       · rfl
       · exact (hpi))
    | (with_reducible refine wpList_load_mid (op := ⟨some 8, _, _, _, _, _⟩) ?_ 37 (.tmp 7) ?_ (z3) (0) ?_ (P) _ (r2) Tryd.underlying37 ?_ ?_ ?_
       · rfl
       · rfl
       · rfl
       · rfl
       · exact (hpi)))
  refine heq.mono ?_
  rintro e w3 ⟨rfl, hw3⟩
  replace hw3 := hw3.symm
  subst hw3
  go_wp2_with fail
  refine htx.mono ?_
  rintro e w4 ⟨rfl, hb4⟩
  go_wp2_with fail
  go_ret
  exact ⟨rfl, below_fut HW.out hb4 (Nat.le_refl _)⟩
set_option maxRecDepth 100000 in
set_option maxHeartbeats 8000000 in
theorem sameOut_any (x : TOut) (cs ds : List Value) (w : World) (h1 : OutC w x cs) (h2 : OutC w x ds) : Calls Tryd.prog 49 #[.agg cs.toArray, .agg ds.toArray] w fun e w' => e = .returned (.bool true) ∧ Below w.heap.size w w' := by
  obtain ⟨sv, rfl, hs⟩ := h1
  obtain ⟨sv', rfl, hs'⟩ := h2
  obtain ⟨V, hV⟩ : ∃ V, V = x.va.toInt := ⟨_, rfl⟩
  rw [← hV]
  have hb1 := below_new w (.cells #[.int .i64 V, sv] 62)
  have hb2 := below_new (w.alloc (.cells #[.int .i64 V, sv] 62)) (.cells #[.int .i64 V, sv'] 62)
  have HB1 := Lib.hid ((Blk.new w 62 #[.int .i64 V, sv]).fut hb2)
  have HB2 := Lib.hid (Blk.new (w.alloc (.cells #[.int .i64 V, sv] 62)) 62 #[.int .i64 V, sv'])
  have HW := Lib.hid (below_fut hb1 hb2 (Nat.le_refl _))
  simp only [World.size_alloc] at HB2
  clear hb1 hb2 hV
  go_enter Tryd.func49, Tryd.ntmps49
  go_upto_region 1 with fail
  generalize (w.alloc (.cells #[.int .i64 V, sv] 62)).alloc (.cells #[.int .i64 V, sv'] 62) = w2 at *
  obtain ⟨z3, hz3⟩ : ∃ z, z = w.heap.size + 1 := ⟨_, rfl⟩
  rw [← hz3] at HB2 ⊢
  obtain ⟨z2, hz2⟩ : ∃ z, z = w.heap.size := ⟨_, rfl⟩
  rw [← hz2] at HB1 ⊢
  have a0 := HB1.out.cell 0
  have a1 := HB1.out.cell 1
  have b0 := HB2.out.cell 0
  have b1 := HB2.out.cell 1
  simp at a0 a1 b0 b1
  have heq := bEqual_any sv sv' x.sc w2 (hs.below HW.out (Nat.le_refl _)) (hs'.below HW.out (Nat.le_refl _))
  clear hs hs' hz2 hz3 HB1 HB2
  go_wp2_with fail
  refine heq.mono ?_
  rintro e w3 ⟨rfl, hw3⟩
  replace hw3 := hw3.symm
  subst hw3
  go_wp2_with fail
  go_ret
  exact ⟨rfl, HW.out⟩

set_option maxRecDepth 100000 in
set_option maxHeartbeats 8000000 in
theorem eqIns_any (gf : Nat) (eg : ∀ args w, (callFunc gf args).run Tryd.prog w = .ok (.enter gf args) w) (u v : Value) (xs : List (TIn)) (w : World) (hu : ESl InC 36 w u xs) (hv : ESl InC 36 w v xs)
    (hp : ∀ (W : World) (x : TIn) (cs ds : List Value), Below w.heap.size w W → InC W x cs → InC W x ds → Calls Tryd.prog gf #[.agg cs.toArray, .agg ds.toArray] W fun e w' => e = .returned (.bool true) ∧ Below W.heap.size W w') :
    Calls Tryd.prog 47 #[u, v, .func (.func gf) #[] #[]] w fun e w' => e = .returned (.bool true) ∧ Below w.heap.size w w' := by
  obtain ⟨p, n, c, rfl⟩ := hu.opens
  obtain ⟨q, m, d, rfl⟩ := hv.opens
  have HU := Lib.hid hu
  have HV := Lib.hid hv
  have HP := Lib.hid hp
  obtain ⟨hn, hnc, hcm⟩ := hu.slen
  obtain ⟨hm, hmd, hdm⟩ := hv.slen
  have hnm : n = m := hn.symm.trans hm
  subst hnm
  have HN := Lib.hid hn
  clear hu hv hp hn hm
  go_enter Tryd.func47, Tryd.ntmps47
  go_upto_region 4 with fail
  go_loopw [17] (fun i wr => ∃ k : Nat, k ≤ n ∧ i = .int .i64 k ∧ Hid (Below w.heap.size w wr)) (fun i _ => n - (intOf i).toNat)
  case atStart => exact ⟨0, by omega, rfl, Lib.hid (Below.refl _ _)⟩
  case round =>
    obtain ⟨k, hk, rfl, HWk⟩ := hrel
    by_cases hkn : k < n
    · have hlt : (k : Int) < (n : Int) := by omega
      obtain ⟨b, off, cs, x, rfl, hx, hE, l2⟩ := HU.out.at HWk.out hkn
      obtain ⟨b', off', ds, x', rfl, hx', hE', l3⟩ := HV.out.at HWk.out hkn
      have hxx : x' = x := by rw [hx] at hx'; injection hx' with h; exact h.symm
      subst hxx
      clear hx hx'
      have H3 := Lib.hid hE.len
      have H1 := Lib.hid hE.one
      have H3' := Lib.hid hE'.len
      have H1' := Lib.hid hE'.one
      have HE := Lib.hid hE
      have HE' := Lib.hid hE'
      obtain ⟨Z, hZl, hz⟩ := zeroIn
      have HZ := Lib.hid hZl
      have hbr := below_new wr (.cells Z 40)
      clear hE hE' hZl
      go_upto_region 6 with (first
        | (with_reducible refine wpList_load_mid (op := ⟨some 21, _, _, _, _, _⟩) ?_ 40 (.tmp 20) ?_ (b) (off + k * 36) ?_ (cs) _ (l2) Tryd.underlying40 ?_ ?_ ?_
           · rfl
           · rfl
           · rfl
           · rfl
           · exact ((info_Ins H3.out)))
        | (with_reducible refine wp_store_blk (o := ⟨none, _, _, _, _, _⟩) ?_ 40 (.tmp 8) (.tmp 21) ?_ (wr.heap.size) 40 (Z) (cs.toArray) ?_ ?_ (Blk.new wr _ _) ?_ ?_ ?_ (wr.heap.size) (wr) ?_ ?_ ?_
           · rfl
           · rfl
           · rfl
           · rfl
           · exact (by rw [List.size_toArray]; exact info_Ins H3.out)
           · exact (HZ.out.trans (by rw [List.size_toArray]; exact H3.out.symm))
           · exact (H1.out)
           · exact (hbr)
           · exact (Nat.le_refl _)
           intro w6 hB6 hb6 hg6 hs6))
      simp only [put_none]
      have l3' : w6.rangeAt b' (off' + k * 36) ds := range_fut l3 hb6 (HV.out.lt HWk.out hkn)
      have HW6 := Lib.hid (below_fut HWk.out hb6 (Nat.le_refl _))
      have HB6 := Lib.hid hB6.out
      have hbr' := below_new w6 (.cells Z 40)
      have hzz : wr.heap.size < w6.heap.size := hB6.out.lt
      clear hb6 hg6 hs6 l2 l3 hbr hB6
      generalize wr.heap.size = z8 at *
      go_upto_region 7 with (first
        | (with_reducible refine wpList_load_mid (op := ⟨some 25, _, _, _, _, _⟩) ?_ 40 (.tmp 24) ?_ (b') (off' + k * 36) ?_ (ds) _ (l3') Tryd.underlying40 ?_ ?_ ?_
           · rfl
           · rfl
           · rfl
           · rfl
           · exact ((info_Ins H3'.out)))
        | (with_reducible refine wp_store_blk (o := ⟨none, _, _, _, _, _⟩) ?_ 40 (.tmp 9) (.tmp 25) ?_ (w6.heap.size) 40 (Z) (ds.toArray) ?_ ?_ (Blk.new w6 _ _) ?_ ?_ ?_ (w6.heap.size) (w6) ?_ ?_ ?_
           · rfl
           · rfl
           · rfl
           · rfl
           · exact (by rw [List.size_toArray]; exact info_Ins H3'.out)
           · exact (HZ.out.trans (by rw [List.size_toArray]; exact H3'.out.symm))
           · exact (H1'.out)
           · exact (hbr')
           · exact (Nat.le_refl _)
           intro w7 hB7 hb7 hg7 hs7))
      have HW7 := Lib.hid (below_fut HW6.out hb7 (Nat.le_refl _))
      have l6 := blk_range (HB6.out.fut hb7)
      have l7 := blk_range hB7.out
      have hcall := HP.out w7 _ cs ds HW7.out (inC_keeps _ _ _ _ HE.out HW7.out) (inC_keeps _ _ _ _ HE'.out HW7.out)
      clear hb7 hg7 hs7 l3' hbr' hz hB7
      go_wp2_with (first
        | (with_reducible refine wpList_load_mid (op := ⟨some 27, _, _, _, _, _⟩) ?_ 40 (.tmp 8) ?_ (z8) (0) ?_ (cs) _ (l6) Tryd.underlying40 ?_ ?_ ?_
           · rfl
           · rfl
           · rfl
           · rfl
           · exact ((info_Ins H3.out)))
        | (with_reducible refine wpList_load_mid (op := ⟨some 28, _, _, _, _, _⟩) ?_ 40 (.tmp 9) ?_ (w6.heap.size) (0) ?_ (ds) _ (l7) Tryd.underlying40 ?_ ?_ ?_
           · rfl
           · rfl
           · rfl
           · rfl
           · exact ((info_Ins H3'.out))))
      go_at_fn gf
      refine hcall.mono ?_
      rintro e w8 ⟨rfl, hb8⟩
      have HW8 := Lib.hid (below_fut HW7.out hb8 (Nat.le_refl _))
      go_wp2_with fail
      go_roundw
      case rel => exact ⟨k + 1, by omega, by go_num, HW8⟩
      case measure => simp [intOf]; omega
    · obtain rfl : k = n := by omega
      go_wp2_with fail
      go_ret
      exact ⟨rfl, HWk.out⟩


set_option maxRecDepth 100000 in
set_option maxHeartbeats 8000000 in
theorem eqOuts_any (gf : Nat) (eg : ∀ args w, (callFunc gf args).run Tryd.prog w = .ok (.enter gf args) w) (u v : Value) (xs : List (TOut)) (w : World) (hu : ESl OutC 2 w u xs) (hv : ESl OutC 2 w v xs)
    (hp : ∀ (W : World) (x : TOut) (cs ds : List Value), Below w.heap.size w W → OutC W x cs → OutC W x ds → Calls Tryd.prog gf #[.agg cs.toArray, .agg ds.toArray] W fun e w' => e = .returned (.bool true) ∧ Below W.heap.size W w') :
    Calls Tryd.prog 48 #[u, v, .func (.func gf) #[] #[]] w fun e w' => e = .returned (.bool true) ∧ Below w.heap.size w w' := by
  obtain ⟨p, n, c, rfl⟩ := hu.opens
  obtain ⟨q, m, d, rfl⟩ := hv.opens
  have HU := Lib.hid hu
  have HV := Lib.hid hv
  have HP := Lib.hid hp
  obtain ⟨hn, hnc, hcm⟩ := hu.slen
  obtain ⟨hm, hmd, hdm⟩ := hv.slen
  have hnm : n = m := hn.symm.trans hm
  subst hnm
  have HN := Lib.hid hn
  clear hu hv hp hn hm
  go_enter Tryd.func48, Tryd.ntmps48
  go_upto_region 4 with fail
  go_loopw [17] (fun i wr => ∃ k : Nat, k ≤ n ∧ i = .int .i64 k ∧ Hid (Below w.heap.size w wr)) (fun i _ => n - (intOf i).toNat)
  case atStart => exact ⟨0, by omega, rfl, Lib.hid (Below.refl _ _)⟩
  case round =>
    obtain ⟨k, hk, rfl, HWk⟩ := hrel
    by_cases hkn : k < n
    · have hlt : (k : Int) < (n : Int) := by omega
      obtain ⟨b, off, cs, x, rfl, hx, hE, l2⟩ := HU.out.at HWk.out hkn
      obtain ⟨b', off', ds, x', rfl, hx', hE', l3⟩ := HV.out.at HWk.out hkn
      have hxx : x' = x := by rw [hx] at hx'; injection hx' with h; exact h.symm
      subst hxx
      clear hx hx'
      have H3 := Lib.hid hE.len
      have H1 := Lib.hid hE.one
      have H3' := Lib.hid hE'.len
      have H1' := Lib.hid hE'.one
      have HE := Lib.hid hE
      have HE' := Lib.hid hE'
      obtain ⟨Z, hZl, hz⟩ := zeroOut
      have HZ := Lib.hid hZl
      have hbr := below_new wr (.cells Z 62)
      clear hE hE' hZl
      go_upto_region 6 with (first
        | (with_reducible refine wpList_load_mid (op := ⟨some 21, _, _, _, _, _⟩) ?_ 62 (.tmp 20) ?_ (b) (off + k * 2) ?_ (cs) _ (l2) Tryd.underlying62 ?_ ?_ ?_
           · rfl
           · rfl
           · rfl
           · rfl
           · exact ((info_Outs H3.out)))
        | (with_reducible refine wp_store_blk (o := ⟨none, _, _, _, _, _⟩) ?_ 62 (.tmp 8) (.tmp 21) ?_ (wr.heap.size) 62 (Z) (cs.toArray) ?_ ?_ (Blk.new wr _ _) ?_ ?_ ?_ (wr.heap.size) (wr) ?_ ?_ ?_
           · rfl
           · rfl
           · rfl
           · rfl
           · exact (by rw [List.size_toArray]; exact info_Outs H3.out)
           · exact (HZ.out.trans (by rw [List.size_toArray]; exact H3.out.symm))
           · exact (H1.out)
           · exact (hbr)
           · exact (Nat.le_refl _)
           intro w6 hB6 hb6 hg6 hs6))
      simp only [put_none]
      have l3' : w6.rangeAt b' (off' + k * 2) ds := range_fut l3 hb6 (HV.out.lt HWk.out hkn)
      have HW6 := Lib.hid (below_fut HWk.out hb6 (Nat.le_refl _))
      have HB6 := Lib.hid hB6.out
      have hbr' := below_new w6 (.cells Z 62)
      have hzz : wr.heap.size < w6.heap.size := hB6.out.lt
      clear hb6 hg6 hs6 l2 l3 hbr hB6
      generalize wr.heap.size = z8 at *
      go_upto_region 7 with (first
        | (with_reducible refine wpList_load_mid (op := ⟨some 25, _, _, _, _, _⟩) ?_ 62 (.tmp 24) ?_ (b') (off' + k * 2) ?_ (ds) _ (l3') Tryd.underlying62 ?_ ?_ ?_
           · rfl
           · rfl
           · rfl
           · rfl
           · exact ((info_Outs H3'.out)))
        | (with_reducible refine wp_store_blk (o := ⟨none, _, _, _, _, _⟩) ?_ 62 (.tmp 9) (.tmp 25) ?_ (w6.heap.size) 62 (Z) (ds.toArray) ?_ ?_ (Blk.new w6 _ _) ?_ ?_ ?_ (w6.heap.size) (w6) ?_ ?_ ?_
           · rfl
           · rfl
           · rfl
           · rfl
           · exact (by rw [List.size_toArray]; exact info_Outs H3'.out)
           · exact (HZ.out.trans (by rw [List.size_toArray]; exact H3'.out.symm))
           · exact (H1'.out)
           · exact (hbr')
           · exact (Nat.le_refl _)
           intro w7 hB7 hb7 hg7 hs7))
      have HW7 := Lib.hid (below_fut HW6.out hb7 (Nat.le_refl _))
      have l6 := blk_range (HB6.out.fut hb7)
      have l7 := blk_range hB7.out
      have hcall := HP.out w7 _ cs ds HW7.out (outC_keeps _ _ _ _ HE.out HW7.out) (outC_keeps _ _ _ _ HE'.out HW7.out)
      clear hb7 hg7 hs7 l3' hbr' hz hB7
      go_wp2_with (first
        | (with_reducible refine wpList_load_mid (op := ⟨some 27, _, _, _, _, _⟩) ?_ 62 (.tmp 8) ?_ (z8) (0) ?_ (cs) _ (l6) Tryd.underlying62 ?_ ?_ ?_
           · rfl
           · rfl
           · rfl
           · rfl
           · exact ((info_Outs H3.out)))
        | (with_reducible refine wpList_load_mid (op := ⟨some 28, _, _, _, _, _⟩) ?_ 62 (.tmp 9) ?_ (w6.heap.size) (0) ?_ (ds) _ (l7) Tryd.underlying62 ?_ ?_ ?_
           · rfl
           · rfl
           · rfl
           · rfl
           · exact ((info_Outs H3'.out))))
      go_at_fn gf
      refine hcall.mono ?_
      rintro e w8 ⟨rfl, hb8⟩
      have HW8 := Lib.hid (below_fut HW7.out hb8 (Nat.le_refl _))
      go_wp2_with fail
      go_roundw
      case rel => exact ⟨k + 1, by omega, by go_num, HW8⟩
      case measure => simp [intOf]; omega
    · obtain rfl : k = n := by omega
      go_wp2_with fail
      go_ret
      exact ⟨rfl, HWk.out⟩

set_option maxRecDepth 100000 in
set_option maxHeartbeats 8000000 in
theorem sameTx_any (t : TTx) (cs ds : List Value) (w : World) (h1 : TxC w t cs) (h2 : TxC w t ds) : Calls Tryd.prog 16 #[.agg cs.toArray, .agg ds.toArray] w fun e w' => e = .returned (.bool true) ∧ Below w.heap.size w w' := by
  obtain ⟨iv, ov, rfl, hi, ho⟩ := h1
  obtain ⟨iv', ov', rfl, hi', ho'⟩ := h2
  obtain ⟨ve, hve⟩ : ∃ x, x = iv32 t.ve := ⟨_, rfl⟩
  obtain ⟨lo, hlo⟩ : ∃ x, x = iv32 t.lo := ⟨_, rfl⟩
  have e1 : u32 t.ve = .int .u32 ve := by rw [hve]
  have e2 : u32 t.lo = .int .u32 lo := by rw [hlo]
  rw [e1, e2]
  have hb1 := below_new w (.cells #[.int .u32 ve, iv, ov, .int .u32 lo] 26)
  have hb2 := below_new (w.alloc (.cells #[.int .u32 ve, iv, ov, .int .u32 lo] 26)) (.cells #[.int .u32 ve, iv', ov', .int .u32 lo] 26)
  have HB1 := Lib.hid ((Blk.new w 26 #[.int .u32 ve, iv, ov, .int .u32 lo]).fut hb2)
  have HB2 := Lib.hid (Blk.new (w.alloc (.cells #[.int .u32 ve, iv, ov, .int .u32 lo] 26)) 26 #[.int .u32 ve, iv', ov', .int .u32 lo])
  have HW := Lib.hid (below_fut hb1 hb2 (Nat.le_refl _))
  have HO := Lib.hid (ho.fut outC_keeps HW.out)
  have HO' := Lib.hid (ho'.fut outC_keeps HW.out)
  have hIs := eqIns_any 45 (enters_of Tryd.func45 (by kernel_rfl) rfl) iv iv' t.is _ (hi.fut inC_keeps HW.out) (hi'.fut inC_keeps HW.out) (fun W x cs ds _ ha hb => sameIn_any x cs ds W ha hb)
  simp only [World.size_alloc] at HB2
  clear hb1 hb2 hve hlo e1 e2 hi hi' ho ho'
  go_enter Tryd.func16, Tryd.ntmps16
  go_upto_region 1 with fail
  generalize (w.alloc (.cells #[.int .u32 ve, iv, ov, .int .u32 lo] 26)).alloc (.cells #[.int .u32 ve, iv', ov', .int .u32 lo] 26) = w2 at *
  obtain ⟨z3, hz3⟩ : ∃ z, z = w.heap.size + 1 := ⟨_, rfl⟩
  rw [← hz3] at HB2 ⊢
  obtain ⟨z2, hz2⟩ : ∃ z, z = w.heap.size := ⟨_, rfl⟩
  rw [← hz2] at HB1 ⊢
  have a0 := HB1.out.cell 0
  have a1 := HB1.out.cell 1
  have a3 := HB1.out.cell 3
  have b0 := HB2.out.cell 0
  have b1 := HB2.out.cell 1
  have b3 := HB2.out.cell 3
  simp at a0 a1 a3 b0 b1 b3
  clear hz2 hz3
  go_wp2_with fail
  refine hIs.mono ?_
  rintro e w3 ⟨rfl, hb3⟩
  have g2 := (HB1.out.fut hb3).cell 2
  have h2 := (HB2.out.fut hb3).cell 2
  simp at g2 h2
  have hOs := eqOuts_any 49 (enters_of Tryd.func49 (by kernel_rfl) rfl) ov ov' t.os w3 (HO.out.fut outC_keeps hb3) (HO'.out.fut outC_keeps hb3) (fun W x cs ds _ ha hb => sameOut_any x cs ds W ha hb)
  clear a0 a1 a3 b0 b1 b3
  go_wp2_with fail
  refine hOs.mono ?_
  rintro e w4 ⟨rfl, hb4⟩
  go_wp2_with fail
  go_ret
  exact ⟨rfl, below_fut (below_fut HW.out hb3 (Nat.le_refl _)) hb4 (Nat.le_refl _)⟩
end Go.Proofs.YthglocpbdfcfnaaDoor
namespace Go.Proofs.YthglocpbdfcfnaaDoor
open Go Go.RowKit
set_option linter.unusedVariables false

/-- a reader's step: without an error as the parser says; with one it stays -/
def Step {α : Type} (p : Pz α) (er : Int) (s : Bs) (a : α) (er' : Int) (r : Bs) : Prop :=
  if er = 0 then (match p s with
    | .ok (a', r') => er' = 0 ∧ a = a' ∧ r = r'
    | .error k => er' = k ∧ k ≠ 0) else er' = er
theorem Step.ret {α : Type} (a : α) (er : Int) (s : Bs) : Step (Pz.ret a) er s a er s := by
  unfold Step
  split
  · rename_i h; exact ⟨h, rfl, rfl⟩
  · rfl
theorem Step.bind {α β : Type} {p : Pz α} {f : α → Pz β} {er er1 er2 : Int} {s s1 s2 : Bs} {a : α} {b : β} (h : Step p er s a er1 s1) (h2 : Step (f a) er1 s1 b er2 s2) : Step (p.bind f) er s b er2 s2 := by
  unfold Step at h h2 ⊢
  by_cases he : er = 0
  · rw [if_pos he] at h ⊢
    cases hp : p s with
    | error k =>
      rw [hp] at h
      simp only at h
      rw [if_neg (by rw [h.1]; exact h.2)] at h2
      rw [Pz.bind_err hp]
      exact ⟨h2.trans h.1, h.2⟩
    | ok x =>
      obtain ⟨a', r'⟩ := x
      rw [hp] at h
      simp only at h
      obtain ⟨h3, rfl, rfl⟩ := h
      rw [if_pos h3] at h2
      rw [Pz.bind_ok hp]
      exact h2
  · rw [if_neg he] at h ⊢
    rw [if_neg (by rw [h]; exact he)] at h2
    rw [h2, h]
theorem Step.ok {α : Type} {p : Pz α} {s r : Bs} {a : α} (h : p s = .ok (a, r)) : Step p 0 s a 0 r := by unfold Step; rw [if_pos rfl, h]; exact ⟨rfl, rfl, rfl⟩
theorem Step.err {α : Type} {p : Pz α} {s r : Bs} {a : α} {k : Int} (h : p s = .error k) (hk : k ≠ 0) : Step p 0 s a k r := by unfold Step; rw [if_pos rfl, h]; exact ⟨rfl, hk⟩
theorem Step.bad {α : Type} {p : Pz α} {s r : Bs} {a : α} {er : Int} (h : er ≠ 0) : Step p er s a er r := by unfold Step; rw [if_neg h]

theorem zs_eq (j : Nat) : ((List.replicate j 0#8).map u8).toArray = Array.replicate j (u8 0#8) := by simp
theorem make8z (w : World) (j : Nat) (h : j ≤ 140737488355328) : (Instr.makeSlice 38 (.int .i64 (j : Int)) (.int .i64 (j : Int))).run Tryd.prog w = .ok (.slice (some ⟨w.heap.size, 0, none⟩) j j) (w.alloc (.cells (Array.replicate j (u8 0#8)) 5)) := by
  obtain ⟨i0, hi, hz0, hz1, hz2⟩ := info_parts u8info
  have hr := run_make (P := Tryd.prog) w 38 5 i0 (.int .u8 0) Tryd.underlying38 hi hz0 .i64 .i64 (j : Int) (j : Int) (by omega) (Int.le_refl _) (by rw [hz2]; omega) (by omega)
  rw [hr, Int.toNat_natCast, hz1, Nat.mul_one]
  have e : madeCells (Value.int IntKind.u8 0).cells j = Array.replicate j (u8 0#8) := by
    unfold madeCells
    refine Array.ext (by simp) fun i h1 h2 => ?_
    simp [Value.cells, u8, iv8, Nat.mod_one]
  rw [e]
theorem own_z (w : World) (B j : Nat) (hB : B ≤ w.heap.size) (hj : j ≤ 140737488355328) : Own8 (w.alloc (.cells (Array.replicate j (u8 0#8)) 5)) B (.slice (some ⟨w.heap.size, 0, none⟩) j j) (List.replicate j 0#8) := by
  rw [← zs_eq]
  refine ⟨by simp, .inr ⟨w.heap.size, j, _, by simp, hB, Blk.new w _ _, by simp, by unfold maxLen; omega, by simp, ?_⟩⟩
  simp
theorem slice_h8q (w : World) (p : Option Addr) (m c k : Nat) (h2 : k ≤ c) :
    (Instr.sliceAt 38 (.slice p m c) none (some (.int .i64 (k : Int))) none).run Tryd.prog w = .ok (.slice p k c) w := by
  have hu : Tryd.prog.underlying 38 = some (.slice (Tryd.prog.elem 38)) := by kernel_rfl
  have hs : (sizeOf (Tryd.prog.elem 38)).run Tryd.prog w = .ok 1 w := by kernel_rfl
  rw [run_sliceAt_slice w _ _ _ _ _ hu, run_slice_h w _ _ _ _ hu _ _ (by omega) (by omega)]
  rw [hs]
  have e : p.map (fun x => x.add 0) = p := by
    cases p with
    | none => rfl
    | some a => rw [Option.map_some, addr_add0]
  simp [Result.andThen, sliced, e]
theorem Dat.takec {B g : Nat} {w : World} {p : Option Addr} {n c k : Nat} {s : Bs} (h : Dat B g w (.slice p n c) s) (hk : k ≤ n) : Dat B g w (.slice p k c) (s.take k) := by
  obtain ⟨⟨p', n', c', e, h1, h2, h3, h4, h5⟩, h6⟩ := h
  injection e with e1 e2 e3
  subst e1 e2 e3
  exact ⟨⟨p, k, c, rfl, by rw [List.length_take]; omega, by omega, h3, h4.take k, h5⟩, fun h0 j hj => h6 (fun e => h0 (by rw [e, List.take_nil])) j (by rw [own_slice] at hj ⊢; exact hj)⟩
theorem cell2 {w : World} {g : Nat} {t : TypeId} {a b : Value} (h : Blk w g t #[a, b]) : w.cell? ⟨g, 0, none⟩ = some a ∧ w.cell? ⟨g, 1, none⟩ = some b ∧ w.frozen? ⟨g, 0, none⟩ = false ∧ w.frozen? ⟨g, 1, none⟩ = false := by
  refine ⟨?_, ?_, h.frozen 0, h.frozen 1⟩
  · have := h.cell 0; simpa using this
  · have := h.cell 1; simpa using this

end Go.Proofs.YthglocpbdfcfnaaDoor
namespace Go.Proofs.YthglocpbdfcfnaaDoor
open Go Go.RowKit
set_option linter.unusedVariables false

theorem wrapi64 (v : BitVec 64) : wrap64 (iv64 v) = v.toInt := by
  have h := v.isLt
  have e : iv64 v = (v.toNat : Int) := rfl
  rw [e, BitVec.toInt_eq_toNat_cond]
  unfold wrap64
  split <;> omega
def ZInL : List Value := List.replicate 32 (Value.int .u8 0) ++ [Value.int .u32 0, Value.slice none 0 0, Value.int .u32 0, Value.slice none 0 0]
theorem splice_in (id : Bs) (h : id.length = 32) : splice ZInL 0 ((id.take 32).map u8) = inCells id 0#32 (.slice none 0 0) (.int .u32 0) (.slice none 0 0) := by
  rw [List.take_of_length_le (by omega)]
  unfold splice inCells hCells ZInL
  rw [List.take_zero, List.nil_append, List.length_map, h]
  rfl
theorem inCells_set32 (id : Bs) (h : id.length = 32) (ix ix' : BitVec 32) (sc sq wi : Value) : (inCells id ix sc sq wi).toArray.setIfInBounds 32 (.int .u32 (iv32 ix')) = (inCells id ix' sc sq wi).toArray := by
  have hl : (hCells id).length = 32 := by simp [hCells, h]
  unfold inCells
  rw [List.setIfInBounds_toArray, List.set_append_right _ _ (by omega), hl]
  rfl

/-- an input of one's own whose witnesses, if there are none, are nil -/
def InN (B : Nat) (w : World) (x : TIn) (cs : List Value) : Prop := InO B w x cs ∧ (x.wi = [] → cs[35]? = some (.slice none 0 0))
theorem inN_keeps (B : Nat) : KeepsO B [5, 38] (InN B) := fun w w' S x cs h hs hp => ⟨inO_keeps B w w' S x cs h.1 hs hp, h.2⟩
theorem InN.len {B : Nat} {w : World} {x : TIn} {cs : List Value} (h : InN B w x cs) : cs.length = 36 := h.1.len
theorem InN.one {B : Nat} {w : World} {x : TIn} {cs : List Value} (h : InN B w x cs) : cs.toArray.all (·.oneCell') = true := h.1.one
theorem InN.c {B : Nat} {w : World} {x : TIn} {cs : List Value} (h : InN B w x cs) : InC w x cs := h.1.c
end Go.Proofs.YthglocpbdfcfnaaDoor
namespace Go.Proofs.YthglocpbdfcfnaaDoor
open Go Go.RowKit
set_option linter.unusedVariables false

/-- R is what X says, or the error that a reader keeps -/
def Cnt (R : Except Int (TTx × Bs)) (er : Int) (X : Except Int (TTx × Bs)) : Prop := if er = 0 then R = X else R = .error er
theorem Cnt.bind {α : Type} {R : Except Int (TTx × Bs)} {er er' : Int} {p : Pz α} {f : α → Pz TTx} {s r : Bs} {a : α} (h : Cnt R er (p.bind f s)) (h2 : Step p er s a er' r) : Cnt R er' (f a r) := by
  unfold Cnt Step at *
  by_cases he : er = 0
  · rw [if_pos he] at h h2
    cases hp : p s with
    | error k =>
      rw [hp] at h2
      simp only at h2
      obtain ⟨rfl, hk⟩ := h2
      rw [if_neg hk, h, Pz.bind_err hp]
    | ok x =>
      obtain ⟨a', r'⟩ := x
      rw [hp] at h2
      simp only at h2
      obtain ⟨rfl, rfl, rfl⟩ := h2
      rw [if_pos rfl, h, Pz.bind_ok hp]
  · rw [if_neg he] at h h2
    rw [h2, if_neg he, h]
theorem Cnt.any {R : Except Int (TTx × Bs)} {er : Int} {X Y : Except Int (TTx × Bs)} (h : Cnt R er X) (he : er ≠ 0) : Cnt R er Y := by
  unfold Cnt at *
  rw [if_neg he] at h ⊢
  exact h
theorem Cnt.same {R : Except Int (TTx × Bs)} {er : Int} {X Y : Except Int (TTx × Bs)} (h : Cnt R er X) (he : er = 0 → X = Y) : Cnt R er Y := by
  unfold Cnt at *
  by_cases h0 : er = 0
  · rw [if_pos h0] at h ⊢; rw [h, he h0]
  · rw [if_neg h0] at h ⊢; exact h
theorem Cnt.fail {R : Except Int (TTx × Bs)} {k : Int} {X : Except Int (TTx × Bs)} (h : Cnt R 0 X) (hX : X = .error k) (hk : k ≠ 0) (Y : Except Int (TTx × Bs)) : Cnt R k Y := by
  unfold Cnt at *
  rw [if_pos rfl] at h
  rw [if_neg hk, h, hX]
theorem bind_assoc {α β γ : Type} (p : Pz α) (f : α → Pz β) (g : β → Pz γ) (s : Bs) : (p.bind f).bind g s = p.bind (fun a => (f a).bind g) s := by
  unfold Pz.bind
  cases p s with
  | error e => rfl
  | ok x => rfl
theorem ifS_pos {α : Type} {c : Prop} [Decidable c] (h : c) (p q : Pz α) (s : Bs) : (if c then p else q) s = p s := by rw [if_pos h]
theorem ifS_neg {α : Type} {c : Prop} [Decidable c] (h : ¬ c) (p q : Pz α) (s : Bs) : (if c then p else q) s = q s := by rw [if_neg h]

set_option maxRecDepth 100000 in
set_option maxHeartbeats 8000000 in
theorem refHas_any (t : TTx) (cs : List Value) (w : World) (h : TxC w t cs) : Calls Tryd.prog 34 #[.agg cs.toArray] w fun e w' => e = .returned (.bool (hasWs t.is)) ∧ Below w.heap.size w w' := by
  obtain ⟨iv, ov, rfl, hi, ho⟩ := h
  obtain ⟨r, hr⟩ : ∃ r, r = hasWs t.is := ⟨_, rfl⟩
  rw [← hr]
  have HR := Lib.hid hr
  obtain ⟨pi, n, ci, rfl⟩ := hi.opens
  have HI := Lib.hid hi
  obtain ⟨hn, hnc, hcm⟩ := hi.slen
  obtain ⟨vv, hvv⟩ : ∃ v, v = u32 t.ve := ⟨_, rfl⟩
  obtain ⟨vl, hvl⟩ : ∃ v, v = u32 t.lo := ⟨_, rfl⟩
  rw [← hvv, ← hvl]
  have HN := Lib.hid hn
  have hb1 := below_new w (.cells #[vv, .slice pi n ci, ov, vl] 26)
  have HB1 := Lib.hid (Blk.new w 26 #[vv, .slice pi n ci, ov, vl])
  clear hr hi ho hn hvv hvl
  go_enter Tryd.func34, Tryd.ntmps34
  go_upto_region 1 with fail
  generalize w.alloc (.cells #[vv, .slice pi n ci, ov, vl] 26) = w1 at *
  have HW1 := Lib.hid hb1
  have c1 := HB1.out.cell 1
  simp only [List.getElem?_toArray, List.getElem?_cons_zero, List.getElem?_cons_succ] at c1
  go_upto_region 2 with fail
  clear c1 hb1
  go_loopw [8] (fun i wr => ∃ k : Nat, k ≤ n ∧ i = .int .i64 k ∧ Hid (Below w.heap.size w wr) ∧ Hid (hasWs (t.is.take k) = false)) (fun i _ => n - (intOf i).toNat)
  case atStart => exact ⟨0, by omega, rfl, HW1, Lib.hid rfl⟩
  case round =>
    obtain ⟨k, hk, rfl, HWk, HAk⟩ := hrel
    by_cases hkn : k < n
    · have hlt : (k : Int) < (n : Int) := by omega
      obtain ⟨b, off, cs, x, rfl, hx, hE, l2⟩ := HI.out.at HWk.out hkn
      obtain ⟨sv, wv, k32, k33, k34, k35, hsv, hwv⟩ := hE.cell
      obtain ⟨pw, nw, cw, rfl⟩ := hwv.opens
      obtain ⟨hnw, hnwc, hcwm⟩ := hwv.slen
      have HX := Lib.hid hx
      have HNW := Lib.hid hnw
      have K35 := Lib.hid k35
      have H3 := Lib.hid hE.len
      have H1 := Lib.hid hE.one
      obtain ⟨Z, hZl, hz⟩ := zeroIn
      have HZ := Lib.hid hZl
      have hbr := below_new wr (.cells Z 40)
      clear hx hE k32 k33 k34 k35 hsv hwv hnw hZl
      go_upto_region 4 with (first
        | (with_reducible refine wpList_load_mid (op := ⟨some 11, _, _, _, _, _⟩) ?_ 40 (.tmp 10) ?_ (b) (off + k * 36) ?_ (cs) _ (l2) Tryd.underlying40 ?_ ?_ ?_
           · rfl
           · rfl
           · rfl
           · rfl
           · exact ((info_Ins H3.out)))
        | (with_reducible refine wp_store_blk (o := ⟨none, _, _, _, _, _⟩) ?_ 40 (.tmp 4) (.tmp 11) ?_ (wr.heap.size) 40 (Z) (cs.toArray) ?_ ?_ (Blk.new wr _ _) ?_ ?_ ?_ (wr.heap.size) (wr) ?_ ?_ ?_
           · rfl
           · rfl
           · rfl
           · rfl
           · exact (by rw [List.size_toArray]; exact info_Ins H3.out)
           · exact (HZ.out.trans (by rw [List.size_toArray]; exact H3.out.symm))
           · exact (H1.out)
           · exact (hbr)
           · exact (Nat.le_refl _)
           intro w6 hB6 hb6 hg6 hs6))
      have HW6 := Lib.hid (below_fut HWk.out hb6 (Nat.le_refl _))
      have c35 := hB6.cell 35
      rw [List.getElem?_toArray, K35.out] at c35
      clear hb6 hg6 hs6 l2 hz hbr HWk
      by_cases hw : 0 < nw
      · have hlw : (0 : Int) < (nw : Int) := by omega
        go_wp2_with fail
        go_ret
        refine ⟨?_, HW6.out⟩
        have : hasWs t.is = true := any_hit _ t.is k x HX.out (decide_eq_true (by rw [HNW.out]; exact hw))
        rw [HR.out, this]
        rfl
      · have hlw : ¬ (0 : Int) < (nw : Int) := by omega
        have hAk : Hid (hasWs (t.is.take (k + 1)) = false) := Lib.hid (any_take _ t.is k (by have := HN.out; omega) x HX.out HAk.out (decide_eq_false (by rw [HNW.out]; exact hw)))
        go_wp2_with fail
        go_roundw
        case rel => exact ⟨k + 1, by omega, by go_num, HW6, hAk⟩
        case measure => simp [intOf]; omega
    · obtain rfl : k = n := by omega
      have hall := HAk.out
      rw [List.take_of_length_le (by have := HN.out; omega)] at hall
      have HALL := Lib.hid hall
      clear hall
      go_wp2_with fail
      go_ret
      refine ⟨?_, HWk.out⟩
      rw [HR.out, HALL.out]
      rfl
end Go.Proofs.YthglocpbdfcfnaaDoor
namespace Go.Proofs.YthglocpbdfcfnaaDoor
open Go Go.RowKit
set_option linter.unusedVariables false

def decOf (R : Except Int (TTx × Bs)) : TTx × Bs × Int := match R with
  | .ok (t, r) => (t, r, 0)
  | .error k => (⟨0#32, [], [], 0#32⟩, [], k)
theorem decOf_eq (s : Bs) : txDecP s = decOf (txZ s) := rfl
theorem markZ_zero (r : Bs) : markZ (0#8 :: r) = (takeZ 2).bind (fun b => if b[1]? = some 1#8 then Pz.ret true else Pz.fail 51) (0#8 :: r) := by
  show (if (0#8 :: r)[0]? = some 0#8 then _ else _) = _
  exact if_pos rfl
theorem mark_short : markZ [0#8] = .error 50 := by rw [markZ_zero]; exact Pz.bind_err (takeZ_short (by decide))
theorem mark_ok (r : Bs) : markZ (0#8 :: 1#8 :: r) = .ok (true, r) := by
  have h : takeZ 2 (0#8 :: 1#8 :: r) = .ok ([0#8, 1#8], r) := takeZ_app (n := 2) [0#8, 1#8] r rfl
  rw [markZ_zero, Pz.bind_ok h]
  exact ifS_pos rfl _ _ _
theorem mark_bad (y : BitVec 8) (r : Bs) (h : y ≠ 1#8) : markZ (0#8 :: y :: r) = .error 51 := by
  have h2 : takeZ 2 (0#8 :: y :: r) = .ok ([0#8, y], r) := takeZ_app (n := 2) [0#8, y] r rfl
  rw [markZ_zero, Pz.bind_ok h2]
  exact ifS_neg (by simpa using h) _ _ _
def contP {α : Type} (xs : List α) (p : Pz α) (m : Nat) : Pz (List α) := fun s => contM xs p m s
theorem contP_start {α : Type} (p : Pz α) (n : Nat) : contP [] p n = manyZ p n := by
  funext s
  exact (contM_start p n s).symm
theorem contP_step {α β : Type} {R : Except Int (TTx × Bs)} {er er' : Int} {xs : List α} {p : Pz α} {m : Nat} {f : List α → Pz TTx} {s r : Bs} {a : α} (h : Cnt R er (((contP xs p (m + 1)).bind f) s)) (h2 : Step p er s a er' r) (_ : β) : Cnt R er' (((contP (xs ++ [a]) p m).bind f) r) := by
  have e : ((contP xs p (m + 1)).bind f) s = (p.bind fun a => (contP (xs ++ [a]) p m).bind f) s := by
    unfold Pz.bind contP
    cases hp : p s with
    | error k => rw [contM_bad hp]
    | ok x => obtain ⟨a', r'⟩ := x; rw [contM_ok hp]
  rw [e] at h
  exact h.bind h2
theorem own_sep {B : Nat} {w : World} {T N : Nat} {v : Value} {n : Nat} {xs : List Value} {Ts : List TypeId} (h : w.ownsRow B T N v n xs) (hT : T ∉ Ts) : Sep B Ts w (fun k => v.ownBlock = some k) := fun k hk => by
  rcases h.2 with ⟨rfl, _⟩ | ⟨q, cap, cur, rfl, hB, hh, _⟩
  · cases hk
  · injection hk with hk
    subst hk
    exact .inr ⟨T, cur, hh, hT⟩
theorem RowO.repoke {α : Type} {E : World → α → List Value → Prop} {T N B : Nat} {Ts : List TypeId} {w w' : World} {S : Nat → Prop} {b n c k j : Nat} {xs : List α} (h : RowO E T N B w (.slice (some ⟨b, 0, none⟩) n c) xs) (hE : KeepsO B Ts E) {x x' : α} {u : Value} {cur : Array Value}
    (hcur : Blk w b T cur) (hs : Stays S w w') (hp : Sep B Ts w S) (hb : Blk w' b T (cur.setIfInBounds (k * N + j) u)) (hx : xs[k]? = some x) (hj : j < N)
    (hx' : ∀ cs, E w x cs → cs.length = N → E w' x' (cs.set j u)) : RowO E T N B w' (.slice (some ⟨b, 0, none⟩) n c) (xs.set k x') := by
  obtain ⟨css, h1, h2, h3⟩ := h
  have hk : k < xs.length := (List.getElem?_eq_some_iff.1 hx).1
  have hl := css_len h1 h3
  rcases h2.2 with ⟨e, _⟩ | ⟨g, cap, cur0, e, hB, hh, hc1, hc2, hsz, htk⟩
  · cases e
  · injection e with e1 e2 e3
    injection e1 with e1
    injection e1 with e1
    subst e1 e2 e3
    obtain rfl : cur0 = cur := (Blk.inj (show Blk w b T cur0 from hh) hcur).2
    have hlt : k * N + j < xs.length * N := by
      have := Nat.mul_le_mul_right N (show k + 1 ≤ xs.length by omega)
      rw [Nat.succ_mul] at this
      omega
    obtain ⟨cs0, h40, h50, h60⟩ := h3 k x hx
    refine ⟨css.set k (cs0.set j u), by simp [h1], ⟨?_, .inr ⟨b, c, cur0.setIfInBounds (k * N + j) u, by simp, hB, hb, ?_, hc2, ?_, ?_⟩⟩, fun i y hy => ?_⟩
    · rw [← flat_set N css hl k cs0 h40 j hj u, List.length_set, List.length_set]
      exact h2.1
    · rw [List.length_set]; exact hc1
    · rw [Array.size_setIfInBounds]; exact hsz
    · rw [List.length_set, ← flat_set N css hl k cs0 h40 j hj u, ← htk, Array.toList_setIfInBounds, List.take_set]
    · by_cases hik : i = k
      · subst hik
        rw [List.getElem?_set_self hk] at hy
        injection hy with hy
        subst hy
        exact ⟨cs0.set j u, by rw [List.getElem?_set_self (by omega)], hx' cs0 h50 h60, by rw [List.length_set]; exact h60⟩
      · rw [List.getElem?_set_ne (by omega)] at hy
        obtain ⟨cs, h4, h5, h6⟩ := h3 i y hy
        exact ⟨cs, by rw [List.getElem?_set_ne (by omega)]; exact h4, hE _ _ _ _ _ h5 hs hp, h6⟩
theorem set_same {cur : Array Value} {i : Nat} {v : Value} (h : cur[i]? = some v) : cur.setIfInBounds i v = cur := by
  refine Array.ext (by simp) fun j h1 h2 => ?_
  rw [Array.getElem_setIfInBounds]
  split
  · rename_i hij
    subst hij
    rw [Array.getElem?_eq_getElem h2] at h
    injection h with h
    exact h.symm
  · rfl
theorem set_twice (cur : Array Value) (i : Nat) (u v : Value) : (cur.setIfInBounds i u).setIfInBounds i v = cur.setIfInBounds i v := by
  apply Array.ext'
  simp [Array.toList_setIfInBounds]
def contWP (xs ys : List TIn) : Pz (List TIn) := fun s => contW xs ys s
theorem contWP_start (ys : List TIn) : contWP [] ys = witsZ ys := by
  funext s
  exact (contW_start ys s).symm
theorem contWP_cons {xs rest : List TIn} {x : TIn} {f : List TIn → Pz TTx} (s : Bs) : ((contWP xs (x :: rest)).bind f) s = ((cntZ 100).bind fun n => (manyZ textZ n).bind fun ws => (contWP (xs ++ [{ x with wi := ws }]) rest).bind f) s := by
  have e : ((contWP xs (x :: rest)).bind f) s = ((partsZ 100 textZ).bind fun ws => (contWP (xs ++ [{ x with wi := ws }]) rest).bind f) s := by
    unfold Pz.bind contWP
    cases hp : partsZ 100 textZ s with
    | error k => rw [contW_bad hp]
    | ok y => obtain ⟨a, r⟩ := y; rw [contW_ok hp]
  rw [e]
  unfold partsZ
  exact bind_assoc _ _ _ _
def endZ (ve : BitVec 64) (m : Bool) (os : List TOut) (l : List TIn) : Pz TTx := (if (m && !hasWs l) = true then Pz.fail 51 else Pz.ret l).bind fun is' => (numZ 4).bind fun lo => Pz.ret ⟨ve.setWidth 32, is', os, lo.setWidth 32⟩
def tailZ (ve : BitVec 64) (os : List TOut) (l : List TIn) : Pz TTx := (numZ 4).bind fun lo => Pz.ret ⟨ve.setWidth 32, l, os, lo.setWidth 32⟩
theorem end_bad (ve : BitVec 64) (os : List TOut) (l : List TIn) (s : Bs) (h : hasWs l = false) : endZ ve true os l s = .error 51 := by
  unfold endZ
  refine Pz.bind_err ?_
  rw [h]
  rfl
theorem end_good (ve : BitVec 64) (m : Bool) (os : List TOut) (l : List TIn) (s : Bs) (h : ¬ (m = true ∧ hasWs l = false)) : endZ ve m os l s = tailZ ve os l s := by
  unfold endZ
  refine (Pz.bind_ok (a := l) (r := s) ?_)
  have : (m && !hasWs l) = false := by
    cases m
    · rfl
    · cases hw : hasWs l
      · exact absurd ⟨rfl, hw⟩ h
      · rfl
  rw [this]
  rfl
theorem results_tt {fn : Func} {p u v : Tmp} {ty : TypeId} (h : fn.results = #[.cell p ty, .tmp u, .tmp v]) (tmps : Array Value) (P : Program) (w : World) (g : Nat) (t : TypeId) (cs : List Value) (d : TypeDesc)
    (hp : tmps.getD p undef = .pointer (some ⟨g, 0, none⟩)) (hg : Blk w g t cs.toArray) (hu : P.underlying ty = some d) (hd : d.isRow = true) (hi : (P.info? ty).map (·.size) = some cs.length) :
    (results fn tmps).run P w = .ok (.tuple #[.agg cs.toArray, tmps.getD u undef, tmps.getD v undef]) w := by
  have hp' : tmps[p]?.getD undef = .pointer (some ⟨g, 0, none⟩) := by simpa using hp
  simp [results, h, hp', asAddr, run_loadVar_mid w g 0 ty cs d (blk_range hg) hu hd hi]
/-- what stands behind the outputs -/
def lastZ (ve : BitVec 64) (m : Bool) (is : List TIn) (os : List TOut) : Pz TTx := (witZ m is).bind fun is' => (numZ 4).bind fun lo => Pz.ret ⟨ve.setWidth 32, is', os, lo.setWidth 32⟩
theorem last_false (ve : BitVec 64) (is : List TIn) (os : List TOut) (s : Bs) : lastZ ve false is os s = endZ ve false os is s := rfl
theorem last_true (ve : BitVec 64) (is : List TIn) (os : List TOut) (s : Bs) : lastZ ve true is os s = ((contWP [] is).bind (endZ ve true os)) s := by
  rw [contWP_start]
  unfold lastZ witZ
  rw [if_pos rfl, bind_assoc]
  unfold Pz.bind
  cases witsZ is s with
  | error e => rfl
  | ok y =>
    obtain ⟨l, r⟩ := y
    simp only
    unfold endZ Pz.bind
    cases hasWs l <;> rfl
/-- what stands behind the inputs -/
def restZ (ve : BitVec 64) (m : Bool) (is : List TIn) : Pz TTx := (partsZ 2000 outZ).bind fun os => (witZ m is).bind fun is' => (numZ 4).bind fun lo => Pz.ret ⟨ve.setWidth 32, is', os, lo.setWidth 32⟩
theorem rest_last (ve : BitVec 64) (m : Bool) (is : List TIn) (s : Bs) : restZ ve m is s = ((cntZ 2000).bind (manyZ outZ)).bind (lastZ ve m is) s := rfl
theorem body_rest (ve : BitVec 64) (m : Bool) (s : Bs) : bodyZ ve m s = ((cntZ 2000).bind fun n => if n = 0 then Pz.fail 51 else manyZ inZ n).bind (restZ ve m) s := rfl
theorem take1 (x : BitVec 8) (r : Bs) : takeZ 1 (x :: r) = .ok ([x], r) := by unfold takeZ; rw [if_neg (by simp)]; rfl
theorem take1_nil : takeZ 1 [] = .error 50 := by unfold takeZ; rw [if_pos (by simp)]

end Go.Proofs.YthglocpbdfcfnaaDoor
namespace Go.Proofs.YthglocpbdfcfnaaDoor
open Go Go.RowKit
set_option linter.unusedVariables false

/-- a parser's errors are none of them nought -/
def NZ {α : Type} (p : Pz α) : Prop := ∀ s k, p s = .error k → k ≠ 0
theorem NZ.ret {α : Type} (a : α) : NZ (Pz.ret a) := fun s k h => by cases h
theorem NZ.fail {α : Type} {e : Int} (he : e ≠ 0) : NZ (Pz.fail (α := α) e) := fun s k h => by
  injection h with h
  rw [← h]
  exact he
theorem NZ.bind {α β : Type} {p : Pz α} {f : α → Pz β} (hp : NZ p) (hf : ∀ a, NZ (f a)) : NZ (p.bind f) := fun s k h => by
  cases hs : p s with
  | error e =>
    rw [Pz.bind_err hs] at h
    injection h with h
    rw [← h]
    exact hp s e hs
  | ok x =>
    obtain ⟨a, r⟩ := x
    rw [Pz.bind_ok hs] at h
    exact hf a r k h
theorem nz_take (n : Nat) : NZ (takeZ n) := fun s k h => by
  unfold takeZ at h
  split at h
  · injection h with h; rw [← h]; decide
  · cases h
theorem nz_num (w : Nat) : NZ (numZ w) := (nz_take w).bind fun _ => NZ.ret _
theorem nz_cnt (most : Nat) : NZ (cntZ most) := fun s k h => by
  unfold cntZ at h
  split at h
  · rename_i h0
    injection h with h; rw [← h]; exact h0
  · split at h
    · injection h with h; rw [← h]; decide
    · cases h
theorem nz_text : NZ textZ := (nz_cnt _).bind nz_take
theorem nz_many {α : Type} {p : Pz α} (h : NZ p) : ∀ n, NZ (manyZ p n)
  | 0 => NZ.ret _
  | n + 1 => h.bind fun _ => (nz_many h n).bind fun _ => NZ.ret _
theorem nz_in : NZ inZ := (nz_take 32).bind fun _ => (nz_num 4).bind fun _ => nz_text.bind fun _ => (nz_num 4).bind fun _ => NZ.ret _
theorem nz_out : NZ outZ := (nz_num 8).bind fun v => by
  split
  · exact NZ.fail (by decide)
  · exact nz_text.bind fun _ => NZ.ret _
theorem nz_wits : ∀ l, NZ (witsZ l)
  | [] => NZ.ret _
  | x :: l => ((nz_cnt 100).bind (nz_many nz_text)).bind fun _ => (nz_wits l).bind fun _ => NZ.ret _
theorem nz_ins : NZ insZ := (nz_cnt 2000).bind fun n => by
  split
  · exact NZ.fail (by decide)
  · exact nz_many nz_in n
theorem nz_wit (m : Bool) (l : List TIn) : NZ (witZ m l) := by
  unfold witZ
  split
  · exact (nz_wits l).bind fun l => by
      split
      · exact NZ.ret _
      · exact NZ.fail (by decide)
  · exact NZ.ret _
theorem nz_body (ve : BitVec 64) (m : Bool) : NZ (bodyZ ve m) := nz_ins.bind fun _ => ((nz_cnt 2000).bind (nz_many nz_out)).bind fun _ => (nz_wit m _).bind fun _ => (nz_num 4).bind fun _ => NZ.ret _
theorem nz_mark : NZ markZ := fun s k h => by
  unfold markZ at h
  split at h
  · refine ((nz_take 2).bind fun b => ?_) s k h
    split
    · exact NZ.ret _
    · exact NZ.fail (by decide)
  · cases h
theorem nz_tx : NZ txZ := (nz_num 4).bind fun ve => nz_mark.bind (nz_body ve)
theorem txDec_cases (bs : Bs) : ∃ T r k, txDecP bs = (T, r, k) ∧ (k = 0 → bs = txB T (hasWs T.is) ++ r ∧ canTx T = true) := by
  unfold txDecP
  cases h : txZ bs with
  | error k => exact ⟨_, _, k, rfl, fun h0 => absurd h0 (nz_tx bs k h)⟩
  | ok x =>
    obtain ⟨t, r⟩ := x
    obtain ⟨h1, h2, _⟩ := txZ_ok h
    exact ⟨t, r, 0, rfl, fun _ => ⟨h1, h2⟩⟩

end Go.Proofs.YthglocpbdfcfnaaDoor
