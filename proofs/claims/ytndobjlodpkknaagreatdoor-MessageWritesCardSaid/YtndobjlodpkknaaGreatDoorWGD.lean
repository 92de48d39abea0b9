/- The reader of transactions: take, num, must, text. · The reader of transactions: parts. · The reader of transactions: an input, an output. · The reader of transactions: an output; rows in which an element is written. · The reader of transactions: a whole one. · tx.Decode: the walk; a reader's panic is caught. · sporranref07.Can, has: the walks. · A small transaction is written (the laws' awake). · A transaction read as data (a row's argument). · sporranlaw07.TxShort: the walk. · sporranplain.SameTx: what says the same is the same.  -/
import Derived.WalkSmall
import Derived.Defers
import Derived.Recover
import Derived.Test.YtndobjlodpkknaaGreatDoorWGT
import Derived.Test.YtndobjlodpkknaaGreatDoorWGB
namespace Go.Proofs.YtndobjlodpkknaaGreatDoor
open Go Go.RowKit
set_option linter.unusedVariables false
theorem Dat.open {B g : Nat} {w : World} {v : Value} {s : Bs} (h : Dat B g w v s) : ∃ p n c, v = .slice p n c ∧ s.length = n ∧ n ≤ c ∧ c ≤ 9223372036854775807 ∧ Row8 w p s ∧ (p = none → c = 0) := by
  obtain ⟨⟨p, n, c, rfl, h1, h2, h3, h4, h5⟩, _⟩ := h
  exact ⟨p, n, c, rfl, h1, h2, by unfold maxLen at h3; omega, h4, h5⟩
theorem Dat.take {B g : Nat} {w : World} {p : Option Addr} {n c k : Nat} {s : Bs} (h : Dat B g w (.slice p n c) s) (hk : k ≤ n) (hp : p = none → c = 0) : Dat B g w (.slice p k k) (s.take k) := by
  obtain ⟨⟨p', n', c', e, h1, h2, h3, h4, h5⟩, h6⟩ := h
  injection e with e1 e2 e3
  subst e1 e2 e3
  exact ⟨⟨p, k, k, rfl, by rw [List.length_take]; omega, Nat.le_refl _, by omega, h4.take k, fun e => by have := h5 e; omega⟩, fun h0 j hj => h6 (fun e => h0 (by rw [e, List.take_nil])) j (by rw [own_slice] at hj ⊢; exact hj)⟩
theorem Dat.cut {B g : Nat} {w : World} {p : Option Addr} {n c k : Nat} {s : Bs} (h : Dat B g w (.slice p n c) s) (hk : k ≤ n) : Dat B g w (.slice (cut8 p c k) (n - k) (c - k)) (s.drop k) := by
  obtain ⟨⟨p', n', c', e, h1, h2, h3, h4, h5⟩, h6⟩ := h
  injection e with e1 e2 e3
  subst e1 e2 e3
  refine ⟨⟨_, _, _, rfl, by rw [List.length_drop]; omega, by omega, by omega, ?_, fun e => ?_⟩, fun h0 j hj => h6 (fun e => h0 (by rw [e, List.drop_nil])) j ?_⟩
  · exact h4.drop (by omega)
  · unfold cut8 at e
    split at e
    · omega
    · cases p with
      | none => have := h5 rfl; omega
      | some a => cases e
  · rw [own_slice] at hj ⊢
    rw [own_cut8] at hj
    exact hj
theorem Dat.own {B g : Nat} {w : World} {v : Value} {s : Bs} (h : Own8 w B v s) (hg : g < B) : Dat B g w v s := by
  refine ⟨h.sl, fun _ k hk => ?_⟩
  rcases h.2 with ⟨rfl, _⟩ | ⟨q, cap, cur, rfl, hB, hh, _⟩
  · cases hk
  · injection hk with hk
    subst hk
    exact ⟨by have : B ≤ q := hB; simp only; omega, .inr ⟨cur, hh⟩⟩
end Go.Proofs.YtndobjlodpkknaaGreatDoor
namespace Go.Proofs.YtndobjlodpkknaaGreatDoor
open Go Go.RowKit
set_option linter.unusedVariables false
theorem InO.len {B : Nat} {w : World} {x : TIn} {cs : List Value} (h : InO B w x cs) : cs.length = 36 := h.c.len
theorem OutO.len {B : Nat} {w : World} {x : TOut} {cs : List Value} (h : OutO B w x cs) : cs.length = 2 := h.c.len
theorem TextO.len {B : Nat} {w : World} {x : Bs} {cs : List Value} (h : TextO B w x cs) : cs.length = 1 := by obtain ⟨v, rfl, _⟩ := h; rfl
theorem InO.one {B : Nat} {w : World} {x : TIn} {cs : List Value} (h : InO B w x cs) : cs.toArray.all (·.oneCell') = true := h.c.one
theorem OutO.one {B : Nat} {w : World} {x : TOut} {cs : List Value} (h : OutO B w x cs) : cs.toArray.all (·.oneCell') = true := h.c.one
theorem TextO.one {B : Nat} {w : World} {x : Bs} {cs : List Value} (h : TextO B w x cs) : cs.toArray.all (·.oneCell') = true := by
  obtain ⟨v, rfl, h1⟩ := h
  rw [List.all_toArray]
  simp [h1.sl.one]
end Go.Proofs.YtndobjlodpkknaaGreatDoor
namespace Go.Proofs.YtndobjlodpkknaaGreatDoor
open Go Go.RowKit
set_option linter.unusedVariables false
def ZIn : Array Value := (List.replicate 32 (Value.int .u8 0) ++ [Value.int .u32 0, Value.slice none 0 0, Value.int .u32 0, Value.slice none 0 0]).toArray
def inCells (id : Bs) (ix : BitVec 32) (sc sq wi : Value) : List Value := hCells id ++ [u32 ix, sc, sq, wi]
theorem row_range {w : World} {b o : Nat} {bs : Bs} (h : Row8 w (some ⟨b, o, none⟩) bs) : w.rangeAt b o (hCells bs) := fun j v hj => by
  rw [hCells, List.getElem?_map] at hj
  cases hx : bs[j]? with
  | none => rw [hx] at hj; cases hj
  | some x =>
    rw [hx] at hj
    injection hj with hj
    obtain ⟨b', o', e, _, hc⟩ := h (fun e => by rw [e] at hx; cases hx)
    injection e with e
    injection e with e1 e2
    subst e1 e2
    rw [hc j x hx, ← hj]
def Stable (g : Nat) (F : World → Prop) : Prop := ∀ W W', F W → Stays (· = g) W W' → F W'
theorem Stable.and {g : Nat} {F F' : World → Prop} (h : Stable g F) (h' : Stable g F') : Stable g (fun W => F W ∧ F' W) := fun W W' hF hs => ⟨h W W' hF.1 hs, h' W W' hF.2 hs⟩
theorem Stable.blk {g z : Nat} {t : TypeId} {cs : Array Value} (h : z ≠ g) : Stable g (fun W => Blk W z t cs) := fun W W' hF hs => hF.stays hs h
theorem Stable.stays {g : Nat} (w : World) : Stable g (fun W => Stays (· = g) w W) := fun W W' hF hs => hF.trans hs fun k _ hk => hk
theorem Stable.fut {g : Nat} {F : World → Prop} (h : Stable g F) {W W' : World} (hF : F W) (hb : Below W.heap.size W W') : F W' := h W W' hF (Stays.of_below hb (Nat.le_refl _) _)
theorem Dat.range {B g : Nat} {w : World} {b o n c : Nat} {bs : Bs} (h : Dat B g w (.slice (some ⟨b, o, none⟩) n c) bs) : w.rangeAt b o (hCells bs) := by
  obtain ⟨p, n', c', e, _, _, _, hr, _⟩ := h.open
  injection e with e
  subst e
  exact row_range hr
theorem sep_one {B z : Nat} {Ts : List TypeId} {T : TypeId} {cs : Array Value} {w : World} (h : Blk w z T cs) (hT : T ∉ Ts) : Sep B Ts w (· = z) := fun k hk => .inr ⟨T, cs, (show k = z from hk) ▸ h, hT⟩
def InMid (B g : Nat) (w : World) (s : Bs) (e : Exit) (a : Act) (W : World) : Prop := match e with
  | .normal => ∃ id r1 ix r2 z3, Hid (takeZ 32 s = .ok (id, r1)) ∧ Hid (numZ 4 r1 = .ok (ix, r2)) ∧ Hid (id.length = 32) ∧ Hid (RdAt B g W r2) ∧ Hid (Stays (· = g) w W) ∧ Hid (Blk W w.heap.size 97 ZIn) ∧ Hid (Blk W z3 97 (inCells id (ix.setWidth 32) (.slice none 0 0) (.int .u32 0) (.slice none 0 0)).toArray) ∧ Hid (w.heap.size < z3) ∧
      ∃ u1 u4 u5 u6 u7 u8 u9 u10 u11 u12 u13 u14 u15 u16 u17 u18 u19 u20, a = ⟨#[.pointer (some ⟨g, 0, none⟩), u1, .pointer (some ⟨w.heap.size, 0, none⟩), .pointer (some ⟨z3, 0, none⟩), u4, u5, u6, u7, u8, u9, u10, u11, u12, u13, u14, u15, u16, u17, u18, u19, u20], []⟩
  | .panic c => ∃ k, Hid (inZ s = .error k) ∧ c = [{ v := .iface 38 (.int .i64 k), recovered := false }] ∧ Hid (Stays (· = g) w W) ∧ a.defers = []
  | _ => False
theorem InMid.put {B g : Nat} {w : World} {s : Bs} (c : List PanicEntry) (a : Act) (d : Option Nat) (v : Value) (W : World) (h : InMid B g w s (.panic c) (a.put d v) W) : InMid B g w s (.panic c) a W := by
  obtain ⟨k, h1, h2, h3, h4⟩ := h
  exact ⟨k, h1, h2, h3, by cases a; cases d <;> exact h4⟩
end Go.Proofs.YtndobjlodpkknaaGreatDoor
namespace Go.Proofs.YtndobjlodpkknaaGreatDoor
open Go Go.RowKit
set_option linter.unusedVariables false
theorem flat_set (N : Nat) : ∀ (css : List (List Value)), (∀ cs ∈ css, cs.length = N) → ∀ (i : Nat) (cs : List Value), css[i]? = some cs → ∀ j, j < N → ∀ u, css.flatten.set (i * N + j) u = (css.set i (cs.set j u)).flatten
  | [], _, i, cs, h, j, hj, u => by cases h
  | c :: css, hl, i, cs, h, j, hj, u => by
    have hc := hl c (List.mem_cons_self ..)
    cases i with
    | zero =>
      rw [List.getElem?_cons_zero] at h
      injection h with h
      subst h
      rw [List.flatten_cons, Nat.zero_mul, Nat.zero_add, List.set_append_left _ _ (by omega), List.set_cons_zero, List.flatten_cons]
    | succ i =>
      rw [List.getElem?_cons_succ] at h
      rw [List.flatten_cons, List.set_append_right _ _ (by rw [Nat.succ_mul]; omega), hc, Nat.succ_mul, show i * N + N + j - N = i * N + j by omega, List.set_cons_succ, List.flatten_cons, flat_set N css (fun cs h => hl cs (List.mem_cons_of_mem _ h)) i cs h j hj u]
theorem RowO.poke {α : Type} {E : World → α → List Value → Prop} {T N B : Nat} {Ts : List TypeId} {w : World} {b n c k j : Nat} {xs : List α} (h : RowO E T N B w (.slice (some ⟨b, 0, none⟩) n c) xs) (hE : KeepsO B Ts E) (hT : T ∉ Ts) {x x' : α} {u : Value} (hx : xs[k]? = some x) (hj : j < N)
    (hx' : ∀ cs, E w x cs → cs.length = N → E (w.setCell ⟨b, k * N + j, none⟩ u) x' (cs.set j u)) :
    (∃ cur, Blk w b T cur ∧ B ≤ b ∧ k * N + j < cur.size) ∧ RowO E T N B (w.setCell ⟨b, k * N + j, none⟩ u) (.slice (some ⟨b, 0, none⟩) n c) (xs.set k x') := by
  obtain ⟨css, h1, h2, h3⟩ := h
  have hk : k < xs.length := (List.getElem?_eq_some_iff.1 hx).1
  have hl := css_len h1 h3
  rcases h2.2 with ⟨e, _⟩ | ⟨g, cap, cur, e, hB, hh, hc1, hc2, hsz, htk⟩
  · cases e
  · injection e with e1 e2 e3
    injection e1 with e1
    injection e1 with e1
    subst e1 e2 e3
    have hb : Blk w b T cur := hh
    have hlt : k * N + j < xs.length * N := by
      have := Nat.mul_le_mul_right N (show k + 1 ≤ xs.length by omega)
      rw [Nat.succ_mul] at this
      omega
    have hcN := Nat.mul_le_mul_right N hc1
    have hst := Stays.set w b (k * N + j) u
    have hsep : Sep B Ts w (· = b) := sep_one hb hT
    obtain ⟨cs0, h40, h50, h60⟩ := h3 k x hx
    refine ⟨⟨cur, hb, hB, by omega⟩, css.set k (cs0.set j u), by simp [h1], ⟨?_, .inr ⟨b, c, cur.setIfInBounds (k * N + j) u, by simp, hB, hb.set _ _, ?_, hc2, ?_, ?_⟩⟩, fun i y hy => ?_⟩
    · rw [← flat_set N css hl k cs0 h40 j hj u, List.length_set, List.length_set]
      exact h2.1
    · rw [List.length_set]; exact hc1
    · rw [Array.size_setIfInBounds]; exact hsz
    · rw [List.length_set, ← flat_set N css hl k cs0 h40 j hj u, ← htk, Array.toList_setIfInBounds, List.take_set]
    · by_cases hik : i = k
      · subst hik
        rw [List.getElem?_set_self hk] at hy
        injection hy with hy
        subst hy
        exact ⟨cs0.set j u, by rw [List.getElem?_set_self (by omega)], hx' cs0 h50 h60, by rw [List.length_set]; exact h60⟩
      · rw [List.getElem?_set_ne (by omega)] at hy
        obtain ⟨cs, h4, h5, h6⟩ := h3 i y hy
        exact ⟨cs, by rw [List.getElem?_set_ne (by omega)]; exact h4, hE _ _ _ _ _ h5 hst hsep, h6⟩
end Go.Proofs.YtndobjlodpkknaaGreatDoor
namespace Go.Proofs.YtndobjlodpkknaaGreatDoor
open Go Go.RowKit
set_option linter.unusedVariables false
def ZTx : List Value := [.int .u32 0, .slice none 0 0, .slice none 0 0, .int .u32 0]
theorem zTx (w : World) : (zeroValue 69).run Tryz.prog w = .ok (.agg ZTx.toArray) w := zero_of (by kernel_rfl) w
theorem RowO.blk {α : Type} {E : World → α → List Value → Prop} {T N B b n c : Nat} {w : World} {xs : List α} (h : RowO E T N B w (.slice (some ⟨b, 0, none⟩) n c) xs) : ∃ cur, Blk w b T cur ∧ B ≤ b ∧ cur.size = c * N ∧ n ≤ c := by
  obtain ⟨css, g1, g2, g3⟩ := h
  rcases g2.2 with ⟨e', _⟩ | ⟨b', cap, cur', e', hBb, hh, hc1, _, hsz, _⟩
  · cases e'
  · injection e' with e1 e2 e3
    injection e1 with e1
    injection e1 with e1
    subst e1 e2 e3
    exact ⟨cur', hh, hBb, hsz, hc1⟩
end Go.Proofs.YtndobjlodpkknaaGreatDoor
namespace Go.Proofs.YtndobjlodpkknaaGreatDoor
open Go Go.RowKit
set_option linter.unusedVariables false
theorem RowO.mono {α : Type} {E E' : World → α → List Value → Prop} {T N B B' : Nat} {w : World} {v : Value} {xs : List α} (h : RowO E T N B w v xs) (hE : ∀ x cs, E w x cs → E' w x cs) (hB : B' ≤ B) : RowO E' T N B' w v xs := by
  obtain ⟨css, h1, h2, h3⟩ := h
  refine ⟨css, h1, ownsRow_mono h2 hB, fun i x hx => ?_⟩
  obtain ⟨cs, h4, h5, h6⟩ := h3 i x hx
  exact ⟨cs, h4, hE _ _ h5, h6⟩
theorem TextO.mono {B B' : Nat} {w : World} {x : Bs} {cs : List Value} (h : TextO B w x cs) (hB : B' ≤ B) : TextO B' w x cs := by obtain ⟨v, h1, h2⟩ := h; exact ⟨v, h1, ownsRow_mono h2 hB⟩
theorem InO.mono {B B' : Nat} {w : World} {x : TIn} {cs : List Value} (h : InO B w x cs) (hB : B' ≤ B) : InO B' w x cs := by obtain ⟨sv, wv, h1, h2, h3, h4⟩ := h; exact ⟨sv, wv, h1, h2, ownsRow_mono h3 hB, h4.mono (fun _ _ h => h.mono hB) hB⟩
theorem OutO.mono {B B' : Nat} {w : World} {x : TOut} {cs : List Value} (h : OutO B w x cs) (hB : B' ≤ B) : OutO B' w x cs := by obtain ⟨sv, h1, h2⟩ := h; exact ⟨sv, h1, ownsRow_mono h2 hB⟩
theorem TxO.mono {B B' : Nat} {w : World} {x : TTx} {cs : List Value} (h : TxO B w x cs) (hB : B' ≤ B) : TxO B' w x cs := by obtain ⟨iv, ov, h1, h2, h3⟩ := h; exact ⟨iv, ov, h1, h2.mono (fun _ _ h => h.mono hB) hB, h3.mono (fun _ _ h => h.mono hB) hB⟩
end Go.Proofs.YtndobjlodpkknaaGreatDoor
namespace Go.Proofs.YtndobjlodpkknaaGreatDoor
open Go Go.RowKit
set_option linter.unusedVariables false
theorem all_take {α : Type} (p : α → Bool) (xs : List α) (k : Nat) (x : α) (hx : xs[k]? = some x) (h0 : (xs.take k).all p = true) (h1 : p x = true) : (xs.take (k + 1)).all p = true := by
  rw [List.take_add_one, hx, List.all_append, h0]
  simp [h1]
theorem all_miss {α : Type} (p : α → Bool) (xs : List α) (k : Nat) (x : α) (hx : xs[k]? = some x) (h1 : p x = false) : xs.all p = false := by
  rw [List.all_eq_false]
  exact ⟨x, List.mem_of_getElem? hx, by simp [h1]⟩
theorem canTx_not {t : TTx} (h : t.is.all canIn = false) : canTx t = false := by unfold canTx; rw [h]; simp
theorem canTx_not2 {t : TTx} (h : t.os.all canOut = false) : canTx t = false := by unfold canTx; rw [h]; simp
theorem ESl.at {α : Type} {E : World → α → List Value → Prop} {N : Nat} {w W : World} {p : Option Addr} {n c k : Nat} {xs : List α} (h : ESl E N w (.slice p n c) xs) (hb : Below w.heap.size w W) (hk : k < n) : ∃ b off cs x, p = some ⟨b, off, none⟩ ∧ xs[k]? = some x ∧ E w x cs ∧ W.rangeAt b (off + k * N) cs := by
  obtain ⟨p', n', c', e, h1, h2, h3, h4, h5⟩ := h
  injection e with e1 e2 e3
  subst e1 e2 e3
  have hx := List.getElem?_eq_getElem (l := xs) (i := k) (by omega)
  obtain ⟨b, off, rfl, hlt, hc⟩ := h4 (by intro e; subst e; simp at h1; omega)
  obtain ⟨cs, h6, h7⟩ := hc k _ hx
  exact ⟨b, off, cs, _, rfl, hx, h6, range_fut h7 hb hlt⟩
theorem ESl.slen {α : Type} {E : World → α → List Value → Prop} {N : Nat} {w : World} {p : Option Addr} {n c : Nat} {xs : List α} (h : ESl E N w (.slice p n c) xs) : xs.length = n ∧ n ≤ c ∧ c ≤ 9223372036854775807 := by
  obtain ⟨p', n', c', e, h1, h2, h3, h4, h5⟩ := h
  injection e with e1 e2 e3
  subst e1 e2 e3
  exact ⟨h1, h2, by unfold maxLen at h3; omega⟩
theorem ESl.opens {α : Type} {E : World → α → List Value → Prop} {N : Nat} {w : World} {v : Value} {xs : List α} (h : ESl E N w v xs) : ∃ p n c, v = .slice p n c := by
  obtain ⟨p', n', c', e, _⟩ := h
  exact ⟨_, _, _, e⟩
theorem Sl.slen {w : World} {p : Option Addr} {n c : Nat} {bs : Bs} (h : Sl w (.slice p n c) bs) : bs.length = n ∧ n ≤ c ∧ c ≤ 9223372036854775807 := by
  obtain ⟨p', n', c', e, h1, h2, h3, h4, h5⟩ := h
  injection e with e1 e2 e3
  subst e1 e2 e3
  exact ⟨h1, h2, by unfold maxLen at h3; omega⟩
theorem Sl.opens {w : World} {v : Value} {bs : Bs} (h : Sl w v bs) : ∃ p n c, v = .slice p n c := by
  obtain ⟨p', n', c', e, _⟩ := h
  exact ⟨_, _, _, e⟩
set_option maxRecDepth 100000 in
set_option maxHeartbeats 16000000 in
theorem refCan_any (t : TTx) (cs : List Value) (w : World) (h : TxC w t cs) : Calls Tryz.prog 74 #[.agg cs.toArray] w fun e w' => e = .returned (.bool (canTx t)) ∧ Below w.heap.size w w' := by
  obtain ⟨iv, ov, rfl, hi, ho⟩ := h
  obtain ⟨r, hr⟩ : ∃ r, r = canTx t := ⟨_, rfl⟩
  rw [← hr]
  have HR := Lib.hid hr
  obtain ⟨pi, n, ci, rfl⟩ := hi.opens
  obtain ⟨po, m, co, rfl⟩ := ho.opens
  have HI := Lib.hid hi
  have HO := Lib.hid ho
  obtain ⟨hn, hnc, hcm⟩ := hi.slen
  obtain ⟨hm, hmc, hcm2⟩ := ho.slen
  obtain ⟨vv, hvv⟩ : ∃ v, v = u32 t.ve := ⟨_, rfl⟩
  obtain ⟨vl, hvl⟩ : ∃ v, v = u32 t.lo := ⟨_, rfl⟩
  rw [← hvv, ← hvl]
  have HN := Lib.hid hn
  have HM := Lib.hid hm
  have hb1 := below_new w (.cells #[vv, .slice pi n ci, .slice po m co, vl] 69)
  have HB1 := Lib.hid (Blk.new w 69 #[vv, .slice pi n ci, .slice po m co, vl])
  clear hr hi ho hn hm hvv hvl
  go_enter Tryz.func74, Tryz.ntmps74
  go_upto_region 1 with fail
  generalize w.alloc (.cells #[vv, .slice pi n ci, .slice po m co, vl] 69) = w1 at *
  have HW1 := Lib.hid hb1
  have c1 := HB1.out.cell 1
  have c2 := HB1.out.cell 2
  simp only [List.getElem?_toArray, List.getElem?_cons_zero, List.getElem?_cons_succ] at c1 c2
  by_cases h1 : n < 1
  · have hl : (n : Int) < 1 := by omega
    go_wp2_with fail
    go_ret
    exact ⟨by rw [HR.out]; unfold canTx; rw [HN.out]; simp; omega, HW1.out⟩
  have hl1 : ¬ (n : Int) < 1 := by omega
  by_cases h2 : 2000 < n
  · have hl2 : (2000 : Int) < (n : Int) := by omega
    go_wp2_with fail
    go_ret
    exact ⟨by rw [HR.out]; unfold canTx; rw [HN.out]; simp; omega, HW1.out⟩
  have hl2 : ¬ (2000 : Int) < (n : Int) := by omega
  by_cases h3 : 2000 < m
  · have hl3 : (2000 : Int) < (m : Int) := by omega
    go_wp2_with fail
    go_ret
    exact ⟨by rw [HR.out]; unfold canTx; rw [HN.out, HM.out]; simp; omega, HW1.out⟩
  have hl3 : ¬ (2000 : Int) < (m : Int) := by omega
  have h1' : 1 ≤ n := by omega
  have h2' : n ≤ 2000 := by omega
  have h3' : m ≤ 2000 := by omega
  go_upto_region 4 with fail
  clear hl1 hl2 hl3 h1 h2 h3 hb1
  go_loopw [28] (fun i wr => ∃ k : Nat, k ≤ n ∧ i = .int .i64 k ∧ Hid (Below w.heap.size w wr) ∧ Hid (Blk wr w.heap.size 69 #[vv, .slice pi n ci, .slice po m co, vl]) ∧ Hid ((t.is.take k).all canIn = true)) (fun i _ => n - (intOf i).toNat)
  case atStart => exact ⟨0, by omega, rfl, HW1, HB1, Lib.hid rfl⟩
  case round =>
    obtain ⟨k, hk, rfl, HWk, HBk, HAk⟩ := hrel
    by_cases hkn : k < n
    · have hlt : (k : Int) < (n : Int) := by omega
      obtain ⟨b, off, cs, x, rfl, hx, hE, l2⟩ := HI.out.at HWk.out hkn
      obtain ⟨sv, wv, k32, k33, k34, k35, hsv, hwv⟩ := hE.cell
      obtain ⟨ps, ns, cs', rfl⟩ := hsv.opens
      obtain ⟨pw, nw, cw, rfl⟩ := hwv.opens
      obtain ⟨hns, hnsc, hcsm⟩ := hsv.slen
      obtain ⟨hnw, hnwc, hcwm⟩ := hwv.slen
      have hcan : canIn x = (!decide (10000 < ns) && (!decide (100 < nw) && x.wi.all fun b => !decide (10000 < b.length))) := by unfold canIn; rw [hns, hnw]
      have HCAN := Lib.hid hcan
      have HX := Lib.hid hx
      have HWV := Lib.hid hwv
      have HNW := Lib.hid hnw
      have K33 := Lib.hid k33
      have K35 := Lib.hid k35
      have H3 := Lib.hid hE.len
      have H1 := Lib.hid hE.one
      obtain ⟨Z, hZl, hz⟩ := zeroIn
      have HZ := Lib.hid hZl
      have hbr := below_new wr (.cells Z 97)
      clear hx hE k32 k33 k34 k35 hsv hwv hns hnw hcan hZl
      go_upto_region 6 with (first
        | (with_reducible refine wpList_load_mid (op := ⟨some 31, _, _, _, _, _⟩) ?_ 97 (.tmp 30) ?_ (b) (off + k * 36) ?_ (cs) _ (l2) Tryz.underlying97 ?_ ?_ ?_
           · rfl
           · rfl
           · rfl
           · rfl
           · exact ((info_Ins H3.out)))
        | (with_reducible refine wp_store_blk (o := ⟨none, _, _, _, _, _⟩) ?_ 97 (.tmp 4) (.tmp 31) ?_ (wr.heap.size) 97 (Z) (cs.toArray) ?_ ?_ (Blk.new wr _ _) ?_ ?_ ?_ (wr.heap.size) (wr) ?_ ?_ ?_
           · rfl
           · rfl
           · rfl
           · rfl
           · exact (by rw [List.size_toArray]; exact info_Ins H3.out)
           · exact (HZ.out.trans (by rw [List.size_toArray]; exact H3.out.symm))
           · exact (H1.out)
           · exact (hbr)
           · exact (Nat.le_refl _)
           intro w6 hB6 hb6 hg6 hs6))
      have HW6 := Lib.hid (below_fut HWk.out hb6 (Nat.le_refl _))
      have HB6 := Lib.hid (HBk.out.fut hb6)
      have c33 := hB6.cell 33
      have c35 := hB6.cell 35
      rw [List.getElem?_toArray, K33.out] at c33
      rw [List.getElem?_toArray, K35.out] at c35
      clear hb6 hg6 hs6 l2 hz hbr HWk HBk
      by_cases hs : 10000 < ns
      · have hls : (10000 : Int) < (ns : Int) := by omega
        go_wp2_with fail
        go_ret
        exact ⟨by rw [HR.out, canTx_not (all_miss canIn t.is k x HX.out (by rw [HCAN.out]; simp [hs]))]; rfl, HW6.out⟩
      have hls : ¬ (10000 : Int) < (ns : Int) := by omega
      by_cases hw : 100 < nw
      · have hlw : (100 : Int) < (nw : Int) := by omega
        go_wp2_with fail
        go_ret
        exact ⟨by rw [HR.out, canTx_not (all_miss canIn t.is k x HX.out (by rw [HCAN.out]; simp [hw]))]; rfl, HW6.out⟩
      have hlw : ¬ (100 : Int) < (nw : Int) := by omega
      have hw' : nw ≤ 100 := by omega
      have hs' : ns ≤ 10000 := by omega
      go_upto_region 9 with fail
      clear hls hlw hs hw c33 c35
      go_loopw [45] (fun i wr => ∃ j : Nat, j ≤ nw ∧ i = .int .i64 j ∧ wr = w6 ∧ Hid ((x.wi.take j).all (fun b => !decide (10000 < b.length)) = true)) (fun i _ => nw - (intOf i).toNat)
      case atStart => exact ⟨0, by omega, rfl, rfl, Lib.hid rfl⟩
      case round =>
        obtain ⟨j, hj, rfl, hwr, HAj⟩ := hrel
        subst hwr
        by_cases hjn : j < nw
        · have hltj : (j : Int) < (nw : Int) := by omega
          obtain ⟨b2, off2, cs2, y, rfl, hy, ⟨vy, rfl, hsy⟩, l3⟩ := HWV.out.at HW6.out hjn
          obtain ⟨py, ny, cy, rfl⟩ := hsy.opens
          obtain ⟨hny, hnyc, hcym⟩ := hsy.slen
          have cy1 : wr.cell? ⟨b2, off2 + j, none⟩ = some (.slice py ny cy) := by
            have := l3 0 _ rfl
            rwa [Nat.mul_one, Nat.add_zero] at this
          have HY := Lib.hid hy
          have HNY := Lib.hid hny
          clear hy hsy l3 hny
          by_cases hl : 10000 < ny
          · have hll : (10000 : Int) < (ny : Int) := by omega
            go_wp2_with fail
            go_ret
            exact ⟨by rw [HR.out, canTx_not (all_miss canIn t.is k x HX.out (by rw [HCAN.out, all_miss _ x.wi j y HY.out (by rw [HNY.out]; simp [hl])]; simp))]; rfl, HW6.out⟩
          · have hll : ¬ (10000 : Int) < (ny : Int) := by omega
            have hAj := Lib.hid (all_take (fun b : Bs => !decide (10000 < b.length)) x.wi j y HY.out HAj.out (by rw [HNY.out]; simp [hl]))
            go_wp2_with fail
            go_roundw
            case rel => exact ⟨j + 1, by omega, by go_num, trivial, hAj⟩
            case measure => simp [intOf]; omega
        · obtain rfl : j = nw := by omega
          have hall := HAj.out
          rw [List.take_of_length_le (by have := HNW.out; omega)] at hall
          have hAk := Lib.hid (all_take canIn t.is k x HX.out HAk.out (by rw [HCAN.out, hall]; simp; omega))
          clear hall
          go_wp2_with fail
          go_roundw
          case rel => exact ⟨k + 1, by omega, by go_num, HW6, HB6, hAk⟩
          case measure => simp [intOf]; omega
    · obtain rfl : k = n := by omega
      have hall := HAk.out
      rw [List.take_of_length_le (by have := HN.out; omega)] at hall
      have HALL := Lib.hid hall
      have d2 := HBk.out.cell 2
      simp only [List.getElem?_toArray, List.getElem?_cons_zero, List.getElem?_cons_succ] at d2
      clear hall
      go_upto_region 16 with fail
      clear d2
      go_loopw [57] (fun i wr => ∃ k : Nat, k ≤ m ∧ i = .int .i64 k ∧ Hid (Below w.heap.size w wr) ∧ Hid ((t.os.take k).all canOut = true)) (fun i _ => m - (intOf i).toNat)
      case atStart => exact ⟨0, by omega, rfl, HWk, Lib.hid rfl⟩
      case round =>
        obtain ⟨j, hj, rfl, HWj, HAj⟩ := hrel
        by_cases hjm : j < m
        · have hlt : (j : Int) < (m : Int) := by omega
          obtain ⟨b, off, cs, x, rfl, hx, hE, l2⟩ := HO.out.at HWj.out hjm
          have H1 := Lib.hid hE.one
          obtain ⟨sv, rfl, hsv⟩ := hE
          obtain ⟨ps, ns, cs', rfl⟩ := hsv.opens
          obtain ⟨hns, hnsc, hcsm⟩ := hsv.slen
          have hcan : canOut x = (!decide (x.va.toInt < 0) && !decide (10000 < ns)) := by unfold canOut; rw [hns]
          obtain ⟨V, hV⟩ : ∃ V, V = x.va.toInt := ⟨_, rfl⟩
          rw [← hV] at hcan l2 H1
          have HCAN := Lib.hid hcan
          have HX := Lib.hid hx
          obtain ⟨Z, hZl, hz⟩ := zeroOut
          have HZ := Lib.hid hZl
          have hbr := below_new wr (.cells Z 91)
          obtain ⟨cs, hcs⟩ : ∃ cs : List Value, cs = [.int .i64 V, .slice ps ns cs'] := ⟨_, rfl⟩
          rw [← hcs] at l2 H1
          have H3 : Hid (cs.length = 2) := Lib.hid (by rw [hcs]; rfl)
          have HCS := Lib.hid hcs
          clear hx hns hcan hZl hV hcs hsv
          go_upto_region 18 with (first
            | (with_reducible refine wpList_load_mid (op := ⟨some 60, _, _, _, _, _⟩) ?_ 91 (.tmp 59) ?_ (b) (off + j * 2) ?_ (cs) _ (l2) Tryz.underlying91 ?_ ?_ ?_
               · rfl
               · rfl
               · rfl
               · rfl
               · exact ((info_Outs H3.out)))
            | (with_reducible refine wp_store_blk (o := ⟨none, _, _, _, _, _⟩) ?_ 91 (.tmp 8) (.tmp 60) ?_ (wr.heap.size) 91 (Z) (cs.toArray) ?_ ?_ (Blk.new wr _ _) ?_ ?_ ?_ (wr.heap.size) (wr) ?_ ?_ ?_
               · rfl
               · rfl
               · rfl
               · rfl
               · exact (by rw [List.size_toArray]; exact info_Outs H3.out)
               · exact (HZ.out.trans (by rw [List.size_toArray]; exact H3.out.symm))
               · exact (H1.out)
               · exact (hbr)
               · exact (Nat.le_refl _)
               intro w6 hB6 hb6 hg6 hs6))
          have HW6 := Lib.hid (below_fut HWj.out hb6 (Nat.le_refl _))
          have d0 := hB6.cell 0
          have d1 := hB6.cell 1
          rw [List.getElem?_toArray, HCS.out] at d0 d1
          simp only [List.getElem?_cons_zero, List.getElem?_cons_succ] at d0 d1
          clear hb6 hg6 hs6 l2 hz hbr HWj
          by_cases hs : V < 0
          · go_wp2_with fail
            go_ret
            exact ⟨by rw [HR.out, canTx_not2 (all_miss canOut t.os j x HX.out (by rw [HCAN.out]; simp [hs]))]; rfl, HW6.out⟩
          by_cases hw : 10000 < ns
          · have hlw : (10000 : Int) < (ns : Int) := by omega
            go_wp2_with fail
            go_ret
            exact ⟨by rw [HR.out, canTx_not2 (all_miss canOut t.os j x HX.out (by rw [HCAN.out]; simp [hw]))]; rfl, HW6.out⟩
          have hlw : ¬ (10000 : Int) < (ns : Int) := by omega
          have hAj := Lib.hid (all_take canOut t.os j x HX.out HAj.out (by rw [HCAN.out]; simp; omega))
          go_wp2_with fail
          go_roundw
          case rel => exact ⟨j + 1, by omega, by go_num, HW6, hAj⟩
          case measure => simp [intOf]; omega
        · obtain rfl : j = m := by omega
          have hall := HAj.out
          rw [List.take_of_length_le (by have := HM.out; omega)] at hall
          have HALL2 := Lib.hid hall
          clear hall
          go_wp2_with fail
          go_ret
          exact ⟨by rw [HR.out]; unfold canTx; rw [HALL.out, HALL2.out, HN.out, HM.out]; simp; omega, HWj.out⟩
end Go.Proofs.YtndobjlodpkknaaGreatDoor
namespace Go.Proofs.YtndobjlodpkknaaGreatDoor
open Go Go.RowKit
set_option linter.unusedVariables false
def x0 : TIn := ⟨List.replicate 32 0#8, 0#32, [], 0#32, []⟩
def t0 : TTx := ⟨0#32, [x0], [], 0#32⟩
end Go.Proofs.YtndobjlodpkknaaGreatDoor
namespace Go.Proofs.YtndobjlodpkknaaGreatDoor
open Go Go.ChangeShapes Go.WideShapes Go.ChangeAt Go.RowKit
set_option linter.unusedVariables false
theorem open_rowsE {H : Type} {enc : TypeId × Value → H} {W : World} {t e : TypeId} {n : Nat} {α : Type} (E : World → α → List Value → Prop) (hn0 : 0 < n)
    (ht : Tryz.prog.underlying t = some (.slice e)) (hc : Tryz.prog.cellsOf e = n)
    (hel : ∀ (fuel : Nat) (cs : List Value) (x : DataW H × List MemPlace), DataW.trod enc Tryz.prog W 0 (fun _ => true) true fuel e cs = some x → cs.length = n ∧ ∃ y, E W y cs)
    {a0 : Option Addr} {len cap : Nat} {d0 : DataW H} {p : List MemPlace} (h0 : DataW.Trod enc Tryz.prog W 0 (fun _ => true) true t (.slice a0 len cap) d0 p) :
    ∃ ys : List α, ESl E n W (.slice a0 len cap) ys := by
  obtain ⟨css, h1, h2, h3, h4, h5, h6, _⟩ := open_rows (n := n) (fun cs : List Value => cs) (fun cs => cs.length = n ∧ ∃ y, E W y cs) (fun cs h => h.1) hn0 ht hc (fun fuel cs x h => ⟨cs, hel fuel cs x h, rfl⟩) h0
  rw [List.map_id'] at h5
  have key : ∀ (l : List (List Value)), (∀ cs ∈ l, cs.length = n ∧ ∃ y, E W y cs) → ∃ ys : List α, ys.length = l.length ∧ ∀ (i : Nat) (y : α), ys[i]? = some y → ∃ cs, l[i]? = some cs ∧ E W y cs := by
    intro l
    induction l with
    | nil => exact fun _ => ⟨[], rfl, fun i y h => by cases h⟩
    | cons c l ih =>
      intro h
      obtain ⟨y, hy⟩ := (h c (List.mem_cons_self ..)).2
      obtain ⟨ys, g1, g2⟩ := ih fun cs hm => h cs (List.mem_cons_of_mem _ hm)
      refine ⟨y :: ys, by simp [g1], fun i z hz => ?_⟩
      cases i with
      | zero => rw [List.getElem?_cons_zero] at hz; injection hz with hz; subst hz; exact ⟨c, rfl, hy⟩
      | succ i => rw [List.getElem?_cons_succ] at hz; exact g2 i z hz
  obtain ⟨ys, g1, g2⟩ := key css h2
  refine ⟨ys, a0, len, cap, rfl, by omega, h3, h4, fun hn => ?_, h6⟩
  obtain ⟨b, off, rfl, hlt, hc⟩ := h5 (by intro e; rw [e] at g1; exact hn (List.eq_nil_of_length_eq_zero g1))
  refine ⟨b, off, rfl, hlt, fun i x hx => ?_⟩
  obtain ⟨cs, g3, g4⟩ := g2 i x hx
  exact ⟨cs, g4, (hc i cs g3).2⟩
theorem bytes_cell {H : Type} {enc : TypeId × Value → H} {W : World} {fuel : Nat} {cs : List Value} {x : DataW H × List MemPlace} (h : DataW.trod enc Tryz.prog W 0 (fun _ => true) true fuel 28 cs = some x) : ∃ v bs, cs = [v] ∧ Sl W v bs := by
  have hv : ∃ a len cap, cs = [.slice a len cap] := by
    rcases open_ints Tryz.underlying28 Tryz.underlying5 (by kernel_rfl) h with ⟨hcs, _⟩ | ⟨a, len', cap', zs, hcs, _⟩
    · exact ⟨_, _, _, hcs⟩
    · exact ⟨_, _, _, hcs⟩
  obtain ⟨a, len, cap, rfl⟩ := hv
  obtain ⟨bs, q1, q2, q3, q4, q5, _⟩ := open_bytes (enc := enc) (W := W) (d0 := x.1) (p := x.2) Tryz.underlying28 Tryz.underlying5 (by kernel_rfl) ⟨fuel, h⟩
  exact ⟨_, bs, rfl, a, len, cap, rfl, q1, q2, q3, q4, q5⟩
theorem slice_cell {H : Type} {enc : TypeId × Value → H} {W : World} {fuel : Nat} {t e : TypeId} {cs : List Value} {x : DataW H × List MemPlace} (ht : Tryz.prog.underlying t = some (.slice e)) (h : DataW.trod enc Tryz.prog W 0 (fun _ => true) true fuel t cs = some x) : ∃ a len cap, cs = [.slice a len cap] := by
  rcases DataW.trod_slice ht h with ⟨e, _⟩ | ⟨a, len, cap, el, re, m, _, e, _⟩
  · exact ⟨_, _, _, e⟩
  · exact ⟨_, _, _, e⟩
theorem texts_cell {H : Type} {enc : TypeId × Value → H} {W : World} {fuel : Nat} {cs : List Value} {x : DataW H × List MemPlace} (h : DataW.trod enc Tryz.prog W 0 (fun _ => true) true fuel 95 cs = some x) : ∃ v ls, cs = [v] ∧ ESl TextC 1 W v ls := by
  obtain ⟨a, len, cap, rfl⟩ := slice_cell Tryz.underlying95 h
  obtain ⟨ys, hy⟩ := open_rowsE (enc := enc) (W := W) (n := 1) (d0 := x.1) (p := x.2) TextC (by omega) Tryz.underlying95 (by kernel_rfl) (fun fuel cs x h => by
    obtain ⟨v, bs, rfl, hs⟩ := bytes_cell h
    exact ⟨rfl, bs, v, rfl, hs⟩) ⟨fuel, h⟩
  exact ⟨_, ys, rfl, hy⟩
theorem trod_len {H : Type} {enc : TypeId × Value → H} {W : World} {fuel : Nat} {t : TypeId} {fs : Array Field} {cs : List Value} {x : DataW H × List MemPlace} (ht : Tryz.prog.underlying t = some (.struct fs)) (h : DataW.trod enc Tryz.prog W 0 (fun _ => true) true fuel t cs = some x) : cs.length = Tryz.prog.cellsOf t := by
  obtain ⟨_, _, _, _, hl, _⟩ := DataW.trod_struct ht h
  exact hl
theorem point_cells {H : Type} {enc : TypeId × Value → H} {W : World} {fuel : Nat} {cs : List Value} {x : DataW H × List MemPlace} (h : DataW.trod enc Tryz.prog W 0 (fun _ => true) true fuel 94 cs = some x) : ∃ (id : Bs) (ix : BitVec 32), id.length = 32 ∧ cs = hCells id ++ [u32 ix] := by
  have hl : cs.length = 33 := by rw [trod_len Tryz.underlying94 h]; kernel_rfl
  obtain ⟨n0, y0, h0⟩ := trod_fieldH Tryz.underlying94 h 0 _ rfl 32 (by kernel_rfl)
  obtain ⟨n1, y1, h1⟩ := trod_fieldH Tryz.underlying94 h 1 _ rfl 1 (by kernel_rfl)
  obtain ⟨i1, e1, _, w1⟩ := DataW.trod_int Tryz.underlying22 h1
  obtain ⟨p, hp, ep⟩ := trod_bytes Tryz.underlying25 Tryz.underlying5 hashH_cells byteH_cells h0
  obtain ⟨v, rfl⟩ := of32 i1 w1
  refine ⟨p, v, hp, ?_⟩
  have q := parts2 cs 32 1 (by omega)
  have a0 : (cs.drop 0).take 32 = p.map u8 := ep
  have a1 : (cs.drop 32).take 1 = [u32 v] := e1
  rw [a0, a1] at q
  exact q
theorem in_cells {H : Type} {enc : TypeId × Value → H} {W : World} {fuel : Nat} {cs : List Value} {x : DataW H × List MemPlace} (h : DataW.trod enc Tryz.prog W 0 (fun _ => true) true fuel 97 cs = some x) : cs.length = 36 ∧ ∃ y, InC W y cs := by
  have hl : cs.length = 36 := by rw [trod_len Tryz.underlying97 h]; kernel_rfl
  obtain ⟨n0, y0, h0⟩ := trod_fieldH Tryz.underlying97 h 0 _ rfl 33 (by kernel_rfl)
  obtain ⟨n1, y1, h1⟩ := trod_fieldH Tryz.underlying97 h 1 _ rfl 1 (by kernel_rfl)
  obtain ⟨n2, y2, h2⟩ := trod_fieldH Tryz.underlying97 h 2 _ rfl 1 (by kernel_rfl)
  obtain ⟨n3, y3, h3⟩ := trod_fieldH Tryz.underlying97 h 3 _ rfl 1 (by kernel_rfl)
  obtain ⟨id, ix, hid, e0⟩ := point_cells h0
  obtain ⟨sv, bs, e1, hs⟩ := bytes_cell h1
  obtain ⟨i2, e2, _, w2⟩ := DataW.trod_int Tryz.underlying22 h2
  obtain ⟨wv, ls, e3, hw⟩ := texts_cell h3
  obtain ⟨sq, rfl⟩ := of32 i2 w2
  refine ⟨hl, ⟨id, ix, bs, sq, ls⟩, sv, wv, ?_, hid, hs, hw⟩
  have q1 := parts3 cs 33 1 2 (by omega)
  have q2 := parts2 ((cs.drop 34).take 2) 1 1 (by simp; omega)
  have a0 : (cs.drop 0).take 33 = hCells id ++ [u32 ix] := e0
  have a1 : (cs.drop 33).take 1 = [sv] := e1
  have a2 : (((cs.drop 34).take 2).drop 0).take 1 = [u32 sq] := by rw [List.drop_zero, List.take_take]; exact e2
  have a3 : (((cs.drop 34).take 2).drop 1).take 1 = [wv] := by rw [List.drop_take, List.drop_drop, List.take_take]; exact e3
  rw [a2, a3] at q2
  rw [a0, a1, q2] at q1
  rw [q1]
  simp
theorem out_cells {H : Type} {enc : TypeId × Value → H} {W : World} {fuel : Nat} {cs : List Value} {x : DataW H × List MemPlace} (h : DataW.trod enc Tryz.prog W 0 (fun _ => true) true fuel 91 cs = some x) : cs.length = 2 ∧ ∃ y, OutC W y cs := by
  have hl : cs.length = 2 := by rw [trod_len Tryz.underlying91 h]; kernel_rfl
  obtain ⟨n0, y0, h0⟩ := trod_fieldH Tryz.underlying91 h 0 _ rfl 1 (by kernel_rfl)
  obtain ⟨n1, y1, h1⟩ := trod_fieldH Tryz.underlying91 h 1 _ rfl 1 (by kernel_rfl)
  obtain ⟨i0, e0, _, w0⟩ := DataW.trod_int Tryz.underlying2 h0
  obtain ⟨sv, bs, e1, hs⟩ := bytes_cell h1
  have hb : -9223372036854775808 ≤ i0 ∧ i0 ≤ 9223372036854775807 := by simpa [Lit.wf, IntKind.min, IntKind.max, IntKind.signed, IntKind.bits] using w0
  have hi : (BitVec.ofInt 64 i0).toInt = i0 := by rw [BitVec.toInt_ofInt, Int.bmod_eq_of_le (by simp; omega) (by simp; omega)]
  refine ⟨hl, ⟨BitVec.ofInt 64 i0, bs⟩, sv, ?_, hs⟩
  have q := parts2 cs 1 1 (by omega)
  have a0 : (cs.drop 0).take 1 = [.int .i64 i0] := e0
  have a1 : (cs.drop 1).take 1 = [sv] := e1
  rw [a0, a1] at q
  rw [q]
  simp [hi]
theorem tx_cells {H : Type} {enc : TypeId × Value → H} {W : World} {fuel : Nat} {cs : List Value} {x : DataW H × List MemPlace} (h : DataW.trod enc Tryz.prog W 0 (fun _ => true) true fuel 69 cs = some x) : cs.length = 4 ∧ ∃ t, TxC W t cs := by
  have hl : cs.length = 4 := by rw [trod_len Tryz.underlying69 h]; kernel_rfl
  obtain ⟨n0, y0, h0⟩ := trod_fieldH Tryz.underlying69 h 0 _ rfl 1 (by kernel_rfl)
  obtain ⟨n1, y1, h1⟩ := trod_fieldH Tryz.underlying69 h 1 _ rfl 1 (by kernel_rfl)
  obtain ⟨n2, y2, h2⟩ := trod_fieldH Tryz.underlying69 h 2 _ rfl 1 (by kernel_rfl)
  obtain ⟨n3, y3, h3⟩ := trod_fieldH Tryz.underlying69 h 3 _ rfl 1 (by kernel_rfl)
  obtain ⟨i0, e0, _, w0⟩ := DataW.trod_int Tryz.underlying22 h0
  obtain ⟨i3, e3, _, w3⟩ := DataW.trod_int Tryz.underlying22 h3
  obtain ⟨a1, l1, c1, e1⟩ := slice_cell Tryz.underlying66 h1
  obtain ⟨a2, l2, c2, e2⟩ := slice_cell Tryz.underlying67 h2
  obtain ⟨ve, rfl⟩ := of32 i0 w0
  obtain ⟨lo, rfl⟩ := of32 i3 w3
  have e1' : (cs.drop 1).take 1 = [.slice a1 l1 c1] := e1
  have e2' : (cs.drop 2).take 1 = [.slice a2 l2 c2] := e2
  have h1' : DataW.trod enc Tryz.prog W 0 (fun _ => true) true n1 66 ((cs.drop 1).take 1) = some y1 := h1
  have h2' : DataW.trod enc Tryz.prog W 0 (fun _ => true) true n2 67 ((cs.drop 2).take 1) = some y2 := h2
  rw [e1'] at h1'
  rw [e2'] at h2'
  obtain ⟨is, hi⟩ := open_rowsE (enc := enc) (W := W) (d0 := y1.1) (p := y1.2) InC (by omega) Tryz.underlying66 (by kernel_rfl) (fun fuel cs x h => in_cells h) ⟨n1, h1'⟩
  obtain ⟨os, ho⟩ := open_rowsE (enc := enc) (W := W) (d0 := y2.1) (p := y2.2) OutC (by omega) Tryz.underlying67 (by kernel_rfl) (fun fuel cs x h => out_cells h) ⟨n2, h2'⟩
  refine ⟨hl, ⟨ve, is, os, lo⟩, _, _, ?_, hi, ho⟩
  have q1 := parts3 cs 1 1 2 (by omega)
  have q2 := parts2 ((cs.drop 2).take 2) 1 1 (by simp; omega)
  have a0 : (cs.drop 0).take 1 = [u32 ve] := e0
  have b2 : (((cs.drop 2).take 2).drop 0).take 1 = [.slice a2 l2 c2] := by rw [List.drop_zero, List.take_take]; exact e2'
  have b3 : (((cs.drop 2).take 2).drop 1).take 1 = [u32 lo] := by rw [List.drop_take, List.drop_drop, List.take_take]; exact e3
  rw [b2, b3] at q2
  rw [a0, e1', q2] at q1
  rw [q1]
  simp
end Go.Proofs.YtndobjlodpkknaaGreatDoor
namespace Go.Proofs.YtndobjlodpkknaaGreatDoor
open Go Go.RowKit
set_option linter.unusedVariables false
theorem TxC.ok {w : World} {t : TTx} {cs : List Value} (h : TxC w t cs) : okTx t := fun x hx => by
  obtain ⟨iv, ov, _, hi, _⟩ := h
  obtain ⟨cs, hc⟩ := hi.mem hx
  obtain ⟨_, _, _, h1, _⟩ := hc
  exact h1
theorem TxC.one {w : World} {t : TTx} {cs : List Value} (h : TxC w t cs) : cs.toArray.all (·.oneCell') = true := by
  obtain ⟨iv, ov, rfl, hi, ho⟩ := h
  rw [List.all_toArray]
  simp [Value.oneCell']
  exact ⟨hi.one, ho.one⟩
theorem txB_big {t : TTx} (h : canTx t = true) {w : World} {cs : List Value} (hc : TxC w t cs) (m : Bool) : (txB t m).length ≤ 10000000000 := by
  obtain ⟨iv, ov, _, hi, _⟩ := hc
  have h1 := insB_len h hi
  have h2 := outsB_len h
  obtain ⟨_, hn, _, hall, _⟩ := canTx_all h
  have h3 : (witsB t.is).length ≤ 2002000000 := by
    have h1 := flat_le (fun x => witB x.wi) 1001000 t.is (fun y hy => by
      have hy2 := hall y hy
      have h3 := flat_le text 10009 y.wi (fun b hb => text_le (hy2.2.2 b hb))
      have h4 := cntB_len y.wi.length
      unfold witB
      rw [List.length_append]
      have h5 := Nat.mul_le_mul hy2.2.1 (Nat.le_refl 10009)
      omega)
    have h3 := Nat.mul_le_mul hn (Nat.le_refl 1001000)
    unfold witsB
    omega
  unfold txB
  rw [List.length_append, List.length_append, List.length_append, List.length_append, List.length_append]
  cases m
  · simp [le32_len]; omega
  · simp [le32_len]; omega
end Go.Proofs.YtndobjlodpkknaaGreatDoor
namespace Go.Proofs.YtndobjlodpkknaaGreatDoor
open Go Go.RowKit
set_option linter.unusedVariables false
theorem bEqual_any (u v : Value) (x : Bs) (w : World) (h1 : Sl w u x) (h2 : Sl w v x) : Calls Tryz.prog 8 #[u, v] w fun e w' => e = .returned (.bool true) ∧ w' = w := by
  obtain ⟨p, n, c, rfl, hn, _, _, hr, _⟩ := h1
  obtain ⟨q, m, d, rfl, hm, _, _, hs, _⟩ := h2
  exact equal_same p q n c m d x w hr hs hn hm
theorem ESl.lt {α : Type} {E : World → α → List Value → Prop} {N : Nat} {w W : World} {b off n c k : Nat} {xs : List α} (h : ESl E N w (.slice (some ⟨b, off, none⟩) n c) xs) (hb : Below w.heap.size w W) (hk : k < n) : b < W.heap.size := by
  obtain ⟨p', n', c', e, h1, h2, h3, h4, h5⟩ := h
  injection e with e1 e2 e3
  subst e1 e2 e3
  obtain ⟨b', off', e, hlt, _⟩ := h4 (by intro e; rw [e] at h1; simp at h1; omega)
  injection e with e
  injection e with e1 e2
  subst e1
  exact Nat.lt_of_lt_of_le hlt hb.size
end Go.Proofs.YtndobjlodpkknaaGreatDoor
