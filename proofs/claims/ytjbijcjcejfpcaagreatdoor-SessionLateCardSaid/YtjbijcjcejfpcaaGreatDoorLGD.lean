/- The reader of transactions: take, num, must, text. · The reader of transactions: parts. · The reader of transactions: an input, an output. · The reader of transactions: an output; rows in which an element is written. · The reader of transactions: a whole one. · tx.Decode: the walk; a reader's panic is caught. · sporranref07.Can, has: the walks. · A small transaction is written (the laws' awake). · A transaction read as data (a row's argument). · sporranlaw07.TxShort: the walk. · sporranplain.SameTx: what says the same is the same.  -/
import Derived.WalkSmall
import Derived.Defers
import Derived.Recover
import Derived.Test.YtjbijcjcejfpcaaGreatDoorLGT
import Derived.Test.YtjbijcjcejfpcaaGreatDoorLGB
namespace Go.Proofs.YtjbijcjcejfpcaaGreatDoor
open Go Go.RowKit
set_option linter.unusedVariables false
theorem addr_add0 (a : Addr) : a.add 0 = a := by
  obtain ⟨b, o, i⟩ := a
  unfold Addr.add
  split <;> simp_all
theorem slice_hm8 (w : World) (p : Option Addr) (m c k : Nat) (h : k ≤ m) (h2 : m ≤ c) :
    (Instr.sliceAt 26 (.slice p m c) none (some (.int .i64 (k : Int))) (some (.int .i64 (k : Int)))).run Tryz.prog w = .ok (.slice p k k) w := by
  have hu : Tryz.prog.underlying 26 = some (.slice (Tryz.prog.elem 26)) := by kernel_rfl
  have hs : (sizeOf (Tryz.prog.elem 26)).run Tryz.prog w = .ok 1 w := by kernel_rfl
  rw [run_sliceAt_slice w _ _ _ _ _ hu, run_slice_hm w _ _ _ _ hu _ _ _ _ (by omega) (by omega) (by omega)]
  rw [hs]
  have e : p.map (fun x => x.add 0) = p := by
    cases p with
    | none => rfl
    | some a => rw [Option.map_some, addr_add0]
  simp [Result.andThen, sliced, e]
theorem Dat.open {B g : Nat} {w : World} {v : Value} {s : Bs} (h : Dat B g w v s) : ∃ p n c, v = .slice p n c ∧ s.length = n ∧ n ≤ c ∧ c ≤ 9223372036854775807 ∧ Row8 w p s ∧ (p = none → c = 0) := by
  obtain ⟨⟨p, n, c, rfl, h1, h2, h3, h4, h5⟩, _⟩ := h
  exact ⟨p, n, c, rfl, h1, h2, by unfold maxLen at h3; omega, h4, h5⟩
theorem Dat.take {B g : Nat} {w : World} {p : Option Addr} {n c k : Nat} {s : Bs} (h : Dat B g w (.slice p n c) s) (hk : k ≤ n) (hp : p = none → c = 0) : Dat B g w (.slice p k k) (s.take k) := by
  obtain ⟨⟨p', n', c', e, h1, h2, h3, h4, h5⟩, h6⟩ := h
  injection e with e1 e2 e3
  subst e1 e2 e3
  exact ⟨⟨p, k, k, rfl, by rw [List.length_take]; omega, Nat.le_refl _, by omega, h4.take k, fun e => by have := h5 e; omega⟩, fun h0 j hj => h6 (fun e => h0 (by rw [e, List.take_nil])) j (by rw [own_slice] at hj ⊢; exact hj)⟩
theorem Dat.cut {B g : Nat} {w : World} {p : Option Addr} {n c k : Nat} {s : Bs} (h : Dat B g w (.slice p n c) s) (hk : k ≤ n) : Dat B g w (.slice (cut8 p c k) (n - k) (c - k)) (s.drop k) := by
  obtain ⟨⟨p', n', c', e, h1, h2, h3, h4, h5⟩, h6⟩ := h
  injection e with e1 e2 e3
  subst e1 e2 e3
  refine ⟨⟨_, _, _, rfl, by rw [List.length_drop]; omega, by omega, by omega, ?_, fun e => ?_⟩, fun h0 j hj => h6 (fun e => h0 (by rw [e, List.drop_nil])) j ?_⟩
  · exact h4.drop (by omega)
  · unfold cut8 at e
    split at e
    · omega
    · cases p with
      | none => have := h5 rfl; omega
      | some a => cases e
  · rw [own_slice] at hj ⊢
    rw [own_cut8] at hj
    exact hj
theorem Dat.own {B g : Nat} {w : World} {v : Value} {s : Bs} (h : Own8 w B v s) (hg : g < B) : Dat B g w v s := by
  refine ⟨h.sl, fun _ k hk => ?_⟩
  rcases h.2 with ⟨rfl, _⟩ | ⟨q, cap, cur, rfl, hB, hh, _⟩
  · cases hk
  · injection hk with hk
    subst hk
    exact ⟨by have : B ≤ q := hB; simp only; omega, .inr ⟨cur, hh⟩⟩
theorem RdAt.move {B g : Nat} {w : World} {v v' : Value} {s' : Bs} (h : Blk w g 230 #[v]) (hd : Dat B g w v' s') (hl : s'.length ≤ 200000000000000) (hg : g < B) (hB : B ≤ w.heap.size) : RdAt B g (w.setCell ⟨g, 0, none⟩ v') s' := by
  refine ⟨v', ?_, hd.stays (Stays.set w g 0 v') (fun k hk => .inl hk), hl, hg, by simpa using hB⟩
  have := h.set 0 v'
  simpa using this
end Go.Proofs.YtjbijcjcejfpcaaGreatDoor
namespace Go.Proofs.YtjbijcjcejfpcaaGreatDoor
open Go Go.RowKit
set_option linter.unusedVariables false
theorem InO.len {B : Nat} {w : World} {x : TIn} {cs : List Value} (h : InO B w x cs) : cs.length = 36 := h.c.len
theorem OutO.len {B : Nat} {w : World} {x : TOut} {cs : List Value} (h : OutO B w x cs) : cs.length = 2 := h.c.len
theorem TextO.len {B : Nat} {w : World} {x : Bs} {cs : List Value} (h : TextO B w x cs) : cs.length = 1 := by obtain ⟨v, rfl, _⟩ := h; rfl
theorem InO.one {B : Nat} {w : World} {x : TIn} {cs : List Value} (h : InO B w x cs) : cs.toArray.all (·.oneCell') = true := h.c.one
theorem OutO.one {B : Nat} {w : World} {x : TOut} {cs : List Value} (h : OutO B w x cs) : cs.toArray.all (·.oneCell') = true := h.c.one
theorem one_all {cs : List Value} (h : cs.toArray.all (·.oneCell') = true) : ∀ u ∈ cs, u.oneCell' = true := fun u hu => by
  rw [List.all_toArray, List.all_eq_true] at h
  exact h u hu
theorem TextO.one {B : Nat} {w : World} {x : Bs} {cs : List Value} (h : TextO B w x cs) : cs.toArray.all (·.oneCell') = true := by
  obtain ⟨v, rfl, h1⟩ := h
  rw [List.all_toArray]
  simp [h1.sl.one]
end Go.Proofs.YtjbijcjcejfpcaaGreatDoor
namespace Go.Proofs.YtjbijcjcejfpcaaGreatDoor
open Go Go.RowKit
set_option linter.unusedVariables false
def ZIn : Array Value := (List.replicate 32 (Value.int .u8 0) ++ [Value.int .u32 0, Value.slice none 0 0, Value.int .u32 0, Value.slice none 0 0]).toArray
def inCells (id : Bs) (ix : BitVec 32) (sc sq wi : Value) : List Value := hCells id ++ [u32 ix, sc, sq, wi]
theorem row_range {w : World} {b o : Nat} {bs : Bs} (h : Row8 w (some ⟨b, o, none⟩) bs) : w.rangeAt b o (hCells bs) := fun j v hj => by
  rw [hCells, List.getElem?_map] at hj
  cases hx : bs[j]? with
  | none => rw [hx] at hj; cases hj
  | some x =>
    rw [hx] at hj
    injection hj with hj
    obtain ⟨b', o', e, _, hc⟩ := h (fun e => by rw [e] at hx; cases hx)
    injection e with e
    injection e with e1 e2
    subst e1 e2
    rw [hc j x hx, ← hj]
theorem run_arr32 (w : World) (b o c : Nat) : (Instr.arrayAt 32 (.slice (some ⟨b, o, none⟩) 32 c)).run Tryz.prog w = .ok (.pointer (some ⟨b, o, none⟩)) w := by
  simp [Instr.arrayAt, run_underlying Tryz.underlying32]
def Stable (g : Nat) (F : World → Prop) : Prop := ∀ W W', F W → Stays (· = g) W W' → F W'
theorem Stable.and {g : Nat} {F F' : World → Prop} (h : Stable g F) (h' : Stable g F') : Stable g (fun W => F W ∧ F' W) := fun W W' hF hs => ⟨h W W' hF.1 hs, h' W W' hF.2 hs⟩
theorem Stable.blk {g z : Nat} {t : TypeId} {cs : Array Value} (h : z ≠ g) : Stable g (fun W => Blk W z t cs) := fun W W' hF hs => hF.stays hs h
theorem Stable.stays {g : Nat} (w : World) : Stable g (fun W => Stays (· = g) w W) := fun W W' hF hs => hF.trans hs fun k _ hk => hk
theorem Stable.fut {g : Nat} {F : World → Prop} (h : Stable g F) {W W' : World} (hF : F W) (hb : Below W.heap.size W W') : F W' := h W W' hF (Stays.of_below hb (Nat.le_refl _) _)
theorem Dat.range {B g : Nat} {w : World} {b o n c : Nat} {bs : Bs} (h : Dat B g w (.slice (some ⟨b, o, none⟩) n c) bs) : w.rangeAt b o (hCells bs) := by
  obtain ⟨p, n', c', e, _, _, _, hr, _⟩ := h.open
  injection e with e
  subst e
  exact row_range hr
theorem sep_one {B z : Nat} {Ts : List TypeId} {T : TypeId} {cs : Array Value} {w : World} (h : Blk w z T cs) (hT : T ∉ Ts) : Sep B Ts w (· = z) := fun k hk => .inr ⟨T, cs, (show k = z from hk) ▸ h, hT⟩
def InMid (B g : Nat) (w : World) (s : Bs) (e : Exit) (a : Act) (W : World) : Prop := match e with
  | .normal => ∃ id r1 ix r2 z3, Hid (takeZ 32 s = .ok (id, r1)) ∧ Hid (numZ 4 r1 = .ok (ix, r2)) ∧ Hid (id.length = 32) ∧ Hid (RdAt B g W r2) ∧ Hid (Stays (· = g) w W) ∧ Hid (Blk W w.heap.size 209 ZIn) ∧ Hid (Blk W z3 209 (inCells id (ix.setWidth 32) (.slice none 0 0) (.int .u32 0) (.slice none 0 0)).toArray) ∧ Hid (w.heap.size < z3) ∧
      ∃ u1 u4 u5 u6 u7 u8 u9 u10 u11 u12 u13 u14 u15 u16 u17 u18 u19 u20, a = ⟨#[.pointer (some ⟨g, 0, none⟩), u1, .pointer (some ⟨w.heap.size, 0, none⟩), .pointer (some ⟨z3, 0, none⟩), u4, u5, u6, u7, u8, u9, u10, u11, u12, u13, u14, u15, u16, u17, u18, u19, u20], []⟩
  | .panic c => ∃ k, Hid (inZ s = .error k) ∧ c = [{ v := .iface 27 (.int .i64 k), recovered := false }] ∧ Hid (Stays (· = g) w W) ∧ a.defers = []
  | _ => False
theorem InMid.put {B g : Nat} {w : World} {s : Bs} (c : List PanicEntry) (a : Act) (d : Option Nat) (v : Value) (W : World) (h : InMid B g w s (.panic c) (a.put d v) W) : InMid B g w s (.panic c) a W := by
  obtain ⟨k, h1, h2, h3, h4⟩ := h
  exact ⟨k, h1, h2, h3, by cases a; cases d <;> exact h4⟩
end Go.Proofs.YtjbijcjcejfpcaaGreatDoor
namespace Go.Proofs.YtjbijcjcejfpcaaGreatDoor
open Go Go.RowKit
set_option linter.unusedVariables false
theorem flat_set (N : Nat) : ∀ (css : List (List Value)), (∀ cs ∈ css, cs.length = N) → ∀ (i : Nat) (cs : List Value), css[i]? = some cs → ∀ j, j < N → ∀ u, css.flatten.set (i * N + j) u = (css.set i (cs.set j u)).flatten
  | [], _, i, cs, h, j, hj, u => by cases h
  | c :: css, hl, i, cs, h, j, hj, u => by
    have hc := hl c (List.mem_cons_self ..)
    cases i with
    | zero =>
      rw [List.getElem?_cons_zero] at h
      injection h with h
      subst h
      rw [List.flatten_cons, Nat.zero_mul, Nat.zero_add, List.set_append_left _ _ (by omega), List.set_cons_zero, List.flatten_cons]
    | succ i =>
      rw [List.getElem?_cons_succ] at h
      rw [List.flatten_cons, List.set_append_right _ _ (by rw [Nat.succ_mul]; omega), hc, Nat.succ_mul, show i * N + N + j - N = i * N + j by omega, List.set_cons_succ, List.flatten_cons, flat_set N css (fun cs h => hl cs (List.mem_cons_of_mem _ h)) i cs h j hj u]
theorem RowO.poke {α : Type} {E : World → α → List Value → Prop} {T N B : Nat} {Ts : List TypeId} {w : World} {b n c k j : Nat} {xs : List α} (h : RowO E T N B w (.slice (some ⟨b, 0, none⟩) n c) xs) (hE : KeepsO B Ts E) (hT : T ∉ Ts) {x x' : α} {u : Value} (hx : xs[k]? = some x) (hj : j < N)
    (hx' : ∀ cs, E w x cs → cs.length = N → E (w.setCell ⟨b, k * N + j, none⟩ u) x' (cs.set j u)) :
    (∃ cur, Blk w b T cur ∧ B ≤ b ∧ k * N + j < cur.size) ∧ RowO E T N B (w.setCell ⟨b, k * N + j, none⟩ u) (.slice (some ⟨b, 0, none⟩) n c) (xs.set k x') := by
  obtain ⟨css, h1, h2, h3⟩ := h
  have hk : k < xs.length := (List.getElem?_eq_some_iff.1 hx).1
  have hl := css_len h1 h3
  rcases h2.2 with ⟨e, _⟩ | ⟨g, cap, cur, e, hB, hh, hc1, hc2, hsz, htk⟩
  · cases e
  · injection e with e1 e2 e3
    injection e1 with e1
    injection e1 with e1
    subst e1 e2 e3
    have hb : Blk w b T cur := hh
    have hlt : k * N + j < xs.length * N := by
      have := Nat.mul_le_mul_right N (show k + 1 ≤ xs.length by omega)
      rw [Nat.succ_mul] at this
      omega
    have hcN := Nat.mul_le_mul_right N hc1
    have hst := Stays.set w b (k * N + j) u
    have hsep : Sep B Ts w (· = b) := sep_one hb hT
    obtain ⟨cs0, h40, h50, h60⟩ := h3 k x hx
    refine ⟨⟨cur, hb, hB, by omega⟩, css.set k (cs0.set j u), by simp [h1], ⟨?_, .inr ⟨b, c, cur.setIfInBounds (k * N + j) u, by simp, hB, hb.set _ _, ?_, hc2, ?_, ?_⟩⟩, fun i y hy => ?_⟩
    · rw [← flat_set N css hl k cs0 h40 j hj u, List.length_set, List.length_set]
      exact h2.1
    · rw [List.length_set]; exact hc1
    · rw [Array.size_setIfInBounds]; exact hsz
    · rw [List.length_set, ← flat_set N css hl k cs0 h40 j hj u, ← htk, Array.toList_setIfInBounds, List.take_set]
    · by_cases hik : i = k
      · subst hik
        rw [List.getElem?_set_self hk] at hy
        injection hy with hy
        subst hy
        exact ⟨cs0.set j u, by rw [List.getElem?_set_self (by omega)], hx' cs0 h50 h60, by rw [List.length_set]; exact h60⟩
      · rw [List.getElem?_set_ne (by omega)] at hy
        obtain ⟨cs, h4, h5, h6⟩ := h3 i y hy
        exact ⟨cs, by rw [List.getElem?_set_ne (by omega)]; exact h4, hE _ _ _ _ _ h5 hst hsep, h6⟩
end Go.Proofs.YtjbijcjcejfpcaaGreatDoor
namespace Go.Proofs.YtjbijcjcejfpcaaGreatDoor
open Go Go.RowKit
set_option linter.unusedVariables false
theorem RowO.blk {α : Type} {E : World → α → List Value → Prop} {T N B b n c : Nat} {w : World} {xs : List α} (h : RowO E T N B w (.slice (some ⟨b, 0, none⟩) n c) xs) : ∃ cur, Blk w b T cur ∧ B ≤ b ∧ cur.size = c * N ∧ n ≤ c := by
  obtain ⟨css, g1, g2, g3⟩ := h
  rcases g2.2 with ⟨e', _⟩ | ⟨b', cap, cur', e', hBb, hh, hc1, _, hsz, _⟩
  · cases e'
  · injection e' with e1 e2 e3
    injection e1 with e1
    injection e1 with e1
    subst e1 e2 e3
    exact ⟨cur', hh, hBb, hsz, hc1⟩
end Go.Proofs.YtjbijcjcejfpcaaGreatDoor
namespace Go.Proofs.YtjbijcjcejfpcaaGreatDoor
open Go Go.RowKit
set_option linter.unusedVariables false
theorem RowO.mono {α : Type} {E E' : World → α → List Value → Prop} {T N B B' : Nat} {w : World} {v : Value} {xs : List α} (h : RowO E T N B w v xs) (hE : ∀ x cs, E w x cs → E' w x cs) (hB : B' ≤ B) : RowO E' T N B' w v xs := by
  obtain ⟨css, h1, h2, h3⟩ := h
  refine ⟨css, h1, ownsRow_mono h2 hB, fun i x hx => ?_⟩
  obtain ⟨cs, h4, h5, h6⟩ := h3 i x hx
  exact ⟨cs, h4, hE _ _ h5, h6⟩
theorem TextO.mono {B B' : Nat} {w : World} {x : Bs} {cs : List Value} (h : TextO B w x cs) (hB : B' ≤ B) : TextO B' w x cs := by obtain ⟨v, h1, h2⟩ := h; exact ⟨v, h1, ownsRow_mono h2 hB⟩
theorem InO.mono {B B' : Nat} {w : World} {x : TIn} {cs : List Value} (h : InO B w x cs) (hB : B' ≤ B) : InO B' w x cs := by obtain ⟨sv, wv, h1, h2, h3, h4⟩ := h; exact ⟨sv, wv, h1, h2, ownsRow_mono h3 hB, h4.mono (fun _ _ h => h.mono hB) hB⟩
theorem OutO.mono {B B' : Nat} {w : World} {x : TOut} {cs : List Value} (h : OutO B w x cs) (hB : B' ≤ B) : OutO B' w x cs := by obtain ⟨sv, h1, h2⟩ := h; exact ⟨sv, h1, ownsRow_mono h2 hB⟩
theorem TxO.mono {B B' : Nat} {w : World} {x : TTx} {cs : List Value} (h : TxO B w x cs) (hB : B' ≤ B) : TxO B' w x cs := by obtain ⟨iv, ov, h1, h2, h3⟩ := h; exact ⟨iv, ov, h1, h2.mono (fun _ _ h => h.mono hB) hB, h3.mono (fun _ _ h => h.mono hB) hB⟩
end Go.Proofs.YtjbijcjcejfpcaaGreatDoor
namespace Go.Proofs.YtjbijcjcejfpcaaGreatDoor
open Go Go.RowKit
set_option linter.unusedVariables false
theorem ESl.at {α : Type} {E : World → α → List Value → Prop} {N : Nat} {w W : World} {p : Option Addr} {n c k : Nat} {xs : List α} (h : ESl E N w (.slice p n c) xs) (hb : Below w.heap.size w W) (hk : k < n) : ∃ b off cs x, p = some ⟨b, off, none⟩ ∧ xs[k]? = some x ∧ E w x cs ∧ W.rangeAt b (off + k * N) cs := by
  obtain ⟨p', n', c', e, h1, h2, h3, h4, h5⟩ := h
  injection e with e1 e2 e3
  subst e1 e2 e3
  have hx := List.getElem?_eq_getElem (l := xs) (i := k) (by omega)
  obtain ⟨b, off, rfl, hlt, hc⟩ := h4 (by intro e; subst e; simp at h1; omega)
  obtain ⟨cs, h6, h7⟩ := hc k _ hx
  exact ⟨b, off, cs, _, rfl, hx, h6, range_fut h7 hb hlt⟩
theorem ESl.slen {α : Type} {E : World → α → List Value → Prop} {N : Nat} {w : World} {p : Option Addr} {n c : Nat} {xs : List α} (h : ESl E N w (.slice p n c) xs) : xs.length = n ∧ n ≤ c ∧ c ≤ 9223372036854775807 := by
  obtain ⟨p', n', c', e, h1, h2, h3, h4, h5⟩ := h
  injection e with e1 e2 e3
  subst e1 e2 e3
  exact ⟨h1, h2, by unfold maxLen at h3; omega⟩
theorem ESl.opens {α : Type} {E : World → α → List Value → Prop} {N : Nat} {w : World} {v : Value} {xs : List α} (h : ESl E N w v xs) : ∃ p n c, v = .slice p n c := by
  obtain ⟨p', n', c', e, _⟩ := h
  exact ⟨_, _, _, e⟩
theorem Sl.slen {w : World} {p : Option Addr} {n c : Nat} {bs : Bs} (h : Sl w (.slice p n c) bs) : bs.length = n ∧ n ≤ c ∧ c ≤ 9223372036854775807 := by
  obtain ⟨p', n', c', e, h1, h2, h3, h4, h5⟩ := h
  injection e with e1 e2 e3
  subst e1 e2 e3
  exact ⟨h1, h2, by unfold maxLen at h3; omega⟩
theorem Sl.opens {w : World} {v : Value} {bs : Bs} (h : Sl w v bs) : ∃ p n c, v = .slice p n c := by
  obtain ⟨p', n', c', e, _⟩ := h
  exact ⟨_, _, _, e⟩
end Go.Proofs.YtjbijcjcejfpcaaGreatDoor
namespace Go.Proofs.YtjbijcjcejfpcaaGreatDoor
open Go Go.RowKit
set_option linter.unusedVariables false
def x0 : TIn := ⟨List.replicate 32 0#8, 0#32, [], 0#32, []⟩
def t0 : TTx := ⟨0#32, [x0], [], 0#32⟩
end Go.Proofs.YtjbijcjcejfpcaaGreatDoor
namespace Go.Proofs.YtjbijcjcejfpcaaGreatDoor
open Go Go.RowKit
set_option linter.unusedVariables false
theorem TxC.ok {w : World} {t : TTx} {cs : List Value} (h : TxC w t cs) : okTx t := fun x hx => by
  obtain ⟨iv, ov, _, hi, _⟩ := h
  obtain ⟨cs, hc⟩ := hi.mem hx
  obtain ⟨_, _, _, h1, _⟩ := hc
  exact h1
theorem TxC.one {w : World} {t : TTx} {cs : List Value} (h : TxC w t cs) : cs.toArray.all (·.oneCell') = true := by
  obtain ⟨iv, ov, rfl, hi, ho⟩ := h
  rw [List.all_toArray]
  simp [Value.oneCell']
  exact ⟨hi.one, ho.one⟩
end Go.Proofs.YtjbijcjcejfpcaaGreatDoor
namespace Go.Proofs.YtjbijcjcejfpcaaGreatDoor
open Go Go.RowKit
set_option linter.unusedVariables false
theorem ESl.lt {α : Type} {E : World → α → List Value → Prop} {N : Nat} {w W : World} {b off n c k : Nat} {xs : List α} (h : ESl E N w (.slice (some ⟨b, off, none⟩) n c) xs) (hb : Below w.heap.size w W) (hk : k < n) : b < W.heap.size := by
  obtain ⟨p', n', c', e, h1, h2, h3, h4, h5⟩ := h
  injection e with e1 e2 e3
  subst e1 e2 e3
  obtain ⟨b', off', e, hlt, _⟩ := h4 (by intro e; rw [e] at h1; simp at h1; omega)
  injection e with e
  injection e with e1 e2
  subst e1
  exact Nat.lt_of_lt_of_le hlt hb.size
end Go.Proofs.YtjbijcjcejfpcaaGreatDoor
