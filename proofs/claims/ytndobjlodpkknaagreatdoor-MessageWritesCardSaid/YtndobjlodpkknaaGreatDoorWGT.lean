/- Transactions, plain: their bytes, and what bytes say. · Reading, plain: parsers over bytes; what a transaction's bytes say; there and back, once, cut short. · Transactions in memory; slices.ContainsFunc at inputs, outputs and texts. · tx.Can, tx.witnessed: the walks. · tx.low, tx.text, tx.out, tx.in: bytes behind others. · tx.list: a count, and parts, behind others. · tx.Encode: the walk. · tx.Encode: the walk. · Inputs, outputs, texts in memory of one's own; a reader's bytes; what a reading call leaves.  -/
import Derived.Shelf.SlicesQ.Load
import Derived.Test.YtndobjlodpkknaaGreatDoorWGH
import Derived.Test.YtndobjlodpkknaaGreatDoorWGZ
import Derived.Test.YtndobjlodpkknaaGreatDoorWGB
namespace Go.Proofs.YtndobjlodpkknaaGreatDoor
set_option linter.unusedVariables false
abbrev Bs := List (BitVec 8)
structure TIn where
  id : Bs
  ix : BitVec 32
  sc : Bs
  sq : BitVec 32
  wi : List Bs
structure TOut where
  va : BitVec 64
  sc : Bs
structure TTx where
  ve : BitVec 32
  is : List TIn
  os : List TOut
  lo : BitVec 32
def canIn (x : TIn) : Bool := !decide (10000 < x.sc.length) && (!decide (100 < x.wi.length) && x.wi.all fun b => !decide (10000 < b.length))
def canOut (x : TOut) : Bool := !decide (x.va.toInt < 0) && !decide (10000 < x.sc.length)
def canTx (t : TTx) : Bool := decide (0 < t.is.length) && (decide (t.is.length ≤ 2000) && (decide (t.os.length ≤ 2000) && (t.is.all canIn && t.os.all canOut)))
def hasWs (l : List TIn) : Bool := l.any fun x => decide (0 < x.wi.length)
def cntB (n : Nat) : Bs := enc (BitVec.ofNat 64 n)
def inB (x : TIn) : Bs := x.id ++ (le32 x.ix ++ (text x.sc ++ le32 x.sq))
def outB (x : TOut) : Bs := low x.va 8 ++ text x.sc
def witB (l : List Bs) : Bs := cntB l.length ++ (l.map text).flatten
def insB (l : List TIn) : Bs := cntB l.length ++ (l.map inB).flatten
def outsB (l : List TOut) : Bs := cntB l.length ++ (l.map outB).flatten
def witsB (l : List TIn) : Bs := (l.map fun x => witB x.wi).flatten
def txB (t : TTx) (m : Bool) : Bs := le32 t.ve ++ ((if m then [0#8, 1#8] else []) ++ (insB t.is ++ (outsB t.os ++ ((if m then witsB t.is else []) ++ le32 t.lo))))
def txP (t : TTx) (wit : Bool) : Bs × Int := if canTx t then (txB t (wit && hasWs t.is), 0) else ([], 1)
end Go.Proofs.YtndobjlodpkknaaGreatDoor
namespace Go.Proofs.YtndobjlodpkknaaGreatDoor
set_option linter.unusedVariables false
def Pz (α : Type) := Bs → Except Int (α × Bs)
def Pz.ret {α : Type} (a : α) : Pz α := fun s => .ok (a, s)
def Pz.fail {α : Type} (e : Int) : Pz α := fun _ => .error e
def Pz.bind {α β : Type} (p : Pz α) (f : α → Pz β) : Pz β := fun s => match p s with
  | .error e => .error e
  | .ok (a, r) => f a r
def takeZ (n : Nat) : Pz Bs := fun s => if s.length < n then .error 50 else .ok (s.take n, s.drop n)
def numZ (w : Nat) : Pz (BitVec 64) := (takeZ w).bind fun b => Pz.ret (numTo b w)
def cntZ (most : Nat) : Pz Nat := fun s => if (cutP s).2.2 ≠ 0 then .error (cutP s).2.2 else if most < (cutP s).1.toNat then .error 4 else .ok ((cutP s).1.toNat, (cutP s).2.1)
def textZ : Pz Bs := (cntZ 10000).bind takeZ
def manyZ {α : Type} (p : Pz α) : Nat → Pz (List α)
  | 0 => Pz.ret []
  | n + 1 => p.bind fun a => (manyZ p n).bind fun l => Pz.ret (a :: l)
def partsZ {α : Type} (most : Nat) (p : Pz α) : Pz (List α) := (cntZ most).bind (manyZ p)
def inZ : Pz TIn := (takeZ 32).bind fun id => (numZ 4).bind fun ix => textZ.bind fun sc => (numZ 4).bind fun sq => Pz.ret ⟨id, ix.setWidth 32, sc, sq.setWidth 32, []⟩
def outZ : Pz TOut := (numZ 8).bind fun v => if 9223372036854775808 ≤ v.toNat then Pz.fail 51 else textZ.bind fun sc => Pz.ret ⟨v, sc⟩
def witsZ : List TIn → Pz (List TIn)
  | [] => Pz.ret []
  | x :: xs => (partsZ 100 textZ).bind fun w => (witsZ xs).bind fun l => Pz.ret ({ x with wi := w } :: l)
def insZ : Pz (List TIn) := (cntZ 2000).bind fun n => if n = 0 then Pz.fail 51 else manyZ inZ n
def markZ : Pz Bool := fun s => if s[0]? = some 0#8 then (takeZ 2).bind (fun b => if b[1]? = some 1#8 then Pz.ret true else Pz.fail 51) s else .ok (false, s)
def witZ (m : Bool) (is : List TIn) : Pz (List TIn) := if m then (witsZ is).bind fun l => if hasWs l then Pz.ret l else Pz.fail 51 else Pz.ret is
def bodyZ (ve : BitVec 64) (m : Bool) : Pz TTx := insZ.bind fun is => (partsZ 2000 outZ).bind fun os => (witZ m is).bind fun is' => (numZ 4).bind fun lo => Pz.ret ⟨ve.setWidth 32, is', os, lo.setWidth 32⟩
def txZ : Pz TTx := (numZ 4).bind fun ve => markZ.bind (bodyZ ve)
theorem Pz.bind_ok {α β : Type} {p : Pz α} {f : α → Pz β} {s r : Bs} {a : α} (h : p s = .ok (a, r)) : p.bind f s = f a r := by unfold Pz.bind; rw [h]
theorem Pz.bind_err {α β : Type} {p : Pz α} {f : α → Pz β} {s : Bs} {e : Int} (h : p s = .error e) : p.bind f s = .error e := by unfold Pz.bind; rw [h]
theorem Pz.bind_inv {α β : Type} {p : Pz α} {f : α → Pz β} {s r : Bs} {b : β} (h : p.bind f s = .ok (b, r)) : ∃ a r', p s = .ok (a, r') ∧ f a r' = .ok (b, r) := by
  unfold Pz.bind at h
  cases hp : p s with
  | error e => rw [hp] at h; cases h
  | ok x => obtain ⟨a, r'⟩ := x; rw [hp] at h; exact ⟨a, r', rfl, h⟩
def Reads {α : Type} (p : Pz α) (x : α) (b : Bs) : Prop := ∀ r, p (b ++ r) = .ok (x, r)
theorem Reads.ret {α : Type} (a : α) : Reads (Pz.ret a) a [] := fun r => rfl
theorem Reads.bind {α β : Type} {p : Pz α} {f : α → Pz β} {a : α} {x : β} {b c : Bs} (h : Reads p a b) (h2 : Reads (f a) x c) : Reads (p.bind f) x (b ++ c) := fun r => by
  rw [List.append_assoc, Pz.bind_ok (h _)]
  exact h2 r
def okTx (t : TTx) : Prop := ∀ x ∈ t.is, x.id.length = 32
def Cuts {α : Type} (p : Pz α) : Prop := ∀ s x r, p s = .ok (x, r) → ∃ a, s = a ++ r ∧ (∀ t, p (a ++ t) = .ok (x, t)) ∧ ∀ a' c, a = a' ++ c → c ≠ [] → p a' = .error 50
theorem Cuts.ret {α : Type} (a : α) : Cuts (Pz.ret a) := fun s x r h => by
  unfold Pz.ret at h
  injection h with h
  injection h with e1 e2
  subst e1 e2
  refine ⟨[], rfl, fun t => rfl, fun a' c h hc => ?_⟩
  obtain ⟨_, h2⟩ := List.append_eq_nil_iff.1 h.symm
  exact absurd h2 hc
theorem Cuts.fail {α : Type} (e : Int) : Cuts (Pz.fail (α := α) e) := fun s x r h => by cases h
theorem Cuts.bind {α β : Type} {p : Pz α} {f : α → Pz β} (hp : Cuts p) (hf : ∀ a, Cuts (f a)) : Cuts (p.bind f) := fun s x r h => by
  obtain ⟨a, r1, h1, h2⟩ := Pz.bind_inv h
  obtain ⟨u, u1, u2, u3⟩ := hp _ _ _ h1
  obtain ⟨v, v1, v2, v3⟩ := hf a _ _ _ h2
  refine ⟨u ++ v, by rw [u1, v1, List.append_assoc], fun t => ?_, fun a' c hac hc => ?_⟩
  · rw [List.append_assoc, Pz.bind_ok (u2 _)]
    exact v2 t
  · rcases List.append_eq_append_iff.1 hac with ⟨k, k1, k2⟩ | ⟨k, k1, k2⟩
    · rw [k1, Pz.bind_ok (u2 _)]
      exact v3 k c k2 hc
    · by_cases hk : k = []
      · subst hk
        rw [List.append_nil] at k1
        rw [List.nil_append] at k2
        subst k1
        have := u2 []
        rw [List.append_nil] at this
        rw [Pz.bind_ok this]
        exact v3 [] v rfl (by rw [← k2]; exact hc)
      · exact Pz.bind_err (u3 a' k k1 hk)
end Go.Proofs.YtndobjlodpkknaaGreatDoor
namespace Go.Proofs.YtndobjlodpkknaaGreatDoor
open Go Go.RowKit
set_option linter.unusedVariables false
def RowsE {α : Type} (E : World → α → List Value → Prop) (N : Nat) (w : World) (p : Option Addr) (xs : List α) : Prop :=
  xs ≠ [] → ∃ b off, p = some ⟨b, off, none⟩ ∧ b < w.heap.size ∧ ∀ i x, xs[i]? = some x → ∃ cs, E w x cs ∧ w.rangeAt b (off + i * N) cs
def ESl {α : Type} (E : World → α → List Value → Prop) (N : Nat) (w : World) (v : Value) (xs : List α) : Prop := ∃ p n c, v = .slice p n c ∧ xs.length = n ∧ n ≤ c ∧ c ≤ maxLen ∧ RowsE E N w p xs ∧ (p = none → c = 0)
def TextC (w : World) (x : Bs) (cs : List Value) : Prop := ∃ v, cs = [v] ∧ Sl w v x
def InC (w : World) (x : TIn) (cs : List Value) : Prop := ∃ sv wv, cs = hCells x.id ++ [u32 x.ix, sv, u32 x.sq, wv] ∧ x.id.length = 32 ∧ Sl w sv x.sc ∧ ESl TextC 1 w wv x.wi
def OutC (w : World) (x : TOut) (cs : List Value) : Prop := ∃ sv, cs = [.int .i64 x.va.toInt, sv] ∧ Sl w sv x.sc
def TxC (w : World) (t : TTx) (cs : List Value) : Prop := ∃ iv ov, cs = [u32 t.ve, iv, ov, u32 t.lo] ∧ ESl InC 36 w iv t.is ∧ ESl OutC 2 w ov t.os
def Keeps {α : Type} (E : World → α → List Value → Prop) : Prop := ∀ w w' x cs, E w x cs → Below w.heap.size w w' → E w' x cs
theorem range_fut {w w' : World} {b o : Nat} {cs : List Value} (h : w.rangeAt b o cs) (hb : Below w.heap.size w w') (hB : b < w.heap.size) : w'.rangeAt b o cs := fun j v hj => by
  rw [hb.cell (p := ⟨b, o + j, none⟩) hB]; exact h j v hj
theorem RowsE.fut {α : Type} {E : World → α → List Value → Prop} {N : Nat} {w w' : World} {p : Option Addr} {xs : List α} (hE : Keeps E) (h : RowsE E N w p xs) (hb : Below w.heap.size w w') : RowsE E N w' p xs := fun hn => by
  obtain ⟨b, off, rfl, hlt, hc⟩ := h hn
  refine ⟨b, off, rfl, Nat.lt_of_lt_of_le hlt hb.size, fun i x hi => ?_⟩
  obtain ⟨cs, h1, h2⟩ := hc i x hi
  exact ⟨cs, hE _ _ _ _ h1 hb, range_fut h2 hb hlt⟩
theorem ESl.fut {α : Type} {E : World → α → List Value → Prop} {N : Nat} {w w' : World} {v : Value} {xs : List α} (hE : Keeps E) (h : ESl E N w v xs) (hb : Below w.heap.size w w') : ESl E N w' v xs := by
  obtain ⟨p, n, c, h1, h2, h3, h4, h5, h6⟩ := h
  exact ⟨p, n, c, h1, h2, h3, h4, h5.fut hE hb, h6⟩
theorem textC_keeps : Keeps TextC := fun w w' x cs ⟨v, h1, h2⟩ hb => ⟨v, h1, h2.below hb (Nat.le_refl _)⟩
theorem inC_keeps : Keeps InC := fun w w' x cs ⟨sv, wv, h1, h2, h3, h4⟩ hb => ⟨sv, wv, h1, h2, h3.below hb (Nat.le_refl _), h4.fut textC_keeps hb⟩
theorem outC_keeps : Keeps OutC := fun w w' x cs ⟨sv, h1, h2⟩ hb => ⟨sv, h1, h2.below hb (Nat.le_refl _)⟩
theorem txC_keeps : Keeps TxC := fun w w' x cs ⟨iv, ov, h1, h2, h3⟩ hb => ⟨iv, ov, h1, h2.fut inC_keeps hb, h3.fut outC_keeps hb⟩
theorem InC.len {w : World} {x : TIn} {cs : List Value} (h : InC w x cs) : cs.length = 36 := by
  obtain ⟨sv, wv, rfl, h1, _⟩ := h
  simp [hCells, h1]
theorem any_take {α : Type} (p : α → Bool) (xs : List α) (k : Nat) (h : k < xs.length) (x : α) (hx : xs[k]? = some x) (h0 : (xs.take k).any p = false) (h1 : p x = false) : (xs.take (k + 1)).any p = false := by
  rw [List.take_add_one, hx, List.any_append, h0]
  simp [h1]
theorem any_hit {α : Type} (p : α → Bool) (xs : List α) (k : Nat) (x : α) (hx : xs[k]? = some x) (h1 : p x = true) : xs.any p = true := List.any_eq_true.2 ⟨x, List.mem_of_getElem? hx, h1⟩
theorem OutC.len {w : World} {x : TOut} {cs : List Value} (h : OutC w x cs) : cs.length = 2 := by
  obtain ⟨sv, rfl, _⟩ := h
  rfl
theorem info_Ins {cs : List Value} (h : cs.length = 36) : (Tryz.prog.info? 97).map (·.size) = some cs.length := by rw [h]; kernel_rfl
set_option maxRecDepth 100000 in
set_option maxHeartbeats 4000000 in
theorem indexIns_any (p : TIn → Bool) (g : Nat) (eg : ∀ args w, (callFunc g args).run Tryz.prog w = .ok (.enter g args) w) (q : Option Addr) (n c : Nat) (xs : List (TIn)) (w : World) (hn : xs.length = n) (hbig : n ≤ 9223372036854775807) (hr : RowsE InC 36 w q xs)
    (hp : ∀ W x cs, Below w.heap.size w W → InC w x cs → Calls Tryz.prog g #[.agg cs.toArray] W fun e w' => e = .returned (.bool (p x)) ∧ Below w.heap.size w w') :
    Calls Tryz.prog 90 #[.slice q n c, .func (.func g) #[] #[]] w fun e w' => ∃ k : Int, e = .returned (.int .i64 k) ∧ decide (0 ≤ k) = xs.any p ∧ Below w.heap.size w w' := by
  have hrow : ∀ (W : World), Below w.heap.size w W → ∀ j, j < n → ∃ b off cs x, q = some ⟨b, off, none⟩ ∧ xs[j]? = some x ∧ InC w x cs ∧ W.rangeAt b (off + j * 36) cs ∧ cs.length = 36 := fun W hW j hj => by
    have hx := List.getElem?_eq_getElem (l := xs) (i := j) (by omega)
    obtain ⟨b, off, rfl, hb, hc⟩ := hr (by intro h; subst h; simp at hn; omega)
    obtain ⟨cs, h1, h2⟩ := hc j _ hx
    refine ⟨b, off, cs, _, rfl, hx, h1, ?_⟩
    exact ⟨fun i v hi => (hW.cell (p := ⟨b, off + j * 36 + i, none⟩) hb).trans (h2 i v hi), h1.len⟩
  have HROW := Lib.hid hrow
  have HN := Lib.hid hn
  have HP := Lib.hid hp
  clear hrow hn hr hp
  go_enter Tryz.func90, Tryz.ntmps90
  go_wp2
  go_loopg [5, 8] n (fun gg _ s8 wr => ∃ kk : Nat, kk ≤ n ∧ n - kk ≤ gg ∧ s8 = .int .i64 kk ∧ Hid (Below w.heap.size w wr) ∧ Hid ((xs.take kk).any p = false))
  case atStart => exact ⟨0, Nat.zero_le _, by omega, rfl, Lib.hid (Below.refl _ w), Lib.hid rfl⟩
  case round =>
    obtain ⟨kk, hkk, hg, rfl, BW, A⟩ := hrel
    by_cases hlt : kk < n
    · have hltz : (kk : Int) < (n : Int) := by omega
      obtain ⟨b, off, cs, x, rfl, hx, hE, l2⟩ := HROW.out wr BW.out kk hlt
      have hcall := HP.out wr x cs BW.out hE
      have HX := Lib.hid hx
      clear hx hE
      obtain ⟨l2, l3⟩ := l2
      cases hq : p x with
      | true =>
        have HQ := Lib.hid hq
        rw [hq] at hcall
        clear hq
        go_wp2_with ((with_reducible refine wpList_load_mid (op := ⟨some 15, _, _, _, _, _⟩) ?_ 97 (.tmp 14) ?_ (b) (off + kk * 36) ?_ (cs) _ (l2) Tryz.underlying97 ?_ ?_ ?_
                      · rfl
                      · rfl
                      · rfl
                      · rfl
                      · exact ((info_Ins l3))))
        go_wp2_with (go_at_fn g; refine hcall.mono ?_; rintro e w' ⟨rfl, hb'⟩)
        go_ret
        refine ⟨(kk : Int), rfl, ?_, hb'⟩
        rw [any_hit p xs kk x HX.out HQ.out]
        exact decide_eq_true (by omega)
      | false =>
        have HQ := Lib.hid hq
        rw [hq] at hcall
        clear hq
        go_wp2_with ((with_reducible refine wpList_load_mid (op := ⟨some 15, _, _, _, _, _⟩) ?_ 97 (.tmp 14) ?_ (b) (off + kk * 36) ?_ (cs) _ (l2) Tryz.underlying97 ?_ ?_ ?_
                      · rfl
                      · rfl
                      · rfl
                      · rfl
                      · exact ((info_Ins l3))))
        go_wp2_with (go_at_fn g; refine hcall.mono ?_; rintro e w' ⟨rfl, hb'⟩)
        go_roundg (n - (kk + 1))
        case measure => omega
        case rel => exact ⟨kk + 1, by omega, by omega, by go_num, Lib.hid hb', Lib.hid (any_take p xs kk (by have := HN.out; omega) x HX.out A.out HQ.out)⟩
    · have hltz : ¬ (kk : Int) < (n : Int) := by omega
      have : kk = n := by omega
      subst this
      go_wp2
      go_ret
      have h0 := A.out
      rw [List.take_of_length_le (by have := HN.out; omega)] at h0
      refine ⟨-1, rfl, ?_, BW.out⟩
      rw [h0]; rfl
set_option maxRecDepth 100000 in
set_option maxHeartbeats 4000000 in
theorem containsIns_any (p : TIn → Bool) (g : Nat) (eg : ∀ args w, (callFunc g args).run Tryz.prog w = .ok (.enter g args) w) (v : Value) (xs : List (TIn)) (w : World) (hv : ESl InC 36 w v xs)
    (hp : ∀ W x cs, Below w.heap.size w W → InC w x cs → Calls Tryz.prog g #[.agg cs.toArray] W fun e w' => e = .returned (.bool (p x)) ∧ Below w.heap.size w w') :
    Calls Tryz.prog 71 #[v, .func (.func g) #[] #[]] w fun e w' => e = .returned (.bool (xs.any p)) ∧ Below w.heap.size w w' := by
  obtain ⟨q, n, c, rfl, h1, h2, h3, h4, h5⟩ := hv
  have hcon := indexIns_any p g eg q n c xs w h1 (by unfold maxLen at h3; omega) h4 hp
  obtain ⟨r, hr⟩ : ∃ r, r = xs.any p := ⟨_, rfl⟩
  rw [← hr] at hcon ⊢
  clear hr h1 h2 h3 h4 h5 hp eg
  go_enter Tryz.func71, Tryz.ntmps71
  go_wp2_with (refine hcon.mono ?_; rintro e w' ⟨k, rfl, hk, hb'⟩)
  go_ret
  exact ⟨by rw [← hk]; rfl, hb'⟩
theorem info_Outs {cs : List Value} (h : cs.length = 2) : (Tryz.prog.info? 91).map (·.size) = some cs.length := by rw [h]; kernel_rfl
set_option maxRecDepth 100000 in
set_option maxHeartbeats 4000000 in
theorem indexOuts_any (p : TOut → Bool) (g : Nat) (eg : ∀ args w, (callFunc g args).run Tryz.prog w = .ok (.enter g args) w) (q : Option Addr) (n c : Nat) (xs : List (TOut)) (w : World) (hn : xs.length = n) (hbig : n ≤ 9223372036854775807) (hr : RowsE OutC 2 w q xs)
    (hp : ∀ W x cs, Below w.heap.size w W → OutC w x cs → Calls Tryz.prog g #[.agg cs.toArray] W fun e w' => e = .returned (.bool (p x)) ∧ Below w.heap.size w w') :
    Calls Tryz.prog 91 #[.slice q n c, .func (.func g) #[] #[]] w fun e w' => ∃ k : Int, e = .returned (.int .i64 k) ∧ decide (0 ≤ k) = xs.any p ∧ Below w.heap.size w w' := by
  have hrow : ∀ (W : World), Below w.heap.size w W → ∀ j, j < n → ∃ b off cs x, q = some ⟨b, off, none⟩ ∧ xs[j]? = some x ∧ OutC w x cs ∧ W.rangeAt b (off + j * 2) cs ∧ cs.length = 2 := fun W hW j hj => by
    have hx := List.getElem?_eq_getElem (l := xs) (i := j) (by omega)
    obtain ⟨b, off, rfl, hb, hc⟩ := hr (by intro h; subst h; simp at hn; omega)
    obtain ⟨cs, h1, h2⟩ := hc j _ hx
    refine ⟨b, off, cs, _, rfl, hx, h1, ?_⟩
    exact ⟨fun i v hi => (hW.cell (p := ⟨b, off + j * 2 + i, none⟩) hb).trans (h2 i v hi), h1.len⟩
  have HROW := Lib.hid hrow
  have HN := Lib.hid hn
  have HP := Lib.hid hp
  clear hrow hn hr hp
  go_enter Tryz.func91, Tryz.ntmps91
  go_wp2
  go_loopg [5, 8] n (fun gg _ s8 wr => ∃ kk : Nat, kk ≤ n ∧ n - kk ≤ gg ∧ s8 = .int .i64 kk ∧ Hid (Below w.heap.size w wr) ∧ Hid ((xs.take kk).any p = false))
  case atStart => exact ⟨0, Nat.zero_le _, by omega, rfl, Lib.hid (Below.refl _ w), Lib.hid rfl⟩
  case round =>
    obtain ⟨kk, hkk, hg, rfl, BW, A⟩ := hrel
    by_cases hlt : kk < n
    · have hltz : (kk : Int) < (n : Int) := by omega
      obtain ⟨b, off, cs, x, rfl, hx, hE, l2⟩ := HROW.out wr BW.out kk hlt
      have hcall := HP.out wr x cs BW.out hE
      have HX := Lib.hid hx
      clear hx hE
      obtain ⟨l2, l3⟩ := l2
      cases hq : p x with
      | true =>
        have HQ := Lib.hid hq
        rw [hq] at hcall
        clear hq
        go_wp2_with ((with_reducible refine wpList_load_mid (op := ⟨some 15, _, _, _, _, _⟩) ?_ 91 (.tmp 14) ?_ (b) (off + kk * 2) ?_ (cs) _ (l2) Tryz.underlying91 ?_ ?_ ?_
                      · rfl
                      · rfl
                      · rfl
                      · rfl
                      · exact ((info_Outs l3))))
        go_wp2_with (go_at_fn g; refine hcall.mono ?_; rintro e w' ⟨rfl, hb'⟩)
        go_ret
        refine ⟨(kk : Int), rfl, ?_, hb'⟩
        rw [any_hit p xs kk x HX.out HQ.out]
        exact decide_eq_true (by omega)
      | false =>
        have HQ := Lib.hid hq
        rw [hq] at hcall
        clear hq
        go_wp2_with ((with_reducible refine wpList_load_mid (op := ⟨some 15, _, _, _, _, _⟩) ?_ 91 (.tmp 14) ?_ (b) (off + kk * 2) ?_ (cs) _ (l2) Tryz.underlying91 ?_ ?_ ?_
                      · rfl
                      · rfl
                      · rfl
                      · rfl
                      · exact ((info_Outs l3))))
        go_wp2_with (go_at_fn g; refine hcall.mono ?_; rintro e w' ⟨rfl, hb'⟩)
        go_roundg (n - (kk + 1))
        case measure => omega
        case rel => exact ⟨kk + 1, by omega, by omega, by go_num, Lib.hid hb', Lib.hid (any_take p xs kk (by have := HN.out; omega) x HX.out A.out HQ.out)⟩
    · have hltz : ¬ (kk : Int) < (n : Int) := by omega
      have : kk = n := by omega
      subst this
      go_wp2
      go_ret
      have h0 := A.out
      rw [List.take_of_length_le (by have := HN.out; omega)] at h0
      refine ⟨-1, rfl, ?_, BW.out⟩
      rw [h0]; rfl
set_option maxRecDepth 100000 in
set_option maxHeartbeats 4000000 in
theorem containsOuts_any (p : TOut → Bool) (g : Nat) (eg : ∀ args w, (callFunc g args).run Tryz.prog w = .ok (.enter g args) w) (v : Value) (xs : List (TOut)) (w : World) (hv : ESl OutC 2 w v xs)
    (hp : ∀ W x cs, Below w.heap.size w W → OutC w x cs → Calls Tryz.prog g #[.agg cs.toArray] W fun e w' => e = .returned (.bool (p x)) ∧ Below w.heap.size w w') :
    Calls Tryz.prog 72 #[v, .func (.func g) #[] #[]] w fun e w' => e = .returned (.bool (xs.any p)) ∧ Below w.heap.size w w' := by
  obtain ⟨q, n, c, rfl, h1, h2, h3, h4, h5⟩ := hv
  have hcon := indexOuts_any p g eg q n c xs w h1 (by unfold maxLen at h3; omega) h4 hp
  obtain ⟨r, hr⟩ : ∃ r, r = xs.any p := ⟨_, rfl⟩
  rw [← hr] at hcon ⊢
  clear hr h1 h2 h3 h4 h5 hp eg
  go_enter Tryz.func72, Tryz.ntmps72
  go_wp2_with (refine hcon.mono ?_; rintro e w' ⟨k, rfl, hk, hb'⟩)
  go_ret
  exact ⟨by rw [← hk]; rfl, hb'⟩
set_option maxRecDepth 100000 in
set_option maxHeartbeats 4000000 in
theorem indexTexts_any (p : Bs → Bool) (g : Nat) (eg : ∀ args w, (callFunc g args).run Tryz.prog w = .ok (.enter g args) w) (q : Option Addr) (n c : Nat) (xs : List (Bs)) (w : World) (hn : xs.length = n) (hbig : n ≤ 9223372036854775807) (hr : RowsE TextC 1 w q xs)
    (hp : ∀ W x cs, Below w.heap.size w W → TextC w x cs → Calls Tryz.prog g #[cs.head!] W fun e w' => e = .returned (.bool (p x)) ∧ Below w.heap.size w w') :
    Calls Tryz.prog 89 #[.slice q n c, .func (.func g) #[] #[]] w fun e w' => ∃ k : Int, e = .returned (.int .i64 k) ∧ decide (0 ≤ k) = xs.any p ∧ Below w.heap.size w w' := by
  have hrow : ∀ (W : World), Below w.heap.size w W → ∀ j, j < n → ∃ b off cs x, q = some ⟨b, off, none⟩ ∧ xs[j]? = some x ∧ TextC w x cs ∧ ∃ v, cs = [v] ∧ W.cell? ⟨b, off + j, none⟩ = some v := fun W hW j hj => by
    have hx := List.getElem?_eq_getElem (l := xs) (i := j) (by omega)
    obtain ⟨b, off, rfl, hb, hc⟩ := hr (by intro h; subst h; simp at hn; omega)
    obtain ⟨cs, h1, h2⟩ := hc j _ hx
    refine ⟨b, off, cs, _, rfl, hx, h1, ?_⟩
    obtain ⟨v, rfl, h3⟩ := h1
    refine ⟨v, rfl, ?_⟩
    rw [hW.cell (p := ⟨b, off + j, none⟩) hb]
    have := h2 0 v rfl
    rwa [Nat.mul_one, Nat.add_zero] at this
  have HROW := Lib.hid hrow
  have HN := Lib.hid hn
  have HP := Lib.hid hp
  clear hrow hn hr hp
  go_enter Tryz.func89, Tryz.ntmps89
  go_wp2
  go_loopg [5, 8] n (fun gg _ s8 wr => ∃ kk : Nat, kk ≤ n ∧ n - kk ≤ gg ∧ s8 = .int .i64 kk ∧ Hid (Below w.heap.size w wr) ∧ Hid ((xs.take kk).any p = false))
  case atStart => exact ⟨0, Nat.zero_le _, by omega, rfl, Lib.hid (Below.refl _ w), Lib.hid rfl⟩
  case round =>
    obtain ⟨kk, hkk, hg, rfl, BW, A⟩ := hrel
    by_cases hlt : kk < n
    · have hltz : (kk : Int) < (n : Int) := by omega
      obtain ⟨b, off, cs, x, rfl, hx, hE, l2⟩ := HROW.out wr BW.out kk hlt
      have hcall := HP.out wr x cs BW.out hE
      have HX := Lib.hid hx
      clear hx hE
      obtain ⟨v, rfl, l2⟩ := l2
      replace hcall := hcall
      simp only [List.head!] at hcall
      cases hq : p x with
      | true =>
        have HQ := Lib.hid hq
        rw [hq] at hcall
        clear hq
        go_wp2_with (go_at_fn g; refine hcall.mono ?_; rintro e w' ⟨rfl, hb'⟩)
        go_ret
        refine ⟨(kk : Int), rfl, ?_, hb'⟩
        rw [any_hit p xs kk x HX.out HQ.out]
        exact decide_eq_true (by omega)
      | false =>
        have HQ := Lib.hid hq
        rw [hq] at hcall
        clear hq
        go_wp2_with (go_at_fn g; refine hcall.mono ?_; rintro e w' ⟨rfl, hb'⟩)
        go_roundg (n - (kk + 1))
        case measure => omega
        case rel => exact ⟨kk + 1, by omega, by omega, by go_num, Lib.hid hb', Lib.hid (any_take p xs kk (by have := HN.out; omega) x HX.out A.out HQ.out)⟩
    · have hltz : ¬ (kk : Int) < (n : Int) := by omega
      have : kk = n := by omega
      subst this
      go_wp2
      go_ret
      have h0 := A.out
      rw [List.take_of_length_le (by have := HN.out; omega)] at h0
      refine ⟨-1, rfl, ?_, BW.out⟩
      rw [h0]; rfl
set_option maxRecDepth 100000 in
set_option maxHeartbeats 4000000 in
theorem containsTexts_any (p : Bs → Bool) (g : Nat) (eg : ∀ args w, (callFunc g args).run Tryz.prog w = .ok (.enter g args) w) (v : Value) (xs : List (Bs)) (w : World) (hv : ESl TextC 1 w v xs)
    (hp : ∀ W x cs, Below w.heap.size w W → TextC w x cs → Calls Tryz.prog g #[cs.head!] W fun e w' => e = .returned (.bool (p x)) ∧ Below w.heap.size w w') :
    Calls Tryz.prog 69 #[v, .func (.func g) #[] #[]] w fun e w' => e = .returned (.bool (xs.any p)) ∧ Below w.heap.size w w' := by
  obtain ⟨q, n, c, rfl, h1, h2, h3, h4, h5⟩ := hv
  have hcon := indexTexts_any p g eg q n c xs w h1 (by unfold maxLen at h3; omega) h4 hp
  obtain ⟨r, hr⟩ : ∃ r, r = xs.any p := ⟨_, rfl⟩
  rw [← hr] at hcon ⊢
  clear hr h1 h2 h3 h4 h5 hp eg
  go_enter Tryz.func69, Tryz.ntmps69
  go_wp2_with (refine hcon.mono ?_; rintro e w' ⟨k, rfl, hk, hb'⟩)
  go_ret
  exact ⟨by rw [← hk]; rfl, hb'⟩
end Go.Proofs.YtndobjlodpkknaaGreatDoor
namespace Go.Proofs.YtndobjlodpkknaaGreatDoor
open Go Go.RowKit
set_option linter.unusedVariables false
set_option maxRecDepth 100000 in
set_option maxHeartbeats 2000000 in
theorem long_any (v : Value) (x : Bs) (w : World) (h : Sl w v x) : Calls Tryz.prog 68 #[v] w fun e w' => e = .returned (.bool (decide (10000 < x.length))) ∧ w' = w := by
  obtain ⟨p, n, c, rfl, h1, _⟩ := h
  have e : decide (10000 < x.length) = decide ((10000 : Int) < (n : Int)) := decide_eq_decide.2 (by omega)
  rw [e]
  clear e h1
  go_enter Tryz.func68, Tryz.ntmps68
  go_wp2
  go_ret
  exact ⟨rfl, rfl⟩
set_option maxRecDepth 100000 in
set_option maxHeartbeats 2000000 in
theorem badOut_any (x : TOut) (cs : List Value) (w : World) (h : OutC w x cs) : Calls Tryz.prog 70 #[.agg cs.toArray] w fun e w' => e = .returned (.bool (!canOut x)) ∧ Below w.heap.size w w' := by
  obtain ⟨sv, rfl, hs⟩ := h
  have e : (!canOut x) = (decide (x.va.toInt < 0) || decide (10000 < x.sc.length)) := by unfold canOut; simp
  rw [e]
  obtain ⟨V, hV⟩ : ∃ V, V = x.va.toInt := ⟨_, rfl⟩
  obtain ⟨r, hr⟩ : ∃ r, r = decide (10000 < x.sc.length) := ⟨_, rfl⟩
  have hl := fun W hW => long_any sv x.sc W hW
  rw [← hr] at hl ⊢
  rw [← hV]
  have HL := Lib.hid hl
  have HS := Lib.hid hs
  clear e hV hr hs hl
  go_enter Tryz.func70, Tryz.ntmps70
  go_upto_region 1 with fail
  have hb1 := below_new w (.cells #[.int .i64 V, sv] 91)
  have HB := Lib.hid (Blk.new w 91 #[.int .i64 V, sv])
  have HS1 := Lib.hid (HS.out.below hb1 (Nat.le_refl _))
  generalize w.alloc (.cells #[.int .i64 V, sv] 91) = w1 at *
  have c0 := HB.out.cell 0
  have c1 := HB.out.cell 1
  simp only [List.getElem?_toArray, List.getElem?_cons_zero, List.getElem?_cons_succ] at c0 c1
  by_cases hlt : V < 0
  · go_wp2
    go_ret
    exact ⟨by simp [hlt], hb1⟩
  · go_wp2_with (refine (HL.out _ HS1.out).mono ?_; rintro e w2 ⟨rfl, hw2⟩; replace hw2 := hw2.symm; subst hw2)
    go_ret
    exact ⟨by rw [decide_eq_false (by omega)]; rfl, hb1⟩
theorem InC.cell {w : World} {x : TIn} {cs : List Value} (h : InC w x cs) : ∃ sv wv, cs[32]? = some (u32 x.ix) ∧ cs[33]? = some sv ∧ cs[34]? = some (u32 x.sq) ∧ cs[35]? = some wv ∧ Sl w sv x.sc ∧ ESl TextC 1 w wv x.wi := by
  obtain ⟨sv, wv, rfl, h1, h2, h3⟩ := h
  have hl : (hCells x.id).length = 32 := by simp [hCells, h1]
  refine ⟨sv, wv, ?_, ?_, ?_, ?_, h2, h3⟩ <;> rw [List.getElem?_append_right (by omega), hl] <;> rfl
theorem longs_any (v : Value) (xs : List Bs) (w : World) (h : ESl TextC 1 w v xs) : Calls Tryz.prog 69 #[v, .func (.func 68) #[] #[]] w fun e w' => e = .returned (.bool (xs.any fun b => decide (10000 < b.length))) ∧ Below w.heap.size w w' :=
  containsTexts_any (fun b => decide (10000 < b.length)) 68 (enters_of Tryz.func68 (by kernel_rfl) rfl) v xs w h fun W x cs hb ⟨u, e, hs⟩ => by
    subst e
    refine (long_any u x W (hs.below hb (Nat.le_refl _))).mono ?_
    rintro e w' ⟨rfl, rfl⟩
    exact ⟨rfl, hb⟩
set_option maxRecDepth 100000 in
set_option maxHeartbeats 4000000 in
theorem badIn_any (x : TIn) (cs : List Value) (w : World) (h : InC w x cs) : Calls Tryz.prog 67 #[.agg cs.toArray] w fun e w' => e = .returned (.bool (!canIn x)) ∧ Below w.heap.size w w' := by
  obtain ⟨sv, wv, _, k33, _, k35, hs, hw⟩ := h.cell
  have hcl := h.len
  have e : (!canIn x) = (decide (10000 < x.sc.length) || (decide (100 < x.wi.length) || x.wi.any fun b => decide (10000 < b.length))) := by
    unfold canIn
    simp [List.not_all_eq_any_not]
  rw [e]
  have hl := fun W hW => long_any sv x.sc W hW
  have hc := fun W hW => longs_any wv x.wi W hW
  obtain ⟨r, hr⟩ : ∃ r, r = decide (10000 < x.sc.length) := ⟨_, rfl⟩
  obtain ⟨s, hs'⟩ : ∃ s, s = x.wi.any fun b => decide (10000 < b.length) := ⟨_, rfl⟩
  rw [← hr] at hl ⊢
  rw [← hs'] at hc ⊢
  have hb1 := below_new w (.cells cs.toArray 97)
  have HB := Lib.hid (Blk.new w 97 cs.toArray)
  have HS1 := Lib.hid (hs.below hb1 (Nat.le_refl _))
  have HW1 := Lib.hid (hw.fut textC_keeps hb1)
  have c33 := HB.out.cell 33
  have c35 := HB.out.cell 35
  rw [List.getElem?_toArray] at c33 c35
  rw [k33] at c33
  rw [k35] at c35
  obtain ⟨q, n, c, rfl, hn, _⟩ := hw
  have e2 : decide (100 < x.wi.length) = decide ((100 : Int) < (n : Int)) := decide_eq_decide.2 (by omega)
  rw [e2]
  have HL := Lib.hid hl
  have HC := Lib.hid hc
  clear e e2 hr hs hl hc hs' hn h k33 k35 hcl
  go_enter Tryz.func67, Tryz.ntmps67
  go_upto_region 1 with fail
  generalize w.alloc (.cells cs.toArray 97) = w1 at *
  cases r with
  | true =>
    go_wp2_with (refine (HL.out _ HS1.out).mono ?_; rintro e w2 ⟨rfl, hw2⟩; replace hw2 := hw2.symm; subst hw2)
    go_ret
    exact ⟨by simp, hb1⟩
  | false =>
    by_cases hlt : 100 < n
    · have hli : (100 : Int) < (n : Int) := by omega
      go_wp2_with (refine (HL.out _ HS1.out).mono ?_; rintro e w2 ⟨rfl, hw2⟩; replace hw2 := hw2.symm; subst hw2)
      go_ret
      exact ⟨by simp [hli], hb1⟩
    · have hli : ¬ (100 : Int) < (n : Int) := by omega
      go_wp2_with (refine (HL.out _ HS1.out).mono ?_; rintro e w2 ⟨rfl, hw2⟩; replace hw2 := hw2.symm; subst hw2)
      refine (HC.out _ HW1.out).mono ?_
      rintro e w2 ⟨rfl, hb2⟩
      go_wp2_with fail
      go_ret
      exact ⟨by simp [], below_fut hb1 hb2 (Nat.le_refl _)⟩
theorem badIns_any (v : Value) (xs : List TIn) (w : World) (h : ESl InC 36 w v xs) : Calls Tryz.prog 71 #[v, .func (.func 67) #[] #[]] w fun e w' => e = .returned (.bool (!xs.all canIn)) ∧ Below w.heap.size w w' := by
  rw [List.not_all_eq_any_not]
  exact containsIns_any (fun x => !canIn x) 67 (enters_of Tryz.func67 (by kernel_rfl) rfl) v xs w h fun W x cs hb hx =>
    (badIn_any x cs W (inC_keeps _ _ _ _ hx hb)).mono fun e w' ⟨h1, h2⟩ => ⟨h1, below_fut hb h2 (Nat.le_refl _)⟩
theorem badOuts_any (v : Value) (xs : List TOut) (w : World) (h : ESl OutC 2 w v xs) : Calls Tryz.prog 72 #[v, .func (.func 70) #[] #[]] w fun e w' => e = .returned (.bool (!xs.all canOut)) ∧ Below w.heap.size w w' := by
  rw [List.not_all_eq_any_not]
  exact containsOuts_any (fun x => !canOut x) 70 (enters_of Tryz.func70 (by kernel_rfl) rfl) v xs w h fun W x cs hb hx =>
    (badOut_any x cs W (outC_keeps _ _ _ _ hx hb)).mono fun e w' ⟨h1, h2⟩ => ⟨h1, below_fut hb h2 (Nat.le_refl _)⟩
set_option maxRecDepth 100000 in
set_option maxHeartbeats 4000000 in
theorem txCan_any (t : TTx) (cs : List Value) (w : World) (h : TxC w t cs) : Calls Tryz.prog 41 #[.agg cs.toArray] w fun e w' => e = .returned (.bool (canTx t)) ∧ Below w.heap.size w w' := by
  obtain ⟨iv, ov, rfl, hi, ho⟩ := h
  have hci := fun W hW => badIns_any iv t.is W hW
  have hco := fun W hW => badOuts_any ov t.os W hW
  have hb1 := below_new w (.cells #[u32 t.ve, iv, ov, u32 t.lo] 69)
  have HB := Lib.hid (Blk.new w 69 #[u32 t.ve, iv, ov, u32 t.lo])
  have HI1 := Lib.hid (hi.fut inC_keeps hb1)
  have HO1 := Lib.hid (ho.fut outC_keeps hb1)
  obtain ⟨p, n, c, rfl, hn, _⟩ := hi
  obtain ⟨q, m, d, rfl, hm, _⟩ := ho
  have e : canTx t = (decide (0 < n) && (decide (n ≤ 2000) && (decide (m ≤ 2000) && (t.is.all canIn && t.os.all canOut)))) := by unfold canTx; rw [hn, hm]
  rw [e]
  obtain ⟨r, hr⟩ : ∃ r, r = t.is.all canIn := ⟨_, rfl⟩
  obtain ⟨s, hs⟩ : ∃ s, s = t.os.all canOut := ⟨_, rfl⟩
  rw [← hr] at hci ⊢
  rw [← hs] at hco ⊢
  have HCI := Lib.hid hci
  have HCO := Lib.hid hco
  obtain ⟨vv, hvv⟩ : ∃ v, v = u32 t.ve := ⟨_, rfl⟩
  obtain ⟨vl, hvl⟩ : ∃ v, v = u32 t.lo := ⟨_, rfl⟩
  rw [← hvv, ← hvl] at hb1 HB HI1 HO1 ⊢
  clear e hr hs hci hco hn hm hvv hvl
  have c1 := HB.out.cell 1
  have c2 := HB.out.cell 2
  simp only [List.getElem?_toArray, List.getElem?_cons_zero, List.getElem?_cons_succ] at c1 c2
  go_enter Tryz.func41, Tryz.ntmps41
  go_upto_region 1 with fail
  generalize w.alloc (.cells #[vv, .slice p n c, .slice q m d, vl] 69) = w1 at *
  by_cases h1 : 0 < n
  case neg =>
    have hli : ¬ (0 : Int) < (n : Int) := by omega
    go_wp2_with fail
    go_ret
    exact ⟨by simp [], hb1⟩
  have hl1 : (0 : Int) < (n : Int) := by omega
  by_cases h2 : n ≤ 2000
  case neg =>
    have hl2 : ¬ (n : Int) ≤ (2000 : Int) := by omega
    go_wp2_with fail
    go_ret
    exact ⟨by simp [], hb1⟩
  have hl2 : (n : Int) ≤ (2000 : Int) := by omega
  by_cases h3 : m ≤ 2000
  case neg =>
    have hl3 : ¬ (m : Int) ≤ (2000 : Int) := by omega
    go_wp2_with fail
    go_ret
    exact ⟨by simp [], hb1⟩
  have hl3 : (m : Int) ≤ (2000 : Int) := by omega
  cases r with
  | false =>
    go_wp2_with fail
    refine (HCI.out _ HI1.out).mono ?_
    rintro e w2 ⟨rfl, hb2⟩
    go_wp2_with fail
    go_ret
    exact ⟨by simp, below_fut hb1 hb2 (Nat.le_refl _)⟩
  | true =>
    go_wp2_with fail
    refine (HCI.out _ HI1.out).mono ?_
    rintro e w2 ⟨rfl, hb2⟩
    have c2' := (hb2.cell (p := ⟨w.heap.size, 2, none⟩) (HB.out.lt)).trans c2
    go_wp2_with fail
    refine (HCO.out _ (HO1.out.fut outC_keeps hb2)).mono ?_
    rintro e w3 ⟨rfl, hb3⟩
    go_wp2_with fail
    go_ret
    exact ⟨by simp [h1, h2, h3], below_fut (below_fut hb1 hb2 (Nat.le_refl _)) hb3 (Nat.le_refl _)⟩
set_option maxRecDepth 100000 in
set_option maxHeartbeats 4000000 in
theorem wit1_any (x : TIn) (cs : List Value) (w : World) (h : InC w x cs) : Calls Tryz.prog 73 #[.agg cs.toArray] w fun e w' => e = .returned (.bool (decide (0 < x.wi.length))) ∧ Below w.heap.size w w' := by
  obtain ⟨sv, wv, _, _, _, k35, hs, q, n, c, rfl, hn, _⟩ := h.cell
  have e : decide (0 < x.wi.length) = decide (0 < n) := decide_eq_decide.2 (by omega)
  rw [e]
  have hb1 := below_new w (.cells cs.toArray 97)
  have HB := Lib.hid (Blk.new w 97 cs.toArray)
  have c35 := HB.out.cell 35
  rw [List.getElem?_toArray, k35] at c35
  clear e hn h k35 hs
  go_enter Tryz.func73, Tryz.ntmps73
  go_upto_region 1 with fail
  generalize w.alloc (.cells cs.toArray 97) = w1 at *
  go_wp2_with fail
  go_ret
  exact ⟨rfl, hb1⟩
set_option maxRecDepth 100000 in
set_option maxHeartbeats 4000000 in
theorem witnessed_any (t : TTx) (cs : List Value) (w : World) (h : TxC w t cs) : Calls Tryz.prog 43 #[.agg cs.toArray] w fun e w' => e = .returned (.bool (hasWs t.is)) ∧ Below w.heap.size w w' := by
  obtain ⟨iv, ov, rfl, hi, _⟩ := h
  obtain ⟨vv, hvv⟩ : ∃ v, v = u32 t.ve := ⟨_, rfl⟩
  obtain ⟨vl, hvl⟩ : ∃ v, v = u32 t.lo := ⟨_, rfl⟩
  rw [← hvv, ← hvl]
  have hb1 := below_new w (.cells #[vv, iv, ov, vl] 69)
  have HB := Lib.hid (Blk.new w 69 #[vv, iv, ov, vl])
  have hc := containsIns_any (fun x => decide (0 < x.wi.length)) 73 (enters_of Tryz.func73 (by kernel_rfl) rfl) iv t.is _ (hi.fut inC_keeps hb1) fun W x cs hb hx =>
    (wit1_any x cs W (inC_keeps _ _ _ _ hx hb)).mono fun e w' ⟨h1, h2⟩ => ⟨h1, below_fut hb h2 (Nat.le_refl _)⟩
  have HC := Lib.hid hc
  have c1 := HB.out.cell 1
  simp only [List.getElem?_toArray, List.getElem?_cons_zero, List.getElem?_cons_succ] at c1
  unfold hasWs
  clear hc hi hvv hvl
  go_enter Tryz.func43, Tryz.ntmps43
  go_upto_region 1 with fail
  generalize w.alloc (.cells #[vv, iv, ov, vl] 69) = w1 at *
  go_wp2_with fail
  refine HC.out.mono ?_
  rintro e w2 ⟨rfl, hb2⟩
  go_wp2_with fail
  go_ret
  exact ⟨rfl, below_fut hb1 hb2 (Nat.le_refl _)⟩
end Go.Proofs.YtndobjlodpkknaaGreatDoor
namespace Go.Proofs.YtndobjlodpkknaaGreatDoor
open Go Go.RowKit
set_option linter.unusedVariables false
def Grew (w : World) (v : Value) (w' : World) (v' : Value) : Prop := Stays (fun k => v.ownBlock = some k) w w' ∧ ∀ k, v'.ownBlock = some k → v.ownBlock = some k ∨ w.heap.size ≤ k
theorem Grew.refl (w : World) (v : Value) : Grew w v w v := ⟨Stays.refl _ _, fun k h => .inl h⟩
theorem Grew.trans {w w1 w2 : World} {v v1 v2 : Value} (h : Grew w v w1 v1) (h2 : Grew w1 v1 w2 v2) : Grew w v w2 v2 :=
  ⟨h.1.trans h2.1 (fun k hk hS => (h.2 k hS).resolve_right (by omega)), fun k hk => by
    have := h.1.size
    rcases h2.2 k hk with h3 | h3
    · exact h.2 k h3
    · exact .inr (by omega)⟩
theorem Grew.fut {w w1 w2 : World} {v v1 : Value} (h : Grew w v w1 v1) (hb : Below w1.heap.size w1 w2) : Grew w v w2 v1 := ⟨h.1.trans (Stays.of_below hb (Nat.le_refl _) (fun _ => False)) (fun _ _ h => h.elim), h.2⟩
theorem Grew.ahead {w w1 w2 : World} {v v1 : Value} (hb : Below w.heap.size w w1) (h : Grew w1 v w2 v1) : Grew w v w2 v1 :=
  ⟨(Stays.of_below hb (Nat.le_refl _) (fun k => v.ownBlock = some k)).trans h.1 (fun k _ h => h), fun k hk => (h.2 k hk).imp id fun h => by have := hb.size; omega⟩
theorem Grew.of_app {w w' : World} {v v' : Value} (hg : w.grownBy w' v.ownBlock) (h : v'.ownBlock = v.ownBlock ∨ v'.ownBlock = some w.heap.size) : Grew w v w' v' :=
  ⟨Stays.of_grown hg (fun k h => h), fun k hk => by
    rcases h with h | h
    · exact .inl (h ▸ hk)
    · rw [h] at hk; injection hk with hk; exact .inr (by omega)⟩
theorem Grew.below {w w' : World} {B : Nat} {v v' : Value} {ys : Bs} (h : Grew w v w' v') (ho : Own8 w B v ys) (hB : B ≤ w.heap.size) : Below B w w' := h.1.below hB fun k hk => (World.ownsRow.lt ho k hk).1
theorem Grew.blk {w w' : World} {v v' : Value} {g : Nat} {t : TypeId} {cs : Array Value} (h : Grew w v w' v') (hg : Blk w g t cs) (hn : v.ownBlock ≠ some g) : Blk w' g t cs := hg.stays h.1 hn
theorem Grew.not {w w' : World} {v v' : Value} {g : Nat} (h : Grew w v w' v') (hn : v.ownBlock ≠ some g) (hg : g < w.heap.size) : v'.ownBlock ≠ some g := fun e => (h.2 g e).elim hn (by omega)
def AppTo (w : World) (B : Nat) (v : Value) (bs : Bs) (e : Ending) (w' : World) : Prop := ∃ v', e = .returned v' ∧ Own8 w' B v' bs ∧ Grew w v w' v'
set_option maxRecDepth 100000 in
set_option maxHeartbeats 2000000 in
theorem txLow_any (n : BitVec 64) (m : Nat) (hm : m ≤ 8) (B : Nat) (w : World) (v : Value) (ys : Bs) (hB : B ≤ w.heap.size) (ho : Own8 w B v ys) (hl : ys.length ≤ 100000000000000) :
    Calls Tryz.prog 42 #[v, .int .u64 (iv64 n), .int .i64 (m : Int)] w (AppTo w B v (ys ++ low n m)) := by
  have HL := Lib.hid hl
  clear hl
  obtain ⟨V, hV⟩ : ∃ V, V = v := ⟨_, rfl⟩
  have hg0 : Hid (Grew w V w v) := Lib.hid (by rw [hV]; exact Grew.refl w v)
  rw [show AppTo w B v = AppTo w B V by rw [hV]]
  clear hV
  go_enter Tryz.func42, Tryz.ntmps42
  go_wp2
  go_loopw [0, 9] (fun v i wr => ∃ k : Nat, k ≤ m ∧ i = .int .i64 k ∧ Own8 wr B v (ys ++ low n k) ∧ Hid (Grew w V wr v)) (fun _ i _ => m - (intOf i).toNat)
  case atStart => exact ⟨0, by omega, rfl, by rw [show low n 0 = [] from rfl, List.append_nil]; exact ho, hg0⟩
  case round =>
    obtain ⟨k, hk, rfl, hown, hgr⟩ := hrel
    by_cases hkm : k < m
    · have hlt : (k : Int) < (m : Int) := by omega
      have hsz : B ≤ wr.heap.size := Nat.le_trans hB hgr.out.1.size
      have hlk := low_len n k
      have hb1 : (0 : Int) ≤ 8 * (k : Int) := by omega
      have hb2 : 8 * (k : Int) ≤ 56 := by omega
      have hsh := shrB n k
      have hrow := new_one wr (byteN n k)
      go_wp2_with (with_reducible refine wp_append8 (o := ⟨some 19, _, _, _, _, _⟩) ?_ (.tmp 12) (.tmp 18) ?_ B _ (ys ++ low n k) ?_ (hown.alloc _) (some ⟨wr.heap.size, 0, none⟩) 1 1 [byteN n k] ?_ rfl ?_ ?_ ?_ B (wr.alloc (.cells #[u8 (byteN n k)] 5)) ?_ ?_ ?_
                   · rfl
                   · rfl
                   · rfl
                   · rfl
                   · exact hrow
                   · rw [List.length_append, hlk]; simp only [List.length_cons, List.length_nil]; have := HL.out; omega
                   · simp only [World.size_alloc]; omega
                   · exact Below.refl _ _
                   · exact Nat.le_refl _
                   intro v1 w1 ho1 _ hg1 hk1)
      rw [List.append_assoc, ← low_succ] at ho1
      have hgg := Lib.hid (hgr.out.trans (Grew.ahead (below_new wr _) (Grew.of_app hg1 hk1)))
      clear hg1 hk1
      go_roundw
      case rel => exact ⟨k + 1, by omega, by go_num, ho1, hgg⟩
      case measure => simp [intOf]; omega
    · obtain rfl : k = m := by omega
      go_wp2
      go_ret
      exact ⟨_, rfl, hown, hgr.out⟩
set_option maxRecDepth 100000 in
set_option maxHeartbeats 2000000 in
theorem txText_any (u : Value) (x : Bs) (hx : x.length ≤ 100000000000) (B : Nat) (w : World) (v : Value) (ys : Bs) (hB : B ≤ w.heap.size) (hs : Sl w u x) (ho : Own8 w B v ys) (hl : ys.length ≤ 100000000000000) :
    Calls Tryz.prog 49 #[v, u] w (AppTo w B v (ys ++ text x)) := by
  obtain ⟨p, n, c, rfl, h1, h2, h3, h4, h5⟩ := hs
  have ht := text_any p n c x w h4 h1 (by omega)
  obtain ⟨X, hX⟩ : ∃ X, X = text x := ⟨_, rfl⟩
  have hXl : X.length ≤ 100000000009 := by
    rw [hX]; unfold text; rw [List.length_append]; have := enc_len (BitVec.ofNat 64 x.length); omega
  rw [← hX] at ht ⊢
  have HT := Lib.hid ht
  have HO := Lib.hid ho
  have HX := Lib.hid hXl
  have HL := Lib.hid hl
  clear ht hX h1 h2 h3 h4 h5 hXl hl hx ho
  go_enter Tryz.func49, Tryz.ntmps49
  go_wp2_with fail
  refine HT.out.mono ?_
  rintro e w1 ⟨v1, rfl, ho1, hb1⟩
  obtain ⟨p1, c1, rfl, hl1, hm1, hr1⟩ := ho1.row
  have ho2 := HO.out.below hb1 (Nat.le_refl _)
  have HB1 := Lib.hid hb1
  have hsz1 : B ≤ w1.heap.size := Nat.le_trans hB hb1.size
  have hbr := Below.refl B w1
  clear ho1 hb1
  go_wp2_with ((with_reducible refine wp_append8 (o := ⟨some 8, _, _, _, _, _⟩) ?_ (.tmp 5) (.tmp 7) ?_ (B) _ (ys) ?_ (ho2) (p1) (X.length) (c1) (X) ?_ (rfl) (hr1) ?_ (hsz1) (B) (w1) (hbr) ?_ ?_
                · rfl
                · rfl
                · rfl
                · rfl
                · have := HX.out; have := HL.out; omega
                · exact Nat.le_refl _
                intro v3 w3 ho3 hb3 hg3 hk3))
  go_ret
  exact ⟨_, rfl, ho3, Grew.ahead HB1.out (Grew.of_app hg3 hk3)⟩
theorem wrap_toInt (v : BitVec 64) : IntKind.u64.wrap v.toInt = iv64 v := by
  have h := v.isLt
  have e : iv64 v = (v.toNat : Int) := rfl
  rw [e, BitVec.toInt_eq_toNat_cond]
  simp only [IntKind.wrap, IntKind.bits, IntKind.signed]
  split <;> simp <;> omega
structure Wr (w0 w : World) (v : Value) (ys : Bs) : Prop where
  below : Below w0.heap.size w0 w
  own : Own8 w w0.heap.size v ys
theorem Wr.fut {w0 w w' : World} {v : Value} {ys : Bs} (h : Wr w0 w v ys) (hb : Below w.heap.size w w') : Wr w0 w' v ys := ⟨below_fut h.below hb (Nat.le_refl _), h.own.fut hb⟩
theorem Wr.grew {w0 w w' : World} {v v' : Value} {ys zs : Bs} (h : Wr w0 w v ys) (ho : Own8 w' w0.heap.size v' zs) (hg : Grew w v w' v') : Wr w0 w' v' zs := ⟨h.below.trans (hg.below h.own h.below.size), ho⟩
theorem Wr.not {w0 w : World} {v : Value} {ys : Bs} (h : Wr w0 w v ys) : v.ownBlock ≠ some w.heap.size := fun e => by have := (World.ownsRow.lt h.own _ e).2; omega
set_option maxRecDepth 100000 in
set_option maxHeartbeats 4000000 in
theorem txOut_any (x : TOut) (cs : List Value) (hx : x.sc.length ≤ 100000000000) (w0 w : World) (v : Value) (ys : Bs) (hc : OutC w0 x cs) (hw : Wr w0 w v ys) (hl : ys.length ≤ 90000000000000) :
    Calls Tryz.prog 47 #[v, .agg cs.toArray] w (AppTo w w0.heap.size v (ys ++ outB x)) := by
  obtain ⟨sv, rfl, hs⟩ := hc
  have hV := wrap_toInt x.va
  obtain ⟨V, hVe⟩ : ∃ V, V = x.va.toInt := ⟨_, rfl⟩
  rw [← hVe] at hV ⊢
  have hb1 := below_new w (.cells #[.int .i64 V, sv] 91)
  have HW := Lib.hid (hw.fut hb1)
  have HB := Lib.hid (Blk.new w 91 #[.int .i64 V, sv])
  have HN := Lib.hid hw.not
  have HS := Lib.hid hs
  have HL := Lib.hid hl
  have HX := Lib.hid hx
  have HA : Hid (∀ w2 v2, Grew (w.alloc (.cells #[.int .i64 V, sv] 91)) v w2 v2 → Grew w v w2 v2) := Lib.hid fun w2 v2 h => Grew.ahead hb1 h
  clear hVe hl hs hx hw hb1
  go_enter Tryz.func47, Tryz.ntmps47
  go_upto_region 1 with fail
  generalize w.alloc (.cells #[.int .i64 V, sv] 91) = w1 at *
  refine region_plan [qq 0, qq 1, qq 2, qq 3, qq 5, qq 6, oo 4, oo 7, qq 8] (fun W => Blk W w.heap.size 91 #[.int .i64 V, sv]) (by kernel_rfl) (by kernel_rfl) (HB.out.fut (below_draws w1 1)) ?_
  refine' plan_quiet (s := 13) (A1 := _) [0, 1, 2, 3, 5, 6] [_, _, _, _, _, _] _ rfl rfl rfl (fun W hW => ?hq1) _ (HB.out.fut (below_draws w1 1)) (fun _ => ?hr1)
  case hq1 =>
    have c0 : ∀ k, (W.drewN k).cell? ⟨w.heap.size, 0, none⟩ = some (.int .i64 V) := fun k => by have := hW.cell 0; simpa using this
    have c1 : ∀ k, (W.drewN k).cell? ⟨w.heap.size, 1, none⟩ = some sv := fun k => by have := hW.cell 1; simpa using this
    simp only [List.getElem_toArray, List.getElem_cons_zero, List.getElem_cons_succ]
    iterate 6 (go_big_quiet_step (fail))
    refine wpQuiet_nil ?_
    rfl
  case hr1 =>
  refine plan_one rfl fun k1 => ?_
  go_wp2_with fail
  have hw2 := HW.out.fut (below_draws w1 (1 + k1))
  refine (txLow_any x.va 8 (by omega) w0.heap.size _ v ys hw2.below.size hw2.own (by have := HL.out; omega)).mono ?_
  rintro e w2 ⟨v2, rfl, ho2, hg2⟩
  have hbk2 := hg2.blk (HB.out.fut (below_draws w1 (1 + k1))) HN.out
  have HW2 := Lib.hid (hw2.grew ho2 hg2)
  have HG2 := Lib.hid ((Grew.refl w1 v).fut (below_draws w1 (1 + k1)) |>.trans hg2)
  clear ho2 hg2 hw2
  go_wp2_with fail
  refine planQ_normal (And.intro hbk2 ?_)
  refine plan_one rfl fun k2 => ?_
  have hw3 := HW2.out.fut (below_draws w2 k2)
  have hbk3 := hbk2.fut (below_draws w2 k2)
  have HG3 := Lib.hid (HG2.out.fut (below_draws w2 k2))
  clear hbk2
  go_wp2_with fail
  refine (txText_any sv x.sc HX.out w0.heap.size _ v2 (ys ++ low x.va 8) hw3.below.size (HS.out.below hw3.below (Nat.le_refl _)) hw3.own (by rw [List.length_append, low_len]; have := HL.out; omega)).mono ?_
  rintro e w4 ⟨v4, rfl, ho4, hg4⟩
  have hbk4 := hg4.blk hbk3 (HG3.out.not HN.out HB.out.lt)
  have HG4 := Lib.hid (HG3.out.trans hg4)
  rw [List.append_assoc] at ho4
  have HO4 : Hid (Own8 w4 w0.heap.size v4 (ys ++ outB x)) := Lib.hid ho4
  clear ho4 hg4 hw3 hbk3
  go_wp2_with fail
  refine planQ_normal (And.intro hbk4 ?_)
  refine' plan_quiet (s := 13) (A1 := _) (r := []) [8] [_] _ rfl rfl rfl (fun W hW => ?hq2) _ hbk4 (fun _ => ?hr2)
  case hq2 =>
    simp only [List.getElem_toArray, List.getElem_cons_zero, List.getElem_cons_succ]
    iterate 1 (go_big_quiet_step (fail))
    refine wpQuiet_nil ?_
    rfl
  case hr2 =>
  refine plan_end fun k4 => NoPanic.normal ?_
  go_wp2_with fail
  go_ret
  exact ⟨_, rfl, HO4.out.fut (below_draws _ _), (HA.out _ _ HG4.out).fut (below_draws _ _)⟩
theorem InC.id {w w' : World} {x : TIn} {cs : List Value} {g : Nat} {t : TypeId} (h : InC w x cs) (hb : Blk w' g t cs.toArray) : Row8 w' (some ⟨g, 0, none⟩) x.id := fun hn => by
  obtain ⟨sv, wv, rfl, h1, _⟩ := h
  refine ⟨g, 0, rfl, hb.lt, fun i b hi => ?_⟩
  have hl : i < x.id.length := by
    rcases Nat.lt_or_ge i x.id.length with h | h
    · exact h
    · rw [List.getElem?_eq_none h] at hi; cases hi
  rw [Nat.zero_add, hb.cell, List.getElem?_toArray, List.getElem?_append_left (by simp [hCells]; exact hl), hCells, List.getElem?_map, hi]
  rfl
set_option maxRecDepth 100000 in
set_option maxHeartbeats 8000000 in
theorem txIn_any (x : TIn) (cs : List Value) (hx : x.sc.length ≤ 100000000000) (w0 w : World) (v : Value) (ys : Bs) (hc : InC w0 x cs) (hw : Wr w0 w v ys) (hl : ys.length ≤ 90000000000000) :
    Calls Tryz.prog 46 #[v, .agg cs.toArray] w (AppTo w w0.heap.size v (ys ++ inB x)) := by
  obtain ⟨sv, wv, k32, k33, k34, k35, hs, _⟩ := hc.cell
  have hid : x.id.length = 32 := by obtain ⟨_, _, _, h, _⟩ := hc; exact h
  have hb1 := below_new w (.cells cs.toArray 97)
  have HW := Lib.hid (hw.fut hb1)
  have HB := Lib.hid (Blk.new w 97 cs.toArray)
  have HI : Hid (∀ w', Blk w' w.heap.size 97 cs.toArray → Row8 w' (some ⟨w.heap.size, 0, none⟩) x.id) := Lib.hid fun w' h => hc.id h
  have HN := Lib.hid hw.not
  have HS := Lib.hid hs
  have HL := Lib.hid hl
  have HX := Lib.hid hx
  have HD := Lib.hid hid
  have HK : Hid (cs[32]? = some (u32 x.ix) ∧ cs[33]? = some sv ∧ cs[34]? = some (u32 x.sq)) := Lib.hid ⟨k32, k33, k34⟩
  have HA : Hid (∀ w2 v2, Grew (w.alloc (.cells cs.toArray 97)) v w2 v2 → Grew w v w2 v2) := Lib.hid fun w2 v2 h => Grew.ahead hb1 h
  clear hl hs hx hw hb1 hid hc k32 k33 k34 k35
  go_enter Tryz.func46, Tryz.ntmps46
  go_upto_region 1 with fail
  generalize w.alloc (.cells cs.toArray 97) = w1 at *
  have e1 := ext32_64 x.ix
  refine region_plan [qq 0, qq 1, qq 2, qq 3, qq 5, qq 6, qq 7, qq 8, oo 4, oo 9, qq 10] (fun W => Blk W w.heap.size 97 cs.toArray) (by kernel_rfl) (by kernel_rfl) (HB.out.fut (below_draws w1 1)) ?_
  refine' plan_quiet (s := 23) (A1 := _) [0, 1, 2, 3, 5, 6, 7, 8] [_, _, _, _, _, _, _, _] _ rfl rfl rfl (fun W hW => ?hq1) _ (HB.out.fut (below_draws w1 1)) (fun _ => ?hr1)
  case hq1 =>
    have c32 : ∀ k, (W.drewN k).cell? ⟨w.heap.size, 32, none⟩ = some (.int .u32 (iv32 x.ix)) := fun k => by
      have := hW.cell 32
      rw [List.getElem?_toArray, HK.out.1] at this
      simpa [Go.Proofs.YtndobjlodpkknaaGreatDoor.u32] using this
    simp only [List.getElem_toArray, List.getElem_cons_zero, List.getElem_cons_succ]
    iterate 8 (go_big_quiet_step (fail))
    refine wpQuiet_nil ?_
    rfl
  case hr1 =>
  refine plan_one rfl fun k1 => ?_
  have hbd : Below w1.heap.size w1 (w1.drew.drewN k1) := below_drewN (Below.refl _ _).drew k1
  have hw2 := HW.out.fut hbd
  have hbk2 := HB.out.fut hbd
  refine wp_append8 (o := ⟨some 9, _, _, _, _, _⟩) rfl (.tmp 5) (.tmp 8) rfl w0.heap.size v ys rfl hw2.own (some ⟨w.heap.size, 0, none⟩) 32 32 x.id rfl HD.out (HI.out _ hbk2) ?_ hw2.below.size w0.heap.size (w1.drew.drewN k1) (Below.refl _ _) (Nat.le_refl _) ?_
  · have := HL.out; have := HD.out; omega
  intro v2 w2 ho2 _ hg2 hj2
  have HG2 := Lib.hid (((Grew.refl w1 v).fut hbd).trans (Grew.of_app hg2 hj2))
  have hbk3 := (Grew.of_app hg2 hj2).blk hbk2 HN.out
  have HW2 := Lib.hid (hw2.grew ho2 (Grew.of_app hg2 hj2))
  clear ho2 hg2 hj2 hw2 hbk2 hbd
  refine planQ_normal (And.intro hbk3 ?_)
  refine plan_one rfl fun k2 => ?_
  have hw3 := HW2.out.fut (below_draws w2 k2)
  have hbk4 := hbk3.fut (below_draws w2 k2)
  have HG3 := Lib.hid (HG2.out.fut (below_draws w2 k2))
  clear hbk3
  go_wp2_with fail
  refine (txLow_any (x.ix.setWidth 64) 4 (by omega) w0.heap.size _ v2 (ys ++ x.id) hw3.below.size hw3.own (by rw [List.length_append]; have := HL.out; have := HD.out; omega)).mono ?_
  rintro e w4 ⟨v4, rfl, ho4, hg4⟩
  have hbk5 := hg4.blk hbk4 (HG3.out.not HN.out HB.out.lt)
  have HG4 := Lib.hid (HG3.out.trans hg4)
  have HW4 := Lib.hid (hw3.grew ho4 hg4)
  clear ho4 hg4 hw3 hbk4
  go_wp2_with fail
  refine planQ_normal (And.intro hbk5 ?_)
  refine' plan_quiet (s := 23) (A1 := _) (r := []) [10] [_] _ rfl rfl rfl (fun W hW => ?hq2) _ hbk5 (fun _ => ?hr2)
  case hq2 =>
    simp only [List.getElem_toArray, List.getElem_cons_zero, List.getElem_cons_succ]
    iterate 1 (go_big_quiet_step (fail))
    refine wpQuiet_nil ?_
    rfl
  case hr2 =>
  refine plan_end fun k4 => NoPanic.normal ?_
  have HW5 := Lib.hid (HW4.out.fut (below_draws w4 k4))
  have HG5 := Lib.hid (HG4.out.fut (below_draws w4 k4))
  have hbk6 := hbk5.fut (below_draws w4 k4)
  have HN5 := Lib.hid (HG5.out.not HN.out HB.out.lt)
  clear hbk5 e1
  generalize w4.drewN k4 = w5 at *
  have HB5 := Lib.hid hbk6
  clear hbk6
  go_upto_region 2 with fail
  have e2 := ext32_64 x.sq
  refine region_plan [qq 0, qq 1, qq 2, qq 4, qq 5, qq 6, oo 3, oo 7, qq 8] (fun W => Blk W w.heap.size 97 cs.toArray) (by kernel_rfl) (by kernel_rfl) (HB5.out.fut (below_draws w5 1)) ?_
  refine' plan_quiet (s := 23) (A1 := _) [0, 1, 2, 4, 5, 6] [_, _, _, _, _, _] _ rfl rfl rfl (fun W hW => ?hq3) _ (HB5.out.fut (below_draws w5 1)) (fun _ => ?hr3)
  case hq3 =>
    have c33 : ∀ k, (W.drewN k).cell? ⟨w.heap.size, 33, none⟩ = some sv := fun k => by
      have := hW.cell 33
      rw [List.getElem?_toArray, HK.out.2.1] at this
      simpa using this
    have c34 : ∀ k, (W.drewN k).cell? ⟨w.heap.size, 34, none⟩ = some (.int .u32 (iv32 x.sq)) := fun k => by
      have := hW.cell 34
      rw [List.getElem?_toArray, HK.out.2.2] at this
      simpa [Go.Proofs.YtndobjlodpkknaaGreatDoor.u32] using this
    simp only [List.getElem_toArray, List.getElem_cons_zero, List.getElem_cons_succ]
    iterate 6 (go_big_quiet_step (fail))
    refine wpQuiet_nil ?_
    rfl
  case hr3 =>
  refine plan_one rfl fun k6 => ?_
  go_wp2_with fail
  have hw6 := HW5.out.fut (below_draws w5 (1 + k6))
  have hbk6 := HB5.out.fut (below_draws w5 (1 + k6))
  have HG6 := Lib.hid (HG5.out.fut (below_draws w5 (1 + k6)))
  refine (txText_any sv x.sc HX.out w0.heap.size _ v4 (ys ++ x.id ++ low (x.ix.setWidth 64) 4) hw6.below.size (HS.out.below hw6.below (Nat.le_refl _)) hw6.own (by rw [List.length_append, List.length_append, low_len]; have := HL.out; have := HD.out; omega)).mono ?_
  rintro e w7 ⟨v7, rfl, ho7, hg7⟩
  have hbk7 := hg7.blk hbk6 HN5.out
  have HG7 := Lib.hid (HG6.out.trans hg7)
  have HW7 := Lib.hid (hw6.grew ho7 hg7)
  clear ho7 hg7 hw6 hbk6
  go_wp2_with fail
  refine planQ_normal (And.intro hbk7 ?_)
  refine plan_one rfl fun k7 => ?_
  have hw8 := HW7.out.fut (below_draws w7 k7)
  have hbk8 := hbk7.fut (below_draws w7 k7)
  have HG8 := Lib.hid (HG7.out.fut (below_draws w7 k7))
  have htl : (text x.sc).length ≤ 100000000009 := by unfold text; rw [List.length_append]; have := enc_len (BitVec.ofNat 64 x.sc.length); have := HX.out; omega
  clear hbk7
  go_wp2_with fail
  refine (txLow_any (x.sq.setWidth 64) 4 (by omega) w0.heap.size _ v7 (ys ++ x.id ++ low (x.ix.setWidth 64) 4 ++ text x.sc) hw8.below.size hw8.own (by rw [List.length_append, List.length_append, List.length_append, low_len]; have := HL.out; have := HD.out; omega)).mono ?_
  rintro e w9 ⟨v9, rfl, ho9, hg9⟩
  have hbk9 := hg9.blk hbk8 (HG8.out.not HN.out HB.out.lt)
  have HG9 := Lib.hid (HG8.out.trans hg9)
  have HO9 : Hid (Own8 w9 w0.heap.size v9 (ys ++ inB x)) := Lib.hid (by
    have e : ys ++ inB x = ys ++ x.id ++ low (x.ix.setWidth 64) 4 ++ text x.sc ++ low (x.sq.setWidth 64) 4 := by
      unfold inB le32
      simp only [List.append_assoc]
    rw [e]; exact ho9)
  clear ho9 hg9 hw8 hbk8
  go_wp2_with fail
  refine planQ_normal (And.intro hbk9 ?_)
  refine' plan_quiet (s := 23) (A1 := _) (r := []) [8] [_] _ rfl rfl rfl (fun W hW => ?hq4) _ hbk9 (fun _ => ?hr4)
  case hq4 =>
    simp only [List.getElem_toArray, List.getElem_cons_zero, List.getElem_cons_succ]
    iterate 1 (go_big_quiet_step (fail))
    refine wpQuiet_nil ?_
    rfl
  case hr4 =>
  refine plan_end fun k9 => NoPanic.normal ?_
  go_wp2_with fail
  go_ret
  exact ⟨_, rfl, HO9.out.fut (below_draws _ _), (HA.out _ _ HG9.out).fut (below_draws _ _)⟩
end Go.Proofs.YtndobjlodpkknaaGreatDoor
namespace Go.Proofs.YtndobjlodpkknaaGreatDoor
open Go Go.RowKit
set_option linter.unusedVariables false
theorem Wr.opens {w0 w : World} {v : Value} {ys : Bs} (h : Wr w0 w v ys) : ∃ p n c, v = .slice p n c := by
  obtain ⟨p, n, c, e, _⟩ := h.own.open
  exact ⟨p, n, c, e⟩
theorem flat_le {α : Type} (f : α → Bs) (M : Nat) : ∀ (xs : List α), (∀ x ∈ xs, (f x).length ≤ M) → ((xs.map f).flatten).length ≤ xs.length * M
  | [], _ => by simp
  | x :: xs, h => by
    have h1 := h x (List.mem_cons_self ..)
    have h2 := flat_le f M xs fun y hy => h y (List.mem_cons_of_mem _ hy)
    rw [List.map_cons, List.flatten_cons, List.length_append, List.length_cons, Nat.succ_mul]
    omega
theorem flat_take {α : Type} (f : α → Bs) (xs : List α) (k : Nat) (x : α) (h : xs[k]? = some x) : ((xs.take (k + 1)).map f).flatten = ((xs.take k).map f).flatten ++ f x := by
  rw [List.take_add_one, h, List.map_append, List.flatten_append]
  simp
theorem blk_range {w : World} {g : Nat} {t : TypeId} {cs : List Value} (h : Blk w g t cs.toArray) : w.rangeAt g 0 cs := fun j v hj => by
  rw [Nat.zero_add, h.cell, List.getElem?_toArray]; exact hj
theorem Sl.one {w : World} {v : Value} {bs : Bs} (h : Sl w v bs) : v.oneCell' = true := by obtain ⟨p, n, c, rfl, _⟩ := h; rfl
theorem ESl.one {α : Type} {E : World → α → List Value → Prop} {N : Nat} {w : World} {v : Value} {xs : List α} (h : ESl E N w v xs) : v.oneCell' = true := by obtain ⟨p, n, c, rfl, _⟩ := h; rfl
theorem InC.one {w : World} {x : TIn} {cs : List Value} (h : InC w x cs) : cs.toArray.all (·.oneCell') = true := by
  obtain ⟨sv, wv, rfl, h1, h2, h3⟩ := h
  rw [List.all_toArray, hCells]
  simp [Value.oneCell']
  exact ⟨h2.one, h3.one⟩
theorem OutC.one {w : World} {x : TOut} {cs : List Value} (h : OutC w x cs) : cs.toArray.all (·.oneCell') = true := by
  obtain ⟨sv, rfl, h1⟩ := h
  rw [List.all_toArray]
  simp [Value.oneCell']
  exact h1.one
theorem zeroIn : ∃ Z : Array Value, Z.size = 36 ∧ ∀ w, (zeroValue 97).run Tryz.prog w = .ok (.agg Z) w :=
  ⟨(List.replicate 32 (Value.int .u8 0) ++ [Value.int .u32 0, Value.slice none 0 0, Value.int .u32 0, Value.slice none 0 0]).toArray, by rfl, zero_of (by kernel_rfl)⟩
theorem zeroOut : ∃ Z : Array Value, Z.size = 2 ∧ ∀ w, (zeroValue 91).run Tryz.prog w = .ok (.agg Z) w := ⟨#[.int .i64 0, .slice none 0 0], by rfl, zero_of (by kernel_rfl)⟩
set_option maxRecDepth 100000 in
set_option maxHeartbeats 8000000 in
theorem listIns_any (f : TIn → Bs) (M : Nat) (g : Nat) (eg : ∀ args w, (callFunc g args).run Tryz.prog w = .ok (.enter g args) w) (u : Value) (xs : List (TIn)) (hx : xs.length ≤ 2000) (hM : M ≤ 10000000000) (hf : ∀ x ∈ xs, (f x).length ≤ M) (w0 w : World) (v : Value) (ys : Bs) (hu : ESl InC 36 w0 u xs) (hw : Wr w0 w v ys) (hl : ys.length ≤ 50000000000000)
    (hp : ∀ (W : World) (v' : Value) (zs : Bs) (x : TIn) (cs : List Value), x ∈ xs → Wr w0 W v' zs → zs.length ≤ 90000000000000 → InC w0 x cs → Calls Tryz.prog g #[v', .agg cs.toArray] W (AppTo W w0.heap.size v' (zs ++ f x))) :
    Calls Tryz.prog 45 #[v, u, .func (.func g) #[] #[]] w (AppTo w w0.heap.size v (ys ++ (cntB xs.length ++ (xs.map f).flatten))) := by
  obtain ⟨q, n, c, rfl, hn, hnc, hcm, hr, _⟩ := hu
  have HP := Lib.hid hp
  have HF := Lib.hid hf
  have HN := Lib.hid hn
  have HR := Lib.hid hr
  have HL := Lib.hid hl
  have hn2 : n ≤ 2000 := by omega
  have hiv := iv64_nat n (by omega)
  have hel := enc_len (BitVec.ofNat 64 n)
  have HC : Hid (cntB xs.length = enc (BitVec.ofNat 64 n)) := Lib.hid (by unfold cntB; rw [hn])
  have HW := Lib.hid hw
  obtain ⟨V, hV⟩ : ∃ V, V = v := ⟨_, rfl⟩
  have HV := Lib.hid hV
  obtain ⟨p0, n0, c0, rfl⟩ := hw.opens
  clear hp hf hn hr hl hw hV hx
  go_enter Tryz.func45, Tryz.ntmps45
  go_wp2_with fail
  rw [← hiv]
  refine (encode_any (BitVec.ofNat 64 n) _).mono ?_
  rintro e w1 ⟨v1, rfl, ho1, hb1⟩
  obtain ⟨E, hE⟩ : ∃ E, E = enc (BitVec.ofNat 64 n) := ⟨_, rfl⟩
  rw [← hE] at ho1 hel HC
  clear hE hiv
  obtain ⟨p1, c1, rfl, hl1, hm1, hr1⟩ := ho1.row
  have HW1 := Lib.hid (HW.out.fut hb1)
  have ho2 := HW1.out.own
  have hsz1 := HW1.out.below.size
  have hbr := Below.refl w0.heap.size w1
  have HB1 := Lib.hid hb1
  clear ho1 hb1
  go_wp2_with ((with_reducible refine wp_append8 (o := ⟨some 14, _, _, _, _, _⟩) ?_ (.tmp 9) (.tmp 13) ?_ (w0.heap.size) _ (ys) ?_ (ho2) (p1) (E.length) (c1) (E) ?_ (rfl) (hr1) ?_ (hsz1) (w0.heap.size) (w1) (hbr) ?_ ?_
                · rfl
                · rfl
                · rfl
                · rfl
                · have := HL.out; omega
                · exact Nat.le_refl _
                intro v3 w3 ho3 hb3 hg3 hk3))
  have HG3 := Lib.hid (Grew.ahead HB1.out (Grew.of_app hg3 hk3))
  have HW3 := Lib.hid (HW1.out.grew ho3 (Grew.of_app hg3 hk3))
  clear ho3 hb3 hg3 hk3 ho2 hbr hr1
  have hn0 : n ≤ xs.length := by have := HN.out; omega
  go_loopw [0, 17] (fun u i wr => ∃ k : Nat, k ≤ n ∧ i = .int .i64 k ∧ Hid (Wr w0 wr u (ys ++ (E ++ ((xs.take k).map f).flatten))) ∧ Hid (Grew w V wr u)) (fun _ i _ => n - (intOf i).toNat)
  case atStart => exact ⟨0, by omega, rfl, Lib.hid (by rw [List.take_zero, List.map_nil, List.flatten_nil, List.append_nil]; exact HW3.out), Lib.hid (by rw [HV.out]; exact HG3.out)⟩
  case round =>
    obtain ⟨k, hk, rfl, HWk, HGk⟩ := hrel
    obtain ⟨pk, nk, ck, rfl⟩ := HWk.out.opens
    by_cases hkn : k < n
    · have hlt : (k : Int) < (n : Int) := by omega
      have hx := List.getElem?_eq_getElem (l := xs) (i := k) (by omega)
      obtain ⟨x, hxe⟩ : ∃ x, x = xs[k]'(by omega) := ⟨_, rfl⟩
      rw [← hxe] at hx
      have hmem := List.mem_of_getElem? hx
      obtain ⟨b, off, rfl, hb, hcs⟩ := HR.out (by intro h; rw [h] at hx; cases hx)
      obtain ⟨cs, hE, h2⟩ := hcs k x hx
      have l3 := hE.len
      have l2 : wr.rangeAt b (off + k * 36) cs := range_fut h2 HWk.out.below hb
      have HX := Lib.hid hx
      have HE := Lib.hid hE
      have hE' := hE
      have HM := Lib.hid hmem
      clear hx hxe hmem h2 hE hcs hb
      have hone := hE'.one
      obtain ⟨Z, hZl, hz⟩ := zeroIn
      have HZ := Lib.hid hZl
      have H3 := Lib.hid l3
      have H1 := Lib.hid hone
      clear hZl l3 hone hE'
      go_upto_region 5 with (first
        | (with_reducible refine wpList_load_mid (op := ⟨some 20, _, _, _, _, _⟩) ?_ 97 (.tmp 19) ?_ (b) (off + k * 36) ?_ (cs) _ (l2) Tryz.underlying97 ?_ ?_ ?_
           · rfl
           · rfl
           · rfl
           · rfl
           · exact ((info_Ins H3.out)))
        | (with_reducible refine wp_store_blk (o := ⟨none, _, _, _, _, _⟩) ?_ 97 (.tmp 8) (.tmp 20) ?_ (wr.heap.size) 97 (Z) (cs.toArray) ?_ ?_ (Blk.new wr _ _) ?_ ?_ ?_ (wr.heap.size) (wr) ?_ ?_ ?_
           · rfl
           · rfl
           · rfl
           · rfl
           · exact (by rw [List.size_toArray]; exact info_Ins H3.out)
           · exact (HZ.out.trans (by rw [List.size_toArray]; exact H3.out.symm))
           · exact (H1.out)
           · exact (below_new wr _)
           · exact (Nat.le_refl _)
           intro w6 hB6 hb6 hg6 hs6))
      have l6 := blk_range hB6.out
      have HW6 := Lib.hid (HWk.out.fut hb6)
      have HG6 := Lib.hid (HGk.out.fut hb6)
      have hnl : (((xs.take k).map f).flatten).length ≤ 20000000000000 := by
        have h1 := flat_le f M (xs.take k) (fun y hy => HF.out y (List.mem_of_mem_take hy))
        have h2 : (xs.take k).length ≤ 2000 := by rw [List.length_take]; omega
        have h3 := Nat.mul_le_mul h2 hM
        omega
      have hcall := HP.out w6 _ _ x cs HM.out HW6.out (by rw [List.length_append, List.length_append]; have := HL.out; omega) HE.out
      clear hb6 hg6 hs6 hnl l2 hz
      go_wp2_with (first
        | (with_reducible refine wpList_load_mid (op := ⟨some 23, _, _, _, _, _⟩) ?_ 97 (.tmp 8) ?_ (wr.heap.size) (0) ?_ (cs) _ (l6) Tryz.underlying97 ?_ ?_ ?_
           · rfl
           · rfl
           · rfl
           · rfl
           · exact ((info_Ins H3.out)))
        | (go_at_fn g; refine hcall.mono ?_; rintro e w7 ⟨v7, rfl, ho7, hg7⟩))
      have HW7 := Lib.hid (HW6.out.grew ho7 hg7)
      have HG7 := Lib.hid (HG6.out.trans hg7)
      have e7 : ys ++ (E ++ ((xs.take k).map f).flatten) ++ f x = ys ++ (E ++ ((xs.take (k + 1)).map f).flatten) := by rw [flat_take f xs k x HX.out]; simp only [List.append_assoc]
      rw [e7] at HW7
      clear ho7 hg7 e7 hcall
      go_roundw
      case rel => exact ⟨k + 1, by omega, by go_num, HW7, HG7⟩
      case measure => simp [intOf]; omega
    · obtain rfl : k = n := by omega
      go_wp2
      go_ret
      have hgl := HGk.out
      rw [HV.out] at hgl
      refine ⟨_, rfl, ?_, hgl⟩
      have := HWk.out.own
      rw [List.take_of_length_le (by have := HN.out; omega)] at this
      rw [HC.out]; exact this
set_option maxRecDepth 100000 in
set_option maxHeartbeats 8000000 in
theorem listOuts_any (f : TOut → Bs) (M : Nat) (g : Nat) (eg : ∀ args w, (callFunc g args).run Tryz.prog w = .ok (.enter g args) w) (u : Value) (xs : List (TOut)) (hx : xs.length ≤ 2000) (hM : M ≤ 10000000000) (hf : ∀ x ∈ xs, (f x).length ≤ M) (w0 w : World) (v : Value) (ys : Bs) (hu : ESl OutC 2 w0 u xs) (hw : Wr w0 w v ys) (hl : ys.length ≤ 50000000000000)
    (hp : ∀ (W : World) (v' : Value) (zs : Bs) (x : TOut) (cs : List Value), x ∈ xs → Wr w0 W v' zs → zs.length ≤ 90000000000000 → OutC w0 x cs → Calls Tryz.prog g #[v', .agg cs.toArray] W (AppTo W w0.heap.size v' (zs ++ f x))) :
    Calls Tryz.prog 44 #[v, u, .func (.func g) #[] #[]] w (AppTo w w0.heap.size v (ys ++ (cntB xs.length ++ (xs.map f).flatten))) := by
  obtain ⟨q, n, c, rfl, hn, hnc, hcm, hr, _⟩ := hu
  have HP := Lib.hid hp
  have HF := Lib.hid hf
  have HN := Lib.hid hn
  have HR := Lib.hid hr
  have HL := Lib.hid hl
  have hn2 : n ≤ 2000 := by omega
  have hiv := iv64_nat n (by omega)
  have hel := enc_len (BitVec.ofNat 64 n)
  have HC : Hid (cntB xs.length = enc (BitVec.ofNat 64 n)) := Lib.hid (by unfold cntB; rw [hn])
  have HW := Lib.hid hw
  obtain ⟨V, hV⟩ : ∃ V, V = v := ⟨_, rfl⟩
  have HV := Lib.hid hV
  obtain ⟨p0, n0, c0, rfl⟩ := hw.opens
  clear hp hf hn hr hl hw hV hx
  go_enter Tryz.func44, Tryz.ntmps44
  go_wp2_with fail
  rw [← hiv]
  refine (encode_any (BitVec.ofNat 64 n) _).mono ?_
  rintro e w1 ⟨v1, rfl, ho1, hb1⟩
  obtain ⟨E, hE⟩ : ∃ E, E = enc (BitVec.ofNat 64 n) := ⟨_, rfl⟩
  rw [← hE] at ho1 hel HC
  clear hE hiv
  obtain ⟨p1, c1, rfl, hl1, hm1, hr1⟩ := ho1.row
  have HW1 := Lib.hid (HW.out.fut hb1)
  have ho2 := HW1.out.own
  have hsz1 := HW1.out.below.size
  have hbr := Below.refl w0.heap.size w1
  have HB1 := Lib.hid hb1
  clear ho1 hb1
  go_wp2_with ((with_reducible refine wp_append8 (o := ⟨some 14, _, _, _, _, _⟩) ?_ (.tmp 9) (.tmp 13) ?_ (w0.heap.size) _ (ys) ?_ (ho2) (p1) (E.length) (c1) (E) ?_ (rfl) (hr1) ?_ (hsz1) (w0.heap.size) (w1) (hbr) ?_ ?_
                · rfl
                · rfl
                · rfl
                · rfl
                · have := HL.out; omega
                · exact Nat.le_refl _
                intro v3 w3 ho3 hb3 hg3 hk3))
  have HG3 := Lib.hid (Grew.ahead HB1.out (Grew.of_app hg3 hk3))
  have HW3 := Lib.hid (HW1.out.grew ho3 (Grew.of_app hg3 hk3))
  clear ho3 hb3 hg3 hk3 ho2 hbr hr1
  have hn0 : n ≤ xs.length := by have := HN.out; omega
  go_loopw [0, 17] (fun u i wr => ∃ k : Nat, k ≤ n ∧ i = .int .i64 k ∧ Hid (Wr w0 wr u (ys ++ (E ++ ((xs.take k).map f).flatten))) ∧ Hid (Grew w V wr u)) (fun _ i _ => n - (intOf i).toNat)
  case atStart => exact ⟨0, by omega, rfl, Lib.hid (by rw [List.take_zero, List.map_nil, List.flatten_nil, List.append_nil]; exact HW3.out), Lib.hid (by rw [HV.out]; exact HG3.out)⟩
  case round =>
    obtain ⟨k, hk, rfl, HWk, HGk⟩ := hrel
    obtain ⟨pk, nk, ck, rfl⟩ := HWk.out.opens
    by_cases hkn : k < n
    · have hlt : (k : Int) < (n : Int) := by omega
      have hx := List.getElem?_eq_getElem (l := xs) (i := k) (by omega)
      obtain ⟨x, hxe⟩ : ∃ x, x = xs[k]'(by omega) := ⟨_, rfl⟩
      rw [← hxe] at hx
      have hmem := List.mem_of_getElem? hx
      obtain ⟨b, off, rfl, hb, hcs⟩ := HR.out (by intro h; rw [h] at hx; cases hx)
      obtain ⟨cs, hE, h2⟩ := hcs k x hx
      have l3 := hE.len
      have l2 : wr.rangeAt b (off + k * 2) cs := range_fut h2 HWk.out.below hb
      have HX := Lib.hid hx
      have HE := Lib.hid hE
      have hE' := hE
      have HM := Lib.hid hmem
      clear hx hxe hmem h2 hE hcs hb
      have hone := hE'.one
      obtain ⟨Z, hZl, hz⟩ := zeroOut
      have HZ := Lib.hid hZl
      have H3 := Lib.hid l3
      have H1 := Lib.hid hone
      clear hZl l3 hone hE'
      go_upto_region 5 with (first
        | (with_reducible refine wpList_load_mid (op := ⟨some 20, _, _, _, _, _⟩) ?_ 91 (.tmp 19) ?_ (b) (off + k * 2) ?_ (cs) _ (l2) Tryz.underlying91 ?_ ?_ ?_
           · rfl
           · rfl
           · rfl
           · rfl
           · exact ((info_Outs H3.out)))
        | (with_reducible refine wp_store_blk (o := ⟨none, _, _, _, _, _⟩) ?_ 91 (.tmp 8) (.tmp 20) ?_ (wr.heap.size) 91 (Z) (cs.toArray) ?_ ?_ (Blk.new wr _ _) ?_ ?_ ?_ (wr.heap.size) (wr) ?_ ?_ ?_
           · rfl
           · rfl
           · rfl
           · rfl
           · exact (by rw [List.size_toArray]; exact info_Outs H3.out)
           · exact (HZ.out.trans (by rw [List.size_toArray]; exact H3.out.symm))
           · exact (H1.out)
           · exact (below_new wr _)
           · exact (Nat.le_refl _)
           intro w6 hB6 hb6 hg6 hs6))
      have l6 := blk_range hB6.out
      have HW6 := Lib.hid (HWk.out.fut hb6)
      have HG6 := Lib.hid (HGk.out.fut hb6)
      have hnl : (((xs.take k).map f).flatten).length ≤ 20000000000000 := by
        have h1 := flat_le f M (xs.take k) (fun y hy => HF.out y (List.mem_of_mem_take hy))
        have h2 : (xs.take k).length ≤ 2000 := by rw [List.length_take]; omega
        have h3 := Nat.mul_le_mul h2 hM
        omega
      have hcall := HP.out w6 _ _ x cs HM.out HW6.out (by rw [List.length_append, List.length_append]; have := HL.out; omega) HE.out
      clear hb6 hg6 hs6 hnl l2 hz
      go_wp2_with (first
        | (with_reducible refine wpList_load_mid (op := ⟨some 23, _, _, _, _, _⟩) ?_ 91 (.tmp 8) ?_ (wr.heap.size) (0) ?_ (cs) _ (l6) Tryz.underlying91 ?_ ?_ ?_
           · rfl
           · rfl
           · rfl
           · rfl
           · exact ((info_Outs H3.out)))
        | (go_at_fn g; refine hcall.mono ?_; rintro e w7 ⟨v7, rfl, ho7, hg7⟩))
      have HW7 := Lib.hid (HW6.out.grew ho7 hg7)
      have HG7 := Lib.hid (HG6.out.trans hg7)
      have e7 : ys ++ (E ++ ((xs.take k).map f).flatten) ++ f x = ys ++ (E ++ ((xs.take (k + 1)).map f).flatten) := by rw [flat_take f xs k x HX.out]; simp only [List.append_assoc]
      rw [e7] at HW7
      clear ho7 hg7 e7 hcall
      go_roundw
      case rel => exact ⟨k + 1, by omega, by go_num, HW7, HG7⟩
      case measure => simp [intOf]; omega
    · obtain rfl : k = n := by omega
      go_wp2
      go_ret
      have hgl := HGk.out
      rw [HV.out] at hgl
      refine ⟨_, rfl, ?_, hgl⟩
      have := HWk.out.own
      rw [List.take_of_length_le (by have := HN.out; omega)] at this
      rw [HC.out]; exact this
set_option maxRecDepth 100000 in
set_option maxHeartbeats 8000000 in
theorem listTexts_any (f : Bs → Bs) (M : Nat) (g : Nat) (eg : ∀ args w, (callFunc g args).run Tryz.prog w = .ok (.enter g args) w) (u : Value) (xs : List (Bs)) (hx : xs.length ≤ 2000) (hM : M ≤ 10000000000) (hf : ∀ x ∈ xs, (f x).length ≤ M) (w0 w : World) (v : Value) (ys : Bs) (hu : ESl TextC 1 w0 u xs) (hw : Wr w0 w v ys) (hl : ys.length ≤ 50000000000000)
    (hp : ∀ (W : World) (v' : Value) (zs : Bs) (x : Bs) (cs : List Value), x ∈ xs → Wr w0 W v' zs → zs.length ≤ 90000000000000 → TextC w0 x cs → Calls Tryz.prog g #[v', cs.head!] W (AppTo W w0.heap.size v' (zs ++ f x))) :
    Calls Tryz.prog 48 #[v, u, .func (.func g) #[] #[]] w (AppTo w w0.heap.size v (ys ++ (cntB xs.length ++ (xs.map f).flatten))) := by
  obtain ⟨q, n, c, rfl, hn, hnc, hcm, hr, _⟩ := hu
  have HP := Lib.hid hp
  have HF := Lib.hid hf
  have HN := Lib.hid hn
  have HR := Lib.hid hr
  have HL := Lib.hid hl
  have hn2 : n ≤ 2000 := by omega
  have hiv := iv64_nat n (by omega)
  have hel := enc_len (BitVec.ofNat 64 n)
  have HC : Hid (cntB xs.length = enc (BitVec.ofNat 64 n)) := Lib.hid (by unfold cntB; rw [hn])
  have HW := Lib.hid hw
  obtain ⟨V, hV⟩ : ∃ V, V = v := ⟨_, rfl⟩
  have HV := Lib.hid hV
  obtain ⟨p0, n0, c0, rfl⟩ := hw.opens
  clear hp hf hn hr hl hw hV hx
  go_enter Tryz.func48, Tryz.ntmps48
  go_wp2_with fail
  rw [← hiv]
  refine (encode_any (BitVec.ofNat 64 n) _).mono ?_
  rintro e w1 ⟨v1, rfl, ho1, hb1⟩
  obtain ⟨E, hE⟩ : ∃ E, E = enc (BitVec.ofNat 64 n) := ⟨_, rfl⟩
  rw [← hE] at ho1 hel HC
  clear hE hiv
  obtain ⟨p1, c1, rfl, hl1, hm1, hr1⟩ := ho1.row
  have HW1 := Lib.hid (HW.out.fut hb1)
  have ho2 := HW1.out.own
  have hsz1 := HW1.out.below.size
  have hbr := Below.refl w0.heap.size w1
  have HB1 := Lib.hid hb1
  clear ho1 hb1
  go_wp2_with ((with_reducible refine wp_append8 (o := ⟨some 14, _, _, _, _, _⟩) ?_ (.tmp 9) (.tmp 13) ?_ (w0.heap.size) _ (ys) ?_ (ho2) (p1) (E.length) (c1) (E) ?_ (rfl) (hr1) ?_ (hsz1) (w0.heap.size) (w1) (hbr) ?_ ?_
                · rfl
                · rfl
                · rfl
                · rfl
                · have := HL.out; omega
                · exact Nat.le_refl _
                intro v3 w3 ho3 hb3 hg3 hk3))
  have HG3 := Lib.hid (Grew.ahead HB1.out (Grew.of_app hg3 hk3))
  have HW3 := Lib.hid (HW1.out.grew ho3 (Grew.of_app hg3 hk3))
  clear ho3 hb3 hg3 hk3 ho2 hbr hr1
  have hn0 : n ≤ xs.length := by have := HN.out; omega
  go_loopw [0, 17] (fun u i wr => ∃ k : Nat, k ≤ n ∧ i = .int .i64 k ∧ Hid (Wr w0 wr u (ys ++ (E ++ ((xs.take k).map f).flatten))) ∧ Hid (Grew w V wr u)) (fun _ i _ => n - (intOf i).toNat)
  case atStart => exact ⟨0, by omega, rfl, Lib.hid (by rw [List.take_zero, List.map_nil, List.flatten_nil, List.append_nil]; exact HW3.out), Lib.hid (by rw [HV.out]; exact HG3.out)⟩
  case round =>
    obtain ⟨k, hk, rfl, HWk, HGk⟩ := hrel
    obtain ⟨pk, nk, ck, rfl⟩ := HWk.out.opens
    by_cases hkn : k < n
    · have hlt : (k : Int) < (n : Int) := by omega
      have hx := List.getElem?_eq_getElem (l := xs) (i := k) (by omega)
      obtain ⟨x, hxe⟩ : ∃ x, x = xs[k]'(by omega) := ⟨_, rfl⟩
      rw [← hxe] at hx
      have hmem := List.mem_of_getElem? hx
      obtain ⟨b, off, rfl, hb, hcs⟩ := HR.out (by intro h; rw [h] at hx; cases hx)
      obtain ⟨cs, hE, h2⟩ := hcs k x hx
      have l2 : wr.rangeAt b (off + k * 1) cs := range_fut h2 HWk.out.below hb
      have HX := Lib.hid hx
      have HE := Lib.hid hE
      have hE' := hE
      have HM := Lib.hid hmem
      clear hx hxe hmem h2 hE hcs hb
      obtain ⟨vx, rfl, _⟩ := hE'
      have l4 : wr.cell? ⟨b, off + k, none⟩ = some vx := by have := l2 0 vx rfl; rwa [Nat.mul_one, Nat.add_zero] at this
      have HW6 := HWk
      have HG6 := HGk
      have hnl : (((xs.take k).map f).flatten).length ≤ 20000000000000 := by
        have h1 := flat_le f M (xs.take k) (fun y hy => HF.out y (List.mem_of_mem_take hy))
        have h2 : (xs.take k).length ≤ 2000 := by rw [List.length_take]; omega
        have h3 := Nat.mul_le_mul h2 hM
        omega
      have hcall := HP.out wr _ _ x [vx] HM.out HW6.out (by rw [List.length_append, List.length_append]; have := HL.out; omega) HE.out
      simp only [List.head!] at hcall
      clear hnl l2
      go_wp2_with (go_at_fn g; refine hcall.mono ?_; rintro e w7 ⟨v7, rfl, ho7, hg7⟩)
      have HW7 := Lib.hid (HW6.out.grew ho7 hg7)
      have HG7 := Lib.hid (HG6.out.trans hg7)
      have e7 : ys ++ (E ++ ((xs.take k).map f).flatten) ++ f x = ys ++ (E ++ ((xs.take (k + 1)).map f).flatten) := by rw [flat_take f xs k x HX.out]; simp only [List.append_assoc]
      rw [e7] at HW7
      clear ho7 hg7 e7 hcall
      go_roundw
      case rel => exact ⟨k + 1, by omega, by go_num, HW7, HG7⟩
      case measure => simp [intOf]; omega
    · obtain rfl : k = n := by omega
      go_wp2
      go_ret
      have hgl := HGk.out
      rw [HV.out] at hgl
      refine ⟨_, rfl, ?_, hgl⟩
      have := HWk.out.own
      rw [List.take_of_length_le (by have := HN.out; omega)] at this
      rw [HC.out]; exact this
end Go.Proofs.YtndobjlodpkknaaGreatDoor
namespace Go.Proofs.YtndobjlodpkknaaGreatDoor
open Go Go.RowKit
set_option linter.unusedVariables false
def OutB (w : World) (x : Bs × Int) (e : Ending) (w' : World) : Prop := ∃ v, e = .returned (.tuple #[v, .int .i64 x.2]) ∧ Own8 w' w.heap.size v x.1 ∧ Below w.heap.size w w'
theorem OutB.of {w w' : World} {x : Bs × Int} {v : Value} {bs : Bs} {k : Int} (h : Hid (x = (bs, k))) (ho : Own8 w' w.heap.size v bs) (hb : Below w.heap.size w w') : OutB w x (.returned (.tuple #[v, .int .i64 k])) w' := by
  have := h.out
  subst this
  exact ⟨v, rfl, ho, hb⟩
theorem ESl.mem {α : Type} {E : World → α → List Value → Prop} {N : Nat} {w : World} {v : Value} {xs : List α} (h : ESl E N w v xs) {x : α} (hx : x ∈ xs) : ∃ cs, E w x cs := by
  obtain ⟨p, n, c, _, _, _, _, hr, _⟩ := h
  obtain ⟨b, off, _, _, hc⟩ := hr (by intro e; rw [e] at hx; cases hx)
  obtain ⟨i, hi⟩ := List.getElem?_of_mem hx
  obtain ⟨cs, h1, _⟩ := hc i x hi
  exact ⟨cs, h1⟩
theorem text_le {b : Bs} {n : Nat} (h : b.length ≤ n) : (text b).length ≤ n + 9 := by
  unfold text; rw [List.length_append]; have := enc_len (BitVec.ofNat 64 b.length); omega
theorem canTx_all {t : TTx} (h : canTx t = true) : 0 < t.is.length ∧ t.is.length ≤ 2000 ∧ t.os.length ≤ 2000 ∧ (∀ x ∈ t.is, x.sc.length ≤ 10000 ∧ x.wi.length ≤ 100 ∧ ∀ b ∈ x.wi, b.length ≤ 10000) ∧ ∀ x ∈ t.os, ¬ x.va.toInt < 0 ∧ x.sc.length ≤ 10000 := by
  unfold canTx at h
  simp only [Bool.and_eq_true, decide_eq_true_eq, List.all_eq_true] at h
  refine ⟨h.1, h.2.1, h.2.2.1, fun x hx => ?_, fun x hx => ?_⟩
  · have := h.2.2.2.1 x hx
    unfold canIn at this
    simp only [Bool.and_eq_true, Bool.not_eq_true', decide_eq_false_iff_not, List.all_eq_true] at this
    exact ⟨by omega, by omega, fun b hb => by have := this.2.2 b hb; omega⟩
  · have := h.2.2.2.2 x hx
    unfold canOut at this
    simp only [Bool.and_eq_true, Bool.not_eq_true', decide_eq_false_iff_not] at this
    exact ⟨this.1, by omega⟩
theorem listIn_tx {t : TTx} (h : canTx t = true) (u : Value) (w0 w : World) (v : Value) (ys : Bs) (hu : ESl InC 36 w0 u t.is) (hw : Wr w0 w v ys) (hl : ys.length ≤ 50000000000000) :
    Calls Tryz.prog 45 #[v, u, .func (.func 46) #[] #[]] w (AppTo w w0.heap.size v (ys ++ insB t.is)) := by
  obtain ⟨_, h2, _, h4, _⟩ := canTx_all h
  refine listIns_any inB 10049 46 (enters_of Tryz.func46 (by kernel_rfl) rfl) u t.is h2 (by omega) (fun x hx => ?_) w0 w v ys hu hw hl fun W v' zs x cs hm hw' hl' hE => txIn_any x cs (by have := (h4 x hm).1; omega) w0 W v' zs hE hw' hl'
  obtain ⟨cs, _, _, _, hid, _⟩ := hu.mem hx
  have := text_le (h4 x hx).1
  unfold inB
  rw [List.length_append, List.length_append, List.length_append, hid, le32, le32, low_len, low_len]
  omega
theorem listOut_tx {t : TTx} (h : canTx t = true) (u : Value) (w0 w : World) (v : Value) (ys : Bs) (hu : ESl OutC 2 w0 u t.os) (hw : Wr w0 w v ys) (hl : ys.length ≤ 50000000000000) :
    Calls Tryz.prog 44 #[v, u, .func (.func 47) #[] #[]] w (AppTo w w0.heap.size v (ys ++ outsB t.os)) := by
  obtain ⟨_, _, h3, _, h5⟩ := canTx_all h
  refine listOuts_any outB 10049 47 (enters_of Tryz.func47 (by kernel_rfl) rfl) u t.os h3 (by omega) (fun x hx => ?_) w0 w v ys hu hw hl fun W v' zs x cs hm hw' hl' hE => txOut_any x cs (by have := (h5 x hm).2; omega) w0 W v' zs hE hw' hl'
  have := text_le (h5 x hx).2
  unfold outB
  rw [List.length_append, low_len]
  omega
theorem listWit_tx (xs : List Bs) (h : xs.length ≤ 100) (h2 : ∀ b ∈ xs, b.length ≤ 10000) (u : Value) (w0 w : World) (v : Value) (ys : Bs) (hu : ESl TextC 1 w0 u xs) (hw : Wr w0 w v ys) (hl : ys.length ≤ 50000000000000) :
    Calls Tryz.prog 48 #[v, u, .func (.func 49) #[] #[]] w (AppTo w w0.heap.size v (ys ++ witB xs)) := by
  refine listTexts_any text 10009 49 (enters_of Tryz.func49 (by kernel_rfl) rfl) u xs (by omega) (by omega) (fun x hx => text_le (h2 x hx)) w0 w v ys hu hw hl fun W v' zs x cs hm hw' hl' hE => ?_
  obtain ⟨vx, rfl, hs⟩ := hE
  exact txText_any vx x (by have := h2 x hm; omega) w0.heap.size W v' zs hw'.below.size (hs.below hw'.below (Nat.le_refl _)) hw'.own (by omega)
theorem info_Tx {cs : List Value} (h : cs.length = 4) : (Tryz.prog.info? 69).map (·.size) = some cs.length := by rw [h]; kernel_rfl
theorem cntB_len (n : Nat) : (cntB n).length ≤ 9 := enc_len _
theorem insB_len {t : TTx} (h : canTx t = true) {w : World} {u : Value} (hu : ESl InC 36 w u t.is) : (insB t.is).length ≤ 1000000000 := by
  obtain ⟨_, h2, _, h4, _⟩ := canTx_all h
  have := flat_le inB 10049 t.is fun x hx => by
    obtain ⟨cs, _, _, _, hid, _⟩ := hu.mem hx
    have := text_le (h4 x hx).1
    unfold inB
    rw [List.length_append, List.length_append, List.length_append, hid, le32, le32, low_len, low_len]
    omega
  have h3 := cntB_len t.is.length
  unfold insB
  rw [List.length_append]
  omega
theorem outsB_len {t : TTx} (h : canTx t = true) : (outsB t.os).length ≤ 1000000000 := by
  obtain ⟨_, _, h3, _, h5⟩ := canTx_all h
  have := flat_le outB 10049 t.os fun x hx => by
    have := text_le (h5 x hx).2
    unfold outB
    rw [List.length_append, low_len]
    omega
  have h4 := cntB_len t.os.length
  unfold outsB
  rw [List.length_append]
  omega
end Go.Proofs.YtndobjlodpkknaaGreatDoor
namespace Go.Proofs.YtndobjlodpkknaaGreatDoor
open Go Go.RowKit
set_option linter.unusedVariables false
set_option maxRecDepth 100000 in
set_option maxHeartbeats 8000000 in
theorem txEncode_any (t : TTx) (cs : List Value) (m : Bool) (w : World) (hc : TxC w t cs) : Calls Tryz.prog 25 #[.agg cs.toArray, .bool m] w (OutB w (txP t m)) := by
  have HC := Lib.hid hc
  obtain ⟨iv, ov, rfl, hi, ho⟩ := hc
  have hb1 := below_new w (.cells #[u32 t.ve, iv, ov, u32 t.lo] 69)
  have HB := Lib.hid (Blk.new w 69 #[u32 t.ve, iv, ov, u32 t.lo])
  have HI := Lib.hid hi
  have HO := Lib.hid ho
  obtain ⟨vv, hvv⟩ : ∃ v, v = u32 t.ve := ⟨_, rfl⟩
  obtain ⟨vl, hvl⟩ : ∃ v, v = u32 t.lo := ⟨_, rfl⟩
  rw [← hvv, ← hvl] at hb1 HB HC ⊢
  have HVV := Lib.hid hvv
  have HVL := Lib.hid hvl
  clear hi ho hvv hvl
  go_enter Tryz.func25, Tryz.ntmps25
  go_upto_region 1 with fail
  generalize w.alloc (.cells #[vv, iv, ov, vl] 69) = w1 at *
  have l1 := blk_range HB.out
  have HC1 := Lib.hid (txC_keeps _ _ _ _ HC.out hb1)
  have hcan := txCan_any t _ w1 HC1.out
  obtain ⟨r, hr⟩ : ∃ r, r = canTx t := ⟨_, rfl⟩
  rw [← hr] at hcan
  have HR := Lib.hid hr
  clear hr
  go_wp2_with ((with_reducible refine wpList_load_mid (op := ⟨some 9, _, _, _, _, _⟩) ?_ 69 (.tmp 2) ?_ (w.heap.size) (0) ?_ ([vv, iv, ov, vl]) _ (l1) Tryz.underlying69 ?_ ?_ ?_
                · rfl
                · rfl
                · rfl
                · rfl
                · exact ((info_Tx rfl))))
  refine hcan.mono ?_
  rintro e w2 ⟨rfl, hb2⟩
  cases r with
  | false =>
    have HP : Hid (txP t m = ([], 1)) := Lib.hid (by unfold txP; rw [← HR.out]; rfl)
    go_wp2_with fail
    go_ret2
    exact OutB.of HP ⟨rfl, .inl ⟨rfl, rfl⟩⟩ (below_fut hb1 hb2 (Nat.le_refl _))
  | true =>
    have HB2 := Lib.hid (HB.out.fut hb2)
    have hbw2 := below_fut hb1 hb2 (Nat.le_refl _)
    have HW2 : Hid (Wr w w2 (.slice none 0 0) []) := Lib.hid ⟨hbw2, rfl, .inl ⟨rfl, rfl⟩⟩
    have HC2 := Lib.hid (txC_keeps _ _ _ _ HC.out hbw2)
    have HLT : Hid (w.heap.size < w2.heap.size) := Lib.hid HB2.out.lt
    have c0 : w2.cell? ⟨w.heap.size, 0, none⟩ = some (.int .u32 (iv32 t.ve)) := by
      have := HB2.out.cell 0
      simp only [List.getElem?_toArray, List.getElem?_cons_zero] at this
      rw [this, HVV.out]
    have e0 := ext32_64 t.ve
    clear hb1 hb2 hbw2 l1 hcan
    go_wp2_with fail
    refine (txLow_any (t.ve.setWidth 64) 4 (by omega) w.heap.size _ _ [] HW2.out.below.size HW2.out.own (by simp)).mono ?_
    rintro e w3 ⟨v3, rfl, ho3, hg3⟩
    rw [List.nil_append] at ho3
    have HW3 := Lib.hid (HW2.out.grew ho3 hg3)
    have HB3 := Lib.hid (hg3.blk HB2.out (by simp [Value.ownBlock]))
    have HN3 : Hid (v3.ownBlock ≠ some w.heap.size) := Lib.hid (hg3.not (by simp [Value.ownBlock]) HLT.out)
    clear ho3 hg3 c0 e0
    have l3 := blk_range HB3.out
    have hwt := witnessed_any t _ w3 (txC_keeps _ _ _ _ HC.out HW3.out.below)
    go_upto_region 4 with fail
    cases m with
    | false =>
      have HP : Hid (txP t false = (txB t false, 0)) := Lib.hid (by unfold txP; rw [← HR.out]; rfl)
      go_upto_region 7 with fail
      have hcan' : canTx t = true := HR.out.symm
      have hY : Hid (Own8 w3 w.heap.size v3 (le32 t.ve)) := Lib.hid HW3.out.own
      refine region_plan [qq 0, qq 1, qq 2, qq 4, qq 5, oo 3, oo 6, qq 7] (fun W => Blk W w.heap.size 69 #[vv, iv, ov, vl]) (by kernel_rfl) (by kernel_rfl) (HB3.out.fut (below_draws w3 1)) ?_
      refine' plan_quiet (s := 50) (A1 := _) [0, 1, 2, 4, 5] [_, _, _, _, _] _ rfl rfl rfl (fun W hW => ?hq1) _ (HB3.out.fut (below_draws w3 1)) (fun _ => ?hr1)
      case hq1 =>
        have c1 : ∀ k, (W.drewN k).cell? ⟨w.heap.size, 1, none⟩ = some iv := fun k => by have := hW.cell 1; simpa using this
        have c2 : ∀ k, (W.drewN k).cell? ⟨w.heap.size, 2, none⟩ = some ov := fun k => by have := hW.cell 2; simpa using this
        simp only [List.getElem_toArray, List.getElem_cons_zero, List.getElem_cons_succ]
        iterate 5 (go_big_quiet_step (fail))
        refine wpQuiet_nil ?_
        rfl
      case hr1 =>
      refine plan_one rfl fun k1 => ?_
      go_wp2_with fail
      have hw5 := HW3.out.fut (below_draws w3 (1 + k1))
      refine (listIn_tx hcan' iv w _ v3 (le32 t.ve) HI.out hw5 (by simp [le32_len])).mono ?_
      rintro e w6 ⟨v6, rfl, ho6, hg6⟩
      have hbk6 := hg6.blk (HB3.out.fut (below_draws w3 (1 + k1))) HN3.out
      have HW6 := Lib.hid (hw5.grew ho6 hg6)
      have HN6 := Lib.hid (hg6.not HN3.out HB3.out.lt)
      clear ho6 hg6 hw5
      go_wp2_with fail
      refine planQ_normal (And.intro hbk6 ?_)
      refine plan_one rfl fun k2 => ?_
      have hw7 := HW6.out.fut (below_draws w6 k2)
      have hbk7 := hbk6.fut (below_draws w6 k2)
      go_wp2_with fail
      refine (listOut_tx hcan' ov w _ v6 (le32 t.ve ++ insB t.is) HO.out hw7 (by have := insB_len hcan' HI.out; simp [le32_len]; omega)).mono ?_
      rintro e w8 ⟨v8, rfl, ho8, hg8⟩
      have hbk8 := hg8.blk hbk7 HN6.out
      have HW8 := Lib.hid (hw7.grew ho8 hg8)
      have HN8 := Lib.hid (hg8.not HN6.out hbk7.lt)
      clear ho8 hg8 hw7 hbk7 hbk6
      go_wp2_with fail
      refine planQ_normal (And.intro hbk8 ?_)
      refine' plan_quiet (s := 50) (A1 := _) (r := []) [7] [_] _ rfl rfl rfl (fun W hW => ?hq2) _ hbk8 (fun _ => ?hr2)
      case hq2 =>
        simp only [List.getElem_toArray, List.getElem_cons_zero, List.getElem_cons_succ]
        iterate 1 (go_big_quiet_step (fail))
        refine wpQuiet_nil ?_
        rfl
      case hr2 =>
      refine plan_end fun k4 => NoPanic.normal ?_
      have HW9 := Lib.hid (HW8.out.fut (below_draws w8 k4))
      have HB9 := Lib.hid (hbk8.fut (below_draws w8 k4))
      clear hbk8
      generalize w8.drewN k4 = w9 at *
      go_upto_region 14 with fail
      have c3 : w9.cell? ⟨w.heap.size, 3, none⟩ = some (.int .u32 (iv32 t.lo)) := by
        have := HB9.out.cell 3
        simp only [List.getElem?_toArray, List.getElem?_cons_zero, List.getElem?_cons_succ] at this
        rw [this, HVL.out]
      have e9 := ext32_64 t.lo
      go_wp2_with fail
      have hil := insB_len hcan' HI.out
      have hol := outsB_len hcan'
      refine (txLow_any (t.lo.setWidth 64) 4 (by omega) w.heap.size _ v8 (le32 t.ve ++ insB t.is ++ outsB t.os) HW9.out.below.size HW9.out.own (by simp [le32_len]; omega)).mono ?_
      rintro e wa ⟨va, rfl, hoa, hga⟩
      have HWA := Lib.hid (HW9.out.grew hoa hga)
      go_wp2_with fail
      go_ret2
      refine OutB.of HP ?_ HWA.out.below
      have e : txB t false = le32 t.ve ++ insB t.is ++ outsB t.os ++ low (t.lo.setWidth 64) 4 := by
        unfold txB le32
        simp only [List.append_assoc, Bool.false_eq_true, if_false, List.nil_append]
      rw [e]
      exact HWA.out.own
    | true =>
      go_wp2_with ((with_reducible refine wpList_load_midG (op := ⟨some 18, _, _, _, _, _⟩) ?_ 69 (.tmp 2) ?_ (w.heap.size) (0) ?_ ([vv, iv, ov, vl]) _ (l3) Tryz.underlying69 ?_ ?_ ?_
                    · rfl
                    · rfl
                    · rfl
                    · rfl
                    · exact ((info_Tx rfl))))
      refine hwt.mono ?_
      rintro e w4 ⟨rfl, hb4⟩
      have HW4 := Lib.hid (HW3.out.fut hb4)
      have HB4 := Lib.hid (HB3.out.fut hb4)
      obtain ⟨s, hs⟩ : ∃ s, s = hasWs t.is := ⟨_, rfl⟩
      rw [← hs]
      have HS := Lib.hid hs
      clear hs hb4 l3 hwt
      cases s with
      | false =>
        have HP : Hid (txP t true = (txB t false, 0)) := Lib.hid (by unfold txP; rw [← HR.out, ← HS.out]; rfl)
        go_upto_region 7 with fail
        have hcan' : canTx t = true := HR.out.symm
        have hY : Hid (Own8 w4 w.heap.size v3 (le32 t.ve)) := Lib.hid HW4.out.own
        refine region_plan [qq 0, qq 1, qq 2, qq 4, qq 5, oo 3, oo 6, qq 7] (fun W => Blk W w.heap.size 69 #[vv, iv, ov, vl]) (by kernel_rfl) (by kernel_rfl) (HB4.out.fut (below_draws w4 1)) ?_
        refine' plan_quiet (s := 50) (A1 := _) [0, 1, 2, 4, 5] [_, _, _, _, _] _ rfl rfl rfl (fun W hW => ?hq1) _ (HB4.out.fut (below_draws w4 1)) (fun _ => ?hr1)
        case hq1 =>
          have c1 : ∀ k, (W.drewN k).cell? ⟨w.heap.size, 1, none⟩ = some iv := fun k => by have := hW.cell 1; simpa using this
          have c2 : ∀ k, (W.drewN k).cell? ⟨w.heap.size, 2, none⟩ = some ov := fun k => by have := hW.cell 2; simpa using this
          simp only [List.getElem_toArray, List.getElem_cons_zero, List.getElem_cons_succ]
          iterate 5 (go_big_quiet_step (fail))
          refine wpQuiet_nil ?_
          rfl
        case hr1 =>
        refine plan_one rfl fun k1 => ?_
        go_wp2_with fail
        have hw5 := HW4.out.fut (below_draws w4 (1 + k1))
        refine (listIn_tx hcan' iv w _ v3 (le32 t.ve) HI.out hw5 (by simp [le32_len])).mono ?_
        rintro e w6 ⟨v6, rfl, ho6, hg6⟩
        have hbk6 := hg6.blk (HB4.out.fut (below_draws w4 (1 + k1))) HN3.out
        have HW6 := Lib.hid (hw5.grew ho6 hg6)
        have HN6 := Lib.hid (hg6.not HN3.out HB4.out.lt)
        clear ho6 hg6 hw5
        go_wp2_with fail
        refine planQ_normal (And.intro hbk6 ?_)
        refine plan_one rfl fun k2 => ?_
        have hw7 := HW6.out.fut (below_draws w6 k2)
        have hbk7 := hbk6.fut (below_draws w6 k2)
        go_wp2_with fail
        refine (listOut_tx hcan' ov w _ v6 (le32 t.ve ++ insB t.is) HO.out hw7 (by have := insB_len hcan' HI.out; simp [le32_len]; omega)).mono ?_
        rintro e w8 ⟨v8, rfl, ho8, hg8⟩
        have hbk8 := hg8.blk hbk7 HN6.out
        have HW8 := Lib.hid (hw7.grew ho8 hg8)
        have HN8 := Lib.hid (hg8.not HN6.out hbk7.lt)
        clear ho8 hg8 hw7 hbk7 hbk6
        go_wp2_with fail
        refine planQ_normal (And.intro hbk8 ?_)
        refine' plan_quiet (s := 50) (A1 := _) (r := []) [7] [_] _ rfl rfl rfl (fun W hW => ?hq2) _ hbk8 (fun _ => ?hr2)
        case hq2 =>
          simp only [List.getElem_toArray, List.getElem_cons_zero, List.getElem_cons_succ]
          iterate 1 (go_big_quiet_step (fail))
          refine wpQuiet_nil ?_
          rfl
        case hr2 =>
        refine plan_end fun k4 => NoPanic.normal ?_
        have HW9 := Lib.hid (HW8.out.fut (below_draws w8 k4))
        have HB9 := Lib.hid (hbk8.fut (below_draws w8 k4))
        clear hbk8
        generalize w8.drewN k4 = w9 at *
        go_upto_region 14 with fail
        have c3 : w9.cell? ⟨w.heap.size, 3, none⟩ = some (.int .u32 (iv32 t.lo)) := by
          have := HB9.out.cell 3
          simp only [List.getElem?_toArray, List.getElem?_cons_zero, List.getElem?_cons_succ] at this
          rw [this, HVL.out]
        have e9 := ext32_64 t.lo
        go_wp2_with fail
        have hil := insB_len hcan' HI.out
        have hol := outsB_len hcan'
        refine (txLow_any (t.lo.setWidth 64) 4 (by omega) w.heap.size _ v8 (le32 t.ve ++ insB t.is ++ outsB t.os) HW9.out.below.size HW9.out.own (by simp [le32_len]; omega)).mono ?_
        rintro e wa ⟨va, rfl, hoa, hga⟩
        have HWA := Lib.hid (HW9.out.grew hoa hga)
        go_wp2_with fail
        go_ret2
        refine OutB.of HP ?_ HWA.out.below
        have e : txB t false = le32 t.ve ++ insB t.is ++ outsB t.os ++ low (t.lo.setWidth 64) 4 := by
          unfold txB le32
          simp only [List.append_assoc, Bool.false_eq_true, if_false, List.nil_append]
        rw [e]
        exact HWA.out.own
      | true =>
        have HP : Hid (txP t true = (txB t true, 0)) := Lib.hid (by unfold txP; rw [← HR.out, ← HS.out]; rfl)
        go_upto_region 6 with fail
        have ho4 := HW4.out.own.alloc (.cells #[.int .u8 0, .int .u8 1] 5)
        have hr4 : Row8 (w4.alloc (.cells #[.int .u8 0, .int .u8 1] 5)) (some ⟨w4.heap.size, 0, none⟩) [0#8, 1#8] := hCells_row (l := [0#8, 1#8]) (Blk.new w4 _ _)
        have hs4 : w.heap.size ≤ (w4.alloc (.cells #[.int .u8 0, .int .u8 1] 5)).heap.size := by rw [World.size_alloc]; have := HW4.out.below.size; omega
        have hb4 := Below.refl w.heap.size (w4.alloc (.cells #[.int .u8 0, .int .u8 1] 5))
        go_wp2_with ((with_reducible refine wp_append8 (o := ⟨some 24, _, _, _, _, _⟩) ?_ (.tmp 22) (.tmp 23) ?_ (w.heap.size) _ ((le32 t.ve)) ?_ (ho4) (some ⟨w4.heap.size, 0, none⟩) (2) (2) ([0#8, 1#8]) ?_ (rfl) (hr4) ?_ (hs4) (w.heap.size) ((w4.alloc (.cells #[.int .u8 0, .int .u8 1] 5))) (hb4) ?_ ?_
                      · rfl
                      · rfl
                      · rfl
                      · rfl
                      · rw [le32_len]; simp only [List.length_cons, List.length_nil]; omega
                      · exact Nat.le_refl _
                      intro v5 w5 ho5 hb5 hg5 hj5))
        have HGm := Lib.hid (Grew.ahead (below_new w4 _) (Grew.of_app hg5 hj5))
        have HW5 := Lib.hid (HW4.out.grew ho5 HGm.out)
        have HB5 := Lib.hid (HGm.out.blk HB4.out HN3.out)
        have HN5 := Lib.hid (HGm.out.not HN3.out HB4.out.lt)
        clear ho5 hb5 hg5 hj5 ho4 hr4 hs4 hb4
        have hcan' : canTx t = true := HR.out.symm
        have hY : Hid (Own8 w5 w.heap.size v5 (le32 t.ve ++ [0#8, 1#8])) := Lib.hid HW5.out.own
        refine region_plan [qq 0, qq 1, qq 2, qq 4, qq 5, oo 3, oo 6, qq 7] (fun W => Blk W w.heap.size 69 #[vv, iv, ov, vl]) (by kernel_rfl) (by kernel_rfl) (HB5.out.fut (below_draws w5 1)) ?_
        refine' plan_quiet (s := 50) (A1 := _) [0, 1, 2, 4, 5] [_, _, _, _, _] _ rfl rfl rfl (fun W hW => ?hq1) _ (HB5.out.fut (below_draws w5 1)) (fun _ => ?hr1)
        case hq1 =>
          have c1 : ∀ k, (W.drewN k).cell? ⟨w.heap.size, 1, none⟩ = some iv := fun k => by have := hW.cell 1; simpa using this
          have c2 : ∀ k, (W.drewN k).cell? ⟨w.heap.size, 2, none⟩ = some ov := fun k => by have := hW.cell 2; simpa using this
          simp only [List.getElem_toArray, List.getElem_cons_zero, List.getElem_cons_succ]
          iterate 5 (go_big_quiet_step (fail))
          refine wpQuiet_nil ?_
          rfl
        case hr1 =>
        refine plan_one rfl fun k1 => ?_
        go_wp2_with fail
        have hw5 := HW5.out.fut (below_draws w5 (1 + k1))
        refine (listIn_tx hcan' iv w _ v5 (le32 t.ve ++ [0#8, 1#8]) HI.out hw5 (by simp [le32_len])).mono ?_
        rintro e w6 ⟨v6, rfl, ho6, hg6⟩
        have hbk6 := hg6.blk (HB5.out.fut (below_draws w5 (1 + k1))) HN5.out
        have HW6 := Lib.hid (hw5.grew ho6 hg6)
        have HN6 := Lib.hid (hg6.not HN5.out HB5.out.lt)
        clear ho6 hg6 hw5
        go_wp2_with fail
        refine planQ_normal (And.intro hbk6 ?_)
        refine plan_one rfl fun k2 => ?_
        have hw7 := HW6.out.fut (below_draws w6 k2)
        have hbk7 := hbk6.fut (below_draws w6 k2)
        go_wp2_with fail
        refine (listOut_tx hcan' ov w _ v6 (le32 t.ve ++ [0#8, 1#8] ++ insB t.is) HO.out hw7 (by have := insB_len hcan' HI.out; simp [le32_len]; omega)).mono ?_
        rintro e w8 ⟨v8, rfl, ho8, hg8⟩
        have hbk8 := hg8.blk hbk7 HN6.out
        have HW8 := Lib.hid (hw7.grew ho8 hg8)
        have HN8 := Lib.hid (hg8.not HN6.out hbk7.lt)
        clear ho8 hg8 hw7 hbk7 hbk6
        go_wp2_with fail
        refine planQ_normal (And.intro hbk8 ?_)
        refine' plan_quiet (s := 50) (A1 := _) (r := []) [7] [_] _ rfl rfl rfl (fun W hW => ?hq2) _ hbk8 (fun _ => ?hr2)
        case hq2 =>
          simp only [List.getElem_toArray, List.getElem_cons_zero, List.getElem_cons_succ]
          iterate 1 (go_big_quiet_step (fail))
          refine wpQuiet_nil ?_
          rfl
        case hr2 =>
        refine plan_end fun k4 => NoPanic.normal ?_
        have HW9 := Lib.hid (HW8.out.fut (below_draws w8 k4))
        have HB9 := Lib.hid (hbk8.fut (below_draws w8 k4))
        clear hbk8
        generalize w8.drewN k4 = w9 at *
        have c1 : w9.cell? ⟨w.heap.size, 1, none⟩ = some iv := by
          have := HB9.out.cell 1
          simpa using this
        obtain ⟨q, n, c, rfl, hn, hnc, hcm, hr, _⟩ := id HI.out
        have HR1 := Lib.hid hr
        have HN := Lib.hid hn
        obtain ⟨_, hn2, _, hall, _⟩ := canTx_all hcan'
        rw [hn] at hn2
        have HALL := Lib.hid hall
        have hil := insB_len hcan' HI.out
        have hol := outsB_len hcan'
        obtain ⟨P, hP⟩ : ∃ P, P = le32 t.ve ++ [0#8, 1#8] ++ insB t.is ++ outsB t.os := ⟨_, rfl⟩
        have hPl : P.length ≤ 3000000000 := by rw [hP]; simp [le32_len]; omega
        rw [← hP] at HW9
        have HPP := Lib.hid hP
        have HPL := Lib.hid hPl
        obtain ⟨p8, n8, c8, rfl⟩ := HW9.out.opens
        clear hP hPl hil hol hn hr hall
        go_upto_region 10 with fail
        go_loopw [6, 36] (fun u i wr => ∃ k : Nat, k ≤ n ∧ i = .int .i64 k ∧ Hid (Wr w wr u (P ++ witsB (t.is.take k))) ∧ Hid (Blk wr w.heap.size 69 #[vv, .slice q n c, ov, vl]) ∧ Hid (u.ownBlock ≠ some w.heap.size)) (fun _ i _ => n - (intOf i).toNat)
        case atStart => exact ⟨0, by omega, rfl, Lib.hid (by rw [List.take_zero]; simpa [witsB] using HW9.out), HB9, HN8⟩
        case round =>
          obtain ⟨k, hk, rfl, HWk, HBk, HNk⟩ := hrel
          obtain ⟨pk, nk, ck, rfl⟩ := HWk.out.opens
          by_cases hkn : k < n
          · have hlt : (k : Int) < (n : Int) := by omega
            have hx := List.getElem?_eq_getElem (l := t.is) (i := k) (by have := HN.out; omega)
            obtain ⟨x, hxe⟩ : ∃ x, x = t.is[k]'(by have := HN.out; omega) := ⟨_, rfl⟩
            rw [← hxe] at hx
            have hmem := List.mem_of_getElem? hx
            obtain ⟨b, off, rfl, hb, hcs⟩ := HR1.out (by intro h; rw [h] at hx; cases hx)
            obtain ⟨cs, hE, h2⟩ := hcs k x hx
            have l3 := hE.len
            have l2 : wr.rangeAt b (off + k * 36) cs := range_fut h2 HWk.out.below hb
            have HX := Lib.hid hx
            have hone := hE.one
            obtain ⟨_, wv, _, _, _, k35, _, hwv⟩ := hE.cell
            have HWV := Lib.hid hwv
            have HAL := Lib.hid (HALL.out x hmem)
            have K35 := Lib.hid k35
            obtain ⟨Z, hZl, hz⟩ := zeroIn
            have HZ := Lib.hid hZl
            have H3 := Lib.hid l3
            have H1 := Lib.hid hone
            clear hx hxe hmem h2 hcs hb hZl l3 hone hE hwv k35
            go_upto_region 12 with (first
              | (with_reducible refine wpList_load_mid (op := ⟨some 39, _, _, _, _, _⟩) ?_ 97 (.tmp 38) ?_ (b) (off + k * 36) ?_ (cs) _ (l2) Tryz.underlying97 ?_ ?_ ?_
                 · rfl
                 · rfl
                 · rfl
                 · rfl
                 · exact ((info_Ins H3.out)))
              | (with_reducible refine wp_store_blk (o := ⟨none, _, _, _, _, _⟩) ?_ 97 (.tmp 8) (.tmp 39) ?_ (wr.heap.size) 97 (Z) (cs.toArray) ?_ ?_ (Blk.new wr _ _) ?_ ?_ ?_ (wr.heap.size) (wr) ?_ ?_ ?_
                 · rfl
                 · rfl
                 · rfl
                 · rfl
                 · exact (by rw [List.size_toArray]; exact info_Ins H3.out)
                 · exact (HZ.out.trans (by rw [List.size_toArray]; exact H3.out.symm))
                 · exact (H1.out)
                 · exact (below_new wr _)
                 · exact (Nat.le_refl _)
                 intro w6 hB6 hb6 hg6 hs6))
            have c35 := hB6.cell 35
            rw [List.getElem?_toArray, K35.out] at c35
            have HWb := Lib.hid (HWk.out.fut hb6)
            have HBb := Lib.hid (HBk.out.fut hb6)
            have hwl : (P ++ witsB (t.is.take k)).length ≤ 50000000000000 := by
              have h1 := flat_le (fun x => witB x.wi) 1001000 (t.is.take k) (fun y hy => by
                have hy2 := HALL.out y (List.mem_of_mem_take hy)
                have h3 := flat_le text 10009 y.wi (fun b hb => text_le (hy2.2.2 b hb))
                have h4 := cntB_len y.wi.length
                unfold witB
                rw [List.length_append]
                have h5 := Nat.mul_le_mul hy2.2.1 (Nat.le_refl 10009)
                omega)
              have h2 : (t.is.take k).length ≤ 2000 := by rw [List.length_take]; omega
              have h3 := Nat.mul_le_mul h2 (Nat.le_refl 1001000)
              have h4 := HPL.out
              unfold witsB
              rw [List.length_append]
              omega
            clear hb6 hg6 hs6 l2 hz hB6
            go_wp2_with fail
            refine (listWit_tx x.wi HAL.out.2.1 HAL.out.2.2 wv w _ _ _ HWV.out HWb.out hwl).mono ?_
            rintro e w7 ⟨v7, rfl, ho7, hg7⟩
            have HW7 := Lib.hid (HWb.out.grew ho7 hg7)
            have HB7 := Lib.hid (hg7.blk HBb.out HNk.out)
            have HN7 := Lib.hid (hg7.not HNk.out HBb.out.lt)
            have e7 : P ++ witsB (t.is.take k) ++ witB x.wi = P ++ witsB (t.is.take (k + 1)) := by
              unfold witsB
              rw [flat_take (fun x => witB x.wi) t.is k x HX.out, List.append_assoc]
            rw [e7] at HW7
            clear ho7 hg7 e7 hwl c35
            go_wp2_with fail
            go_roundw
            case rel => exact ⟨k + 1, by omega, by go_num, HW7, HB7, HN7⟩
            case measure => simp [intOf]; omega
          · obtain rfl : k = n := by omega
            go_upto_region 14 with fail
            have HWL : Hid (Wr w wr (.slice pk nk ck) (P ++ witsB t.is)) := Lib.hid (by
              have := HWk.out
              rwa [List.take_of_length_le (by have := HN.out; omega)] at this)
            have c3 : wr.cell? ⟨w.heap.size, 3, none⟩ = some (.int .u32 (iv32 t.lo)) := by
              have := HBk.out.cell 3
              simp only [List.getElem?_toArray, List.getElem?_cons_zero, List.getElem?_cons_succ] at this
              rw [this, HVL.out]
            have hwl : (P ++ witsB t.is).length ≤ 50000000000000 := by
              have h1 := flat_le (fun x => witB x.wi) 1001000 t.is (fun y hy => by
                have hy2 := HALL.out y hy
                have h3 := flat_le text 10009 y.wi (fun b hb => text_le (hy2.2.2 b hb))
                have h4 := cntB_len y.wi.length
                unfold witB
                rw [List.length_append]
                have h5 := Nat.mul_le_mul hy2.2.1 (Nat.le_refl 10009)
                omega)
              have h2 : t.is.length ≤ 2000 := by have := HN.out; omega
              have h3 := Nat.mul_le_mul h2 (Nat.le_refl 1001000)
              have h4 := HPL.out
              unfold witsB
              rw [List.length_append]
              omega
            have e9 := ext32_64 t.lo
            go_wp2_with fail
            refine (txLow_any (t.lo.setWidth 64) 4 (by omega) w.heap.size _ _ (P ++ witsB t.is) HWL.out.below.size HWL.out.own (by omega)).mono ?_
            rintro e wa ⟨va, rfl, hoa, hga⟩
            have HWA := Lib.hid (HWL.out.grew hoa hga)
            go_wp2_with fail
            go_ret2
            refine OutB.of HP ?_ HWA.out.below
            have e : txB t true = P ++ witsB t.is ++ low (t.lo.setWidth 64) 4 := by
              rw [HPP.out]
              unfold txB le32
              simp only [List.append_assoc, if_true]
            rw [e]
            exact HWA.out.own
end Go.Proofs.YtndobjlodpkknaaGreatDoor
namespace Go.Proofs.YtndobjlodpkknaaGreatDoor
open Go Go.RowKit
set_option linter.unusedVariables false
def Sep (B : Nat) (Ts : List TypeId) (w : World) (S : Nat → Prop) : Prop := ∀ k, S k → k < B ∨ ∃ T cs, Blk w k T cs ∧ T ∉ Ts
theorem Sep.mono {B : Nat} {Ts Ts' : List TypeId} {w : World} {S : Nat → Prop} (h : Sep B Ts w S) (hs : ∀ T, T ∈ Ts' → T ∈ Ts) : Sep B Ts' w S := fun k hk =>
  (h k hk).imp id fun ⟨T, cs, h1, h2⟩ => ⟨T, cs, h1, fun h => h2 (hs T h)⟩
theorem Sep.low {B : Nat} {Ts : List TypeId} {w : World} {S : Nat → Prop} (h : ∀ k, S k → k < B) : Sep B Ts w S := fun k hk => .inl (h k hk)
theorem ownsRow_sep {S : Nat → Prop} {w w' : World} {B : Nat} {e : TypeId} {N : Nat} {v : Value} {n : Nat} {xs : List Value} (h : w.ownsRow B e N v n xs) (hs : Stays S w w') (hp : Sep B [e] w S) : w'.ownsRow B e N v n xs := by
  refine ownsRow_stays h hs fun k hk hS => ?_
  rcases h.2 with ⟨rfl, _⟩ | ⟨g, cap, cur, rfl, hg, hh, _⟩
  · cases hk
  · injection hk with hk
    subst hk
    rcases hp _ hS with h1 | ⟨T, cs, h1, h2⟩
    · exact absurd hg (Nat.not_le.2 h1)
    · have hb : Blk w g e cur := hh
      exact h2 (List.mem_singleton.2 (h1.inj hb).1)
def KeepsO {α : Type} (B : Nat) (Ts : List TypeId) (E : World → α → List Value → Prop) : Prop := ∀ w w' S x cs, E w x cs → Stays S w w' → Sep B Ts w S → E w' x cs
def TextO (B : Nat) (w : World) (x : Bs) (cs : List Value) : Prop := ∃ v, cs = [v] ∧ Own8 w B v x
theorem textO_keeps (B : Nat) : KeepsO B [5] (TextO B) := fun w w' S x cs ⟨v, h1, h2⟩ hs hp => ⟨v, h1, ownsRow_sep h2 hs hp⟩
theorem Own8.sep {B : Nat} {w w' : World} {v : Value} {bs : Bs} {S : Nat → Prop} (h : Own8 w B v bs) (hs : Stays S w w') (hp : Sep B [5] w S) : Own8 w' B v bs := ownsRow_sep h hs hp
def RowO {α : Type} (E : World → α → List Value → Prop) (T N B : Nat) (w : World) (v : Value) (xs : List α) : Prop :=
  ∃ css : List (List Value), css.length = xs.length ∧ w.ownsRow B T N v xs.length css.flatten ∧ ∀ (i : Nat) (x : α), xs[i]? = some x → ∃ cs, css[i]? = some cs ∧ E w x cs ∧ cs.length = N
theorem RowO.nil {α : Type} (E : World → α → List Value → Prop) (T N B : Nat) (w : World) : RowO E T N B w (.slice none 0 0) [] := ⟨[], rfl, ⟨by simp, .inl ⟨rfl, rfl⟩⟩, fun i x h => by cases h⟩
theorem RowO.sep {α : Type} {E : World → α → List Value → Prop} {T N B : Nat} {Ts : List TypeId} {w w' : World} {v : Value} {xs : List α} {S : Nat → Prop} (h : RowO E T N B w v xs) (hE : KeepsO B Ts E) (hs : Stays S w w') (hp : Sep B (T :: Ts) w S) : RowO E T N B w' v xs := by
  obtain ⟨css, h1, h2, h3⟩ := h
  refine ⟨css, h1, ownsRow_sep h2 hs (hp.mono (by simp)), fun i x hx => ?_⟩
  obtain ⟨cs, h4, h5, h6⟩ := h3 i x hx
  exact ⟨cs, h4, hE _ _ _ _ _ h5 hs (hp.mono fun T hT => List.mem_cons_of_mem _ hT), h6⟩
theorem flat_at (N : Nat) : ∀ (css : List (List Value)), (∀ cs ∈ css, cs.length = N) → ∀ (i : Nat) (cs : List Value), css[i]? = some cs → ∀ j, j < N → css.flatten[i * N + j]? = cs[j]?
  | [], _, i, cs, h, j, hj => by cases h
  | c :: css, hl, i, cs, h, j, hj => by
    have hc := hl c (List.mem_cons_self ..)
    cases i with
    | zero =>
      rw [List.getElem?_cons_zero] at h
      injection h with h
      subst h
      rw [List.flatten_cons, Nat.zero_mul, Nat.zero_add, List.getElem?_append_left (by omega)]
    | succ i =>
      rw [List.getElem?_cons_succ] at h
      rw [List.flatten_cons, List.getElem?_append_right (by rw [Nat.succ_mul]; omega), hc, Nat.succ_mul, show i * N + N + j - N = i * N + j by omega]
      exact flat_at N css (fun cs h => hl cs (List.mem_cons_of_mem _ h)) i cs h j hj
theorem css_len {α : Type} {P : α → List Value → Prop} {N : Nat} {xs : List α} {css : List (List Value)} (h1 : css.length = xs.length) (h3 : ∀ (i : Nat) (x : α), xs[i]? = some x → ∃ cs, css[i]? = some cs ∧ P x cs ∧ cs.length = N) : ∀ cs ∈ css, cs.length = N := fun cs hm => by
  obtain ⟨i, hi⟩ := List.getElem?_of_mem hm
  have hlt : i < xs.length := by have := (List.getElem?_eq_some_iff.1 hi).1; omega
  obtain ⟨cs', h4, _, h6⟩ := h3 i _ (List.getElem?_eq_getElem hlt)
  rw [hi] at h4
  injection h4 with h4
  rw [h4]; exact h6
theorem RowO.e {α : Type} {E E' : World → α → List Value → Prop} {T N B : Nat} {w : World} {v : Value} {xs : List α} (h : RowO E T N B w v xs) (hE : ∀ x cs, E w x cs → E' w x cs) : ESl E' N w v xs := by
  obtain ⟨css, h1, h2, h3⟩ := h
  obtain ⟨p, c, rfl, hc, hm, hp, hr⟩ := ownsRow_open h2
  refine ⟨p, _, c, rfl, rfl, hc, by unfold maxLen; omega, fun hn => ?_, hp⟩
  rcases hr with h0 | ⟨g, rfl, hB, hg, hcell⟩
  · exact absurd (List.eq_nil_of_length_eq_zero h0) hn
  · refine ⟨g, 0, rfl, hg, fun i x hx => ?_⟩
    obtain ⟨cs, h4, h5, h6⟩ := h3 i x hx
    refine ⟨cs, hE x cs h5, fun j u hu => ?_⟩
    have hj : j < N := by have := (List.getElem?_eq_some_iff.1 hu).1; omega
    have := flat_at N css (css_len h1 h3) i cs h4 j hj
    rw [Nat.zero_add]
    exact hcell _ u (by rw [this]; exact hu)
theorem RowO.app {α : Type} {E : World → α → List Value → Prop} {T N B : Nat} {Ts : List TypeId} {w w' : World} {v v' : Value} {xs : List α} {css : List (List Value)} (h1 : css.length = xs.length) (h2 : w.ownsRow B T N v xs.length css.flatten) (h3 : ∀ (i : Nat) (x : α), xs[i]? = some x → ∃ cs, css[i]? = some cs ∧ E w x cs ∧ cs.length = N)
    (hE : KeepsO B Ts E) (hT : T ∉ Ts) {x : α} {cs : List Value} (hx : E w x cs) (hl : cs.length = N) (ho : w'.ownsRow B T N v' (xs.length + 1) (css.flatten ++ cs)) (hg : w.grownBy w' v.ownBlock) : RowO E T N B w' v' (xs ++ [x]) := by
  have hs : Stays (fun k => v.ownBlock = some k) w w' := Stays.of_grown hg fun k h => h
  have hsep : Sep B Ts w (fun k => v.ownBlock = some k) := fun k hk => by
    rcases h2.2 with ⟨rfl, _⟩ | ⟨g, cap, cur, rfl, hg, hh, _⟩
    · cases hk
    · injection hk with hk
      subst hk
      exact .inr ⟨T, cur, hh, hT⟩
  refine ⟨css ++ [cs], by simp [h1], by rw [List.length_append, List.flatten_append]; simpa using ho, fun i y hy => ?_⟩
  rcases Nat.lt_or_ge i xs.length with hi | hi
  · rw [List.getElem?_append_left hi] at hy
    obtain ⟨cs', h4, h5, h6⟩ := h3 i y hy
    exact ⟨cs', by rw [List.getElem?_append_left (by omega)]; exact h4, hE _ _ _ _ _ h5 hs hsep, h6⟩
  · rw [List.getElem?_append_right hi] at hy
    have hi0 : i - xs.length = 0 := by
      have := (List.getElem?_eq_some_iff.1 hy).1
      simp at this; omega
    rw [hi0] at hy
    injection hy with hy
    subst hy
    exact ⟨cs, by rw [List.getElem?_append_right (by omega), h1, hi0]; rfl, hE _ _ _ _ _ hx hs hsep, hl⟩
def InO (B : Nat) (w : World) (x : TIn) (cs : List Value) : Prop := ∃ sv wv, cs = hCells x.id ++ [u32 x.ix, sv, u32 x.sq, wv] ∧ x.id.length = 32 ∧ Own8 w B sv x.sc ∧ RowO (TextO B) 28 1 B w wv x.wi
def OutO (B : Nat) (w : World) (x : TOut) (cs : List Value) : Prop := ∃ sv, cs = [.int .i64 x.va.toInt, sv] ∧ Own8 w B sv x.sc
def TxO (B : Nat) (w : World) (t : TTx) (cs : List Value) : Prop := ∃ iv ov, cs = [u32 t.ve, iv, ov, u32 t.lo] ∧ RowO (InO B) 97 36 B w iv t.is ∧ RowO (OutO B) 91 2 B w ov t.os
theorem inO_keeps (B : Nat) : KeepsO B [5, 28] (InO B) := fun w w' S x cs ⟨sv, wv, h1, h2, h3, h4⟩ hs hp => ⟨sv, wv, h1, h2, h3.sep hs (hp.mono (by simp)), h4.sep (textO_keeps B) hs (hp.mono (by simp))⟩
theorem outO_keeps (B : Nat) : KeepsO B [5] (OutO B) := fun w w' S x cs ⟨sv, h1, h2⟩ hs hp => ⟨sv, h1, h2.sep hs hp⟩
theorem txO_keeps (B : Nat) : KeepsO B [5, 28, 97, 91] (TxO B) := fun w w' S x cs ⟨iv, ov, h1, h2, h3⟩ hs hp => ⟨iv, ov, h1, h2.sep (inO_keeps B) hs (hp.mono (by simp)), h3.sep (outO_keeps B) hs (hp.mono (by simp))⟩
theorem TextO.c {B : Nat} {w : World} {x : Bs} {cs : List Value} (h : TextO B w x cs) : TextC w x cs := by obtain ⟨v, h1, h2⟩ := h; exact ⟨v, h1, h2.sl⟩
theorem InO.c {B : Nat} {w : World} {x : TIn} {cs : List Value} (h : InO B w x cs) : InC w x cs := by obtain ⟨sv, wv, h1, h2, h3, h4⟩ := h; exact ⟨sv, wv, h1, h2, h3.sl, h4.e fun _ _ h => h.c⟩
theorem OutO.c {B : Nat} {w : World} {x : TOut} {cs : List Value} (h : OutO B w x cs) : OutC w x cs := by obtain ⟨sv, h1, h2⟩ := h; exact ⟨sv, h1, h2.sl⟩
theorem TxO.c {B : Nat} {w : World} {t : TTx} {cs : List Value} (h : TxO B w t cs) : TxC w t cs := by obtain ⟨iv, ov, h1, h2, h3⟩ := h; exact ⟨iv, ov, h1, h2.e fun _ _ h => h.c, h3.e fun _ _ h => h.c⟩
def Dat (B g : Nat) (w : World) (v : Value) (s : Bs) : Prop := Sl w v s ∧ (s ≠ [] → ∀ k, v.ownBlock = some k → k ≠ g ∧ (k < B ∨ ∃ cs, Blk w k 5 cs))
def Rw (B g : Nat) (w : World) (S : Nat → Prop) : Prop := ∀ k, S k → k = g ∨ B ≤ k ∧ ∃ T cs, Blk w k T cs ∧ T ≠ 5
theorem Dat.stays {B g : Nat} {w w' : World} {v : Value} {s : Bs} {S : Nat → Prop} (h : Dat B g w v s) (hs : Stays S w w') (hS : Rw B g w S) : Dat B g w' v s := by
  obtain ⟨⟨p, n, c, rfl, h1, h2, h3, h4, h5⟩, h6⟩ := h
  have hn : s ≠ [] → ∀ k, (Value.slice p n c).ownBlock = some k → ¬ S k := fun hs0 k hk hSk => by
    obtain ⟨h7, h8⟩ := h6 hs0 k hk
    rcases hS k hSk with h9 | ⟨h9, T, cs, h10, h11⟩
    · exact h7 h9
    · rcases h8 with h8 | ⟨cs', h8⟩
      · omega
      · exact h11 (h10.inj h8).1
  refine ⟨⟨p, n, c, rfl, h1, h2, h3, h4.stays hs (fun hs0 a ha => hn hs0 a.block (by rw [ha]; rfl)), h5⟩, fun hs0 k hk => ?_⟩
  obtain ⟨h7, h8⟩ := h6 hs0 k hk
  exact ⟨h7, h8.imp id fun ⟨cs, h⟩ => ⟨cs, h.stays hs (hn hs0 k hk)⟩⟩
def RdAt (B g : Nat) (w : World) (s : Bs) : Prop := ∃ v, Blk w g 152 #[v] ∧ Dat B g w v s ∧ s.length ≤ 200000000000000 ∧ g < B ∧ B ≤ w.heap.size
theorem RdAt.stays {B g : Nat} {w w' : World} {s : Bs} {S : Nat → Prop} (h : RdAt B g w s) (hs : Stays S w w') (hS : Rw B g w S) (hg : ¬ S g) : RdAt B g w' s := by
  obtain ⟨v, h1, h2, h3, h4, h5⟩ := h
  exact ⟨v, h1.stays hs hg, h2.stays hs hS, h3, h4, Nat.le_trans h5 hs.size⟩
theorem RdAt.fut {B g : Nat} {w w' : World} {s : Bs} (h : RdAt B g w s) (hb : Below w.heap.size w w') : RdAt B g w' s :=
  h.stays (Stays.of_below hb (Nat.le_refl _) (fun _ => False)) (fun _ h => h.elim) id
def RdP {α : Type} (B g : Nat) (w : World) (p : Pz α) (s : Bs) (V : World → α → Value → Prop) (e : Ending) (w' : World) : Prop :=
  match p s with
  | .ok (a, r) => ∃ v, e = .returned v ∧ V w' a v ∧ RdAt B g w' r ∧ Stays (· = g) w w'
  | .error k => e = .panicked [{ v := .iface 38 (.int .i64 k), recovered := false }] ∧ Stays (· = g) w w'
theorem RdP.ok {α : Type} {B g : Nat} {w : World} {p : Pz α} {s : Bs} {V : World → α → Value → Prop} {v : Value} {w' : World} {a : α} {r : Bs} (h : p s = .ok (a, r)) (h1 : V w' a v) (h2 : RdAt B g w' r) (h3 : Stays (· = g) w w') : RdP B g w p s V (.returned v) w' := by
  unfold RdP; rw [h]; exact ⟨v, rfl, h1, h2, h3⟩
def contM {α : Type} (xs : List α) (p : Pz α) (m : Nat) (s : Bs) : Except Int (List α × Bs) := match manyZ p m s with
  | .ok (l, r) => .ok (xs ++ l, r)
  | .error e => .error e
theorem contM_end {α : Type} (xs : List α) (p : Pz α) (s : Bs) : contM xs p 0 s = .ok (xs, s) := by
  unfold contM manyZ Pz.ret
  simp
end Go.Proofs.YtndobjlodpkknaaGreatDoor
