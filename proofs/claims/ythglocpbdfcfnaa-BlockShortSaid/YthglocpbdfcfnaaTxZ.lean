/- Reading, plain: parsers over bytes; what a transaction's bytes say; there and back, once, cut short. -/
import Derived.Test.YthglocpbdfcfnaaTxP
namespace Go.Proofs.Ythglocpbdfcfnaa
set_option linter.unusedVariables false

/-- what is read and what is left, or the error -/
def Pz (α : Type) := Bs → Except Int (α × Bs)
def Pz.ret {α : Type} (a : α) : Pz α := fun s => .ok (a, s)
def Pz.fail {α : Type} (e : Int) : Pz α := fun _ => .error e
def Pz.bind {α β : Type} (p : Pz α) (f : α → Pz β) : Pz β := fun s => match p s with
  | .error e => .error e
  | .ok (a, r) => f a r
def takeZ (n : Nat) : Pz Bs := fun s => if s.length < n then .error 50 else .ok (s.take n, s.drop n)
def numZ (w : Nat) : Pz (BitVec 64) := (takeZ w).bind fun b => Pz.ret (numTo b w)
def cntZ (most : Nat) : Pz Nat := fun s => if (cutP s).2.2 ≠ 0 then .error (cutP s).2.2 else if most < (cutP s).1.toNat then .error 4 else .ok ((cutP s).1.toNat, (cutP s).2.1)
def textZ : Pz Bs := (cntZ 10000).bind takeZ
def manyZ {α : Type} (p : Pz α) : Nat → Pz (List α)
  | 0 => Pz.ret []
  | n + 1 => p.bind fun a => (manyZ p n).bind fun l => Pz.ret (a :: l)
def partsZ {α : Type} (most : Nat) (p : Pz α) : Pz (List α) := (cntZ most).bind (manyZ p)
def inZ : Pz TIn := (takeZ 32).bind fun id => (numZ 4).bind fun ix => textZ.bind fun sc => (numZ 4).bind fun sq => Pz.ret ⟨id, ix.setWidth 32, sc, sq.setWidth 32, []⟩
def outZ : Pz TOut := (numZ 8).bind fun v => if 9223372036854775808 ≤ v.toNat then Pz.fail 51 else textZ.bind fun sc => Pz.ret ⟨v, sc⟩
def witsZ : List TIn → Pz (List TIn)
  | [] => Pz.ret []
  | x :: xs => (partsZ 100 textZ).bind fun w => (witsZ xs).bind fun l => Pz.ret ({ x with wi := w } :: l)
def insZ : Pz (List TIn) := (cntZ 2000).bind fun n => if n = 0 then Pz.fail 51 else manyZ inZ n
def markZ : Pz Bool := fun s => if s[0]? = some 0#8 then (takeZ 2).bind (fun b => if b[1]? = some 1#8 then Pz.ret true else Pz.fail 51) s else .ok (false, s)
def witZ (m : Bool) (is : List TIn) : Pz (List TIn) := if m then (witsZ is).bind fun l => if hasWs l then Pz.ret l else Pz.fail 51 else Pz.ret is
/-- what stands behind version and mark -/
def bodyZ (ve : BitVec 64) (m : Bool) : Pz TTx := insZ.bind fun is => (partsZ 2000 outZ).bind fun os => (witZ m is).bind fun is' => (numZ 4).bind fun lo => Pz.ret ⟨ve.setWidth 32, is', os, lo.setWidth 32⟩
def txZ : Pz TTx := (numZ 4).bind fun ve => markZ.bind (bodyZ ve)

theorem Pz.bind_ok {α β : Type} {p : Pz α} {f : α → Pz β} {s r : Bs} {a : α} (h : p s = .ok (a, r)) : p.bind f s = f a r := by unfold Pz.bind; rw [h]
theorem Pz.bind_err {α β : Type} {p : Pz α} {f : α → Pz β} {s : Bs} {e : Int} (h : p s = .error e) : p.bind f s = .error e := by unfold Pz.bind; rw [h]
theorem Pz.bind_inv {α β : Type} {p : Pz α} {f : α → Pz β} {s r : Bs} {b : β} (h : p.bind f s = .ok (b, r)) : ∃ a r', p s = .ok (a, r') ∧ f a r' = .ok (b, r) := by
  unfold Pz.bind at h
  cases hp : p s with
  | error e => rw [hp] at h; cases h
  | ok x => obtain ⟨a, r'⟩ := x; rw [hp] at h; exact ⟨a, r', rfl, h⟩
theorem takeZ_ok {n : Nat} {s r b : Bs} (h : takeZ n s = .ok (b, r)) : s = b ++ r ∧ b.length = n := by
  unfold takeZ at h
  split at h
  · cases h
  · injection h with h
    injection h with h1 h2
    subst h1 h2
    rw [List.take_append_drop, List.length_take]
    exact ⟨rfl, by omega⟩
theorem takeZ_app {n : Nat} (b r : Bs) (h : b.length = n) : takeZ n (b ++ r) = .ok (b, r) := by
  unfold takeZ
  rw [if_neg (by rw [List.length_append]; omega), List.take_left' h, List.drop_left' h]
theorem takeZ_short {n : Nat} {s : Bs} (h : s.length < n) : takeZ n s = .error 50 := by unfold takeZ; rw [if_pos h]

/-! ### counts -/
theorem cutP_back (s : Bs) (n : BitVec 64) (r : Bs) (h : cutP s = (n, r, 0)) : s = enc n ++ r := by
  cases s with
  | nil => unfold cutP at h; cases h
  | cons b t =>
    have hb : b.toNat < 256 := b.isLt
    have big : ∀ (f : BitVec 8) (w : Nat), b = f → widthP f = w → 0 < w → w ≤ 8 → (∀ m : BitVec 64, ¬ iv64 m < leastP f → m.toNat < 2 ^ (8 * w) → enc m = f :: low m w) → b :: t = enc n ++ r := by
      intro f w hf hw hw0 hw8 henc
      subst hf
      unfold cutP at h
      dsimp only at h
      rw [hw, if_neg (by omega)] at h
      split at h
      · injection h with _ h; injection h with _ h; cases h
      · split at h
        · injection h with _ h; injection h with _ h; cases h
        · rename_i hl hle
          injection h with e1 h
          injection h with e2 _
          subst e1 e2
          rw [henc _ hle (numTo_lt t w hw8), List.cons_append, low_numTo t w hw8 (by omega), List.take_append_drop]
    by_cases h1 : b = 253#8
    · refine big 253#8 2 h1 (by decide) (by omega) (by omega) (fun m hm hl => ?_)
      have : iv64 m = (m.toNat : Int) := rfl
      have h253 : leastP 253#8 = 253 := by decide
      unfold enc
      rw [if_neg (by omega), if_pos (by omega)]
    · by_cases h2 : b = 254#8
      · refine big 254#8 4 h2 (by decide) (by omega) (by omega) (fun m hm hl => ?_)
        have : iv64 m = (m.toNat : Int) := rfl
        have h254 : leastP 254#8 = 65536 := by decide
        unfold enc
        rw [if_neg (by omega), if_neg (by omega), if_pos (by omega)]
      · by_cases h3 : b = 255#8
        · refine big 255#8 8 h3 (by decide) (by omega) (by omega) (fun m hm hl => ?_)
          have : iv64 m = (m.toNat : Int) := rfl
          have h255 : leastP 255#8 = 4294967296 := by decide
          unfold enc
          rw [if_neg (by omega), if_neg (by omega), if_neg (by omega)]
        · have hw : widthP b = 0 := by unfold widthP; rw [if_neg h1, if_neg h2, if_neg h3]
          have n1 : b.toNat ≠ 253 := fun e => h1 (BitVec.eq_of_toNat_eq (by simpa using e))
          have n2 : b.toNat ≠ 254 := fun e => h2 (BitVec.eq_of_toNat_eq (by simpa using e))
          have n3 : b.toNat ≠ 255 := fun e => h3 (BitVec.eq_of_toNat_eq (by simpa using e))
          unfold cutP at h
          dsimp only at h
          rw [hw, if_pos rfl] at h
          injection h with e1 h
          injection h with e2 _
          subst e1 e2
          have hv : (b.setWidth 64).toNat = b.toNat := by rw [BitVec.toNat_setWidth]; omega
          have hi : iv64 (b.setWidth 64) = ((b.setWidth 64).toNat : Int) := rfl
          unfold enc
          rw [if_pos (by omega), List.singleton_append]
          congr 1
          apply BitVec.eq_of_toNat_eq
          rw [BitVec.toNat_setWidth, hv]; omega
theorem cntZ_app (n most : Nat) (h : n ≤ most) (hm : most < 18446744073709551616) (r : Bs) : cntZ most (cntB n ++ r) = .ok (n, r) := by
  unfold cntZ cntB
  rw [cutP_enc, BitVec.toNat_ofNat, Nat.mod_eq_of_lt (by omega), if_neg (by simp), if_neg (by omega)]
theorem cntZ_ok {most n : Nat} {s r : Bs} (h : cntZ most s = .ok (n, r)) : s = cntB n ++ r ∧ n ≤ most := by
  unfold cntZ at h
  split at h
  · cases h
  · split at h
    · cases h
    · rename_i h1 h2
      injection h with h
      injection h with e1 e2
      have h0 : (cutP s).2.2 = 0 := by simpa using h1
      have := cutP_back s (cutP s).1 (cutP s).2.1 (Prod.ext rfl (Prod.ext rfl h0))
      refine ⟨?_, by omega⟩
      unfold cntB
      rw [← e1, ← e2, BitVec.ofNat_toNat, BitVec.setWidth_eq]
      exact this
theorem cntB_short (n : Nat) (a c : Bs) (most : Nat) (h : cntB n = a ++ c) (hc : c ≠ []) : cntZ most a = .error 50 := by
  have hl : a.length < (cntB n).length := by
    rw [h, List.length_append]
    have := List.length_pos_iff.2 hc
    omega
  have ha : a = (cntB n).take a.length := by rw [h, List.take_left]
  rw [ha]
  unfold cntZ cntB
  rw [cutP_cut _ _ hl]
  rfl

/-! ### there and back -/
/-- what f wrote p reads -/
def Reads {α : Type} (p : Pz α) (x : α) (b : Bs) : Prop := ∀ r, p (b ++ r) = .ok (x, r)
theorem Reads.ret {α : Type} (a : α) : Reads (Pz.ret a) a [] := fun r => rfl
theorem Reads.bind {α β : Type} {p : Pz α} {f : α → Pz β} {a : α} {x : β} {b c : Bs} (h : Reads p a b) (h2 : Reads (f a) x c) : Reads (p.bind f) x (b ++ c) := fun r => by
  rw [List.append_assoc, Pz.bind_ok (h _)]
  exact h2 r
theorem Reads.last {α β : Type} {p : Pz α} {f : α → Pz β} {a : α} {x : β} {b : Bs} (h : Reads p a b) (h2 : Reads (f a) x []) : Reads (p.bind f) x b := by
  have := h.bind h2
  rwa [List.append_nil] at this
theorem reads_take (b : Bs) : Reads (takeZ b.length) b b := fun r => takeZ_app b r rfl
theorem reads_takeN (b : Bs) (n : Nat) (h : b.length = n) : Reads (takeZ n) b b := fun r => takeZ_app b r h
theorem reads_num (v : BitVec 64) (w : Nat) (hw : w ≤ 8) (h : v.toNat < 2 ^ (8 * w)) : Reads (numZ w) v (low v w) := by
  refine (reads_takeN (low v w) w (low_len v w)).last fun r => ?_
  have := numTo_low v w [] h
  rw [List.append_nil] at this
  rw [this]
  rfl
theorem reads_cnt (n most : Nat) (h : n ≤ most) (hm : most < 18446744073709551616) : Reads (cntZ most) n (cntB n) := fun r => cntZ_app n most h hm r
theorem reads_text (b : Bs) (h : b.length ≤ 10000) : Reads textZ b (text b) := by
  unfold textZ text
  exact (reads_cnt b.length 10000 h (by omega)).bind (reads_take b)
theorem reads_many {α : Type} (p : Pz α) (f : α → Bs) : ∀ (l : List α), (∀ x ∈ l, Reads p x (f x)) → Reads (manyZ p l.length) l ((l.map f).flatten)
  | [], _ => Reads.ret []
  | x :: l, h => by
    have h1 := h x (List.mem_cons_self ..)
    have h2 := reads_many p f l (fun y hy => h y (List.mem_cons_of_mem _ hy))
    exact h1.bind (h2.last (Reads.ret _))
theorem reads_parts {α : Type} (p : Pz α) (f : α → Bs) (l : List α) (most : Nat) (hl : l.length ≤ most) (hm : most < 18446744073709551616) (h : ∀ x ∈ l, Reads p x (f x)) : Reads (partsZ most p) l (cntB l.length ++ (l.map f).flatten) :=
  (reads_cnt l.length most hl hm).bind (reads_many p f l h)
theorem le32_num (n : BitVec 32) : (n.setWidth 64).toNat < 2 ^ (8 * 4) := by
  have := n.isLt
  rw [BitVec.toNat_setWidth]; omega
theorem reads_le32 (n : BitVec 32) : Reads (numZ 4) (n.setWidth 64) (le32 n) := reads_num _ 4 (by omega) (le32_num n)
theorem set_back (n : BitVec 32) : (n.setWidth 64).setWidth 32 = n := by
  apply BitVec.eq_of_toNat_eq
  have := n.isLt
  rw [BitVec.toNat_setWidth, BitVec.toNat_setWidth]; omega
/-- an input without its witnesses -/
def TIn.bare (x : TIn) : TIn := { x with wi := [] }
theorem reads_in (x : TIn) (h : canIn x = true) (hid : x.id.length = 32) : Reads inZ x.bare (inB x) := by
  unfold canIn at h
  simp only [Bool.and_eq_true, Bool.not_eq_true', decide_eq_false_iff_not] at h
  unfold inZ inB
  refine (reads_takeN x.id 32 hid).bind ((reads_le32 x.ix).bind ((reads_text x.sc (by omega)).bind ((reads_le32 x.sq).last ?_)))
  rw [set_back, set_back]
  exact Reads.ret _
theorem reads_out (x : TOut) (h : canOut x = true) : Reads outZ x (outB x) := by
  unfold canOut at h
  simp only [Bool.and_eq_true, Bool.not_eq_true', decide_eq_false_iff_not] at h
  unfold outZ outB
  refine (reads_num x.va 8 (by omega) x.va.isLt).bind ?_
  have hn : ¬ 9223372036854775808 ≤ x.va.toNat := fun hge => h.1 (by
    rw [BitVec.toInt_eq_toNat_cond]
    have := x.va.isLt
    rw [if_neg (by omega)]; omega)
  rw [if_neg hn]
  exact (reads_text x.sc (by omega)).last (Reads.ret _)
theorem reads_wits : ∀ (l : List TIn), (∀ x ∈ l, canIn x = true) → Reads (witsZ (l.map TIn.bare)) l (witsB l)
  | [], _ => Reads.ret []
  | x :: l, h => by
    have hx := h x (List.mem_cons_self ..)
    unfold canIn at hx
    simp only [Bool.and_eq_true, Bool.not_eq_true', decide_eq_false_iff_not, List.all_eq_true] at hx
    have h1 : Reads (partsZ 100 textZ) x.wi (witB x.wi) := reads_parts textZ text x.wi 100 (by omega) (by omega) (fun b hb => reads_text b (by have := hx.2.2 b hb; omega))
    have h2 := reads_wits l (fun y hy => h y (List.mem_cons_of_mem _ hy))
    exact h1.bind (h2.last (Reads.ret _))
theorem bare_all {l : List TIn} (h : hasWs l = false) : l.map TIn.bare = l := by
  unfold hasWs at h
  rw [List.any_eq_false] at h
  conv => rhs; rw [← List.map_id l]
  refine List.map_congr_left fun x hx => ?_
  have := h x hx
  have h0 : x.wi = [] := by
    cases hw : x.wi with
    | nil => rfl
    | cons a b => rw [hw] at this; simp at this
  obtain ⟨a, b, c, d, e⟩ := x
  unfold TIn.bare
  simp only at h0
  rw [h0]
  rfl
/-- ids are of 32 bytes -/
def okTx (t : TTx) : Prop := ∀ x ∈ t.is, x.id.length = 32
theorem reads_body (t : TTx) (hc : canTx t = true) (hk : okTx t) : Reads (bodyZ (t.ve.setWidth 64) (hasWs t.is)) t (insB t.is ++ (outsB t.os ++ ((if hasWs t.is then witsB t.is else []) ++ le32 t.lo))) := by
  unfold canTx at hc
  simp only [Bool.and_eq_true, decide_eq_true_eq, List.all_eq_true] at hc
  obtain ⟨h1, h2, h3, h4, h5⟩ := hc
  unfold bodyZ insB outsB
  have hins : Reads insZ (t.is.map TIn.bare) (cntB t.is.length ++ (t.is.map inB).flatten) := by
    unfold insZ
    refine (reads_cnt t.is.length 2000 h2 (by omega)).bind ?_
    rw [if_neg (by omega)]
    have := reads_many inZ (fun x : TIn => inB x) t.is
    have key : ∀ (l : List TIn), (∀ x ∈ l, canIn x = true ∧ x.id.length = 32) → Reads (manyZ inZ l.length) (l.map TIn.bare) ((l.map inB).flatten) := by
      intro l
      induction l with
      | nil => intro _; exact Reads.ret []
      | cons x l ih =>
        intro h
        have hx := h x (List.mem_cons_self ..)
        exact (reads_in x hx.1 hx.2).bind ((ih (fun y hy => h y (List.mem_cons_of_mem _ hy))).last (Reads.ret _))
    exact key t.is (fun x hx => ⟨h4 x hx, hk x hx⟩)
  refine hins.bind ((reads_parts outZ outB t.os 2000 h3 (by omega) (fun x hx => reads_out x (h5 x hx))).bind ?_)
  have hw : Reads (witZ (hasWs t.is) (t.is.map TIn.bare)) t.is (if hasWs t.is then witsB t.is else []) := by
    unfold witZ
    cases hh : hasWs t.is with
    | true =>
      rw [if_pos rfl, if_pos rfl]
      refine (reads_wits t.is h4).last ?_
      rw [if_pos hh]
      exact Reads.ret _
    | false =>
      rw [if_neg (by decide), if_neg (by decide), bare_all hh]
      exact Reads.ret _
  refine hw.bind ((reads_le32 t.lo).last ?_)
  rw [set_back, set_back]
  exact Reads.ret _
theorem cntB_head (n : Nat) (h : 0 < n) (hn : n < 18446744073709551616) : ∃ b t, cntB n = b :: t ∧ b ≠ 0#8 := by
  unfold cntB enc
  have hv : iv64 (BitVec.ofNat 64 n) = (n : Int) := iv64_nat n hn
  split
  · refine ⟨_, [], rfl, fun e => ?_⟩
    have := congrArg BitVec.toNat e
    rw [BitVec.toNat_setWidth, BitVec.toNat_ofNat] at this
    simp at this
    omega
  · split
    · exact ⟨_, _, rfl, by decide⟩
    · split
      · exact ⟨_, _, rfl, by decide⟩
      · exact ⟨_, _, rfl, by decide⟩
theorem reads_tx (t : TTx) (hc : canTx t = true) (hk : okTx t) : Reads txZ t (txB t (hasWs t.is)) := by
  have hb := reads_body t hc hk
  have hpos : 0 < t.is.length ∧ t.is.length ≤ 2000 := by
    unfold canTx at hc
    simp only [Bool.and_eq_true, decide_eq_true_eq] at hc
    exact ⟨hc.1, hc.2.1⟩
  unfold txZ txB
  refine (reads_le32 t.ve).bind fun r => ?_
  cases hh : hasWs t.is with
  | true =>
    rw [hh] at hb
    have hm : Reads markZ true [0#8, 1#8] := fun r => by
      unfold markZ
      rw [if_pos (by rfl)]
      exact Pz.bind_ok (takeZ_app (n := 2) [0#8, 1#8] r rfl)
    exact (hm.bind hb) r
  | false =>
    rw [hh] at hb
    obtain ⟨c, t', he, hne⟩ := cntB_head t.is.length hpos.1 (by omega)
    have hm : ∀ r, markZ (insB t.is ++ r) = .ok (false, insB t.is ++ r) := fun r => by
      unfold markZ insB
      rw [he, if_neg (by simp [hne])]
    rw [if_neg (by decide), List.nil_append, List.append_assoc, Pz.bind_ok (hm _), ← List.append_assoc]
    exact hb r

/-! ### once: what was read is what is written -/
theorem numZ_ok {w : Nat} {s r : Bs} {v : BitVec 64} (hw : w ≤ 8) (h : numZ w s = .ok (v, r)) : s = low v w ++ r := by
  obtain ⟨b, r', h1, h2⟩ := Pz.bind_inv h
  obtain ⟨h3, h4⟩ := takeZ_ok h1
  unfold Pz.ret at h2
  injection h2 with h2
  injection h2 with e1 e2
  subst e1 e2
  rw [low_numTo b w hw (by omega), List.take_of_length_le (by omega)]
  exact h3
theorem textZ_ok {s r b : Bs} (h : textZ s = .ok (b, r)) : s = text b ++ r ∧ b.length ≤ 10000 := by
  obtain ⟨n, r', h1, h2⟩ := Pz.bind_inv h
  obtain ⟨h3, h4⟩ := cntZ_ok h1
  obtain ⟨h5, h6⟩ := takeZ_ok h2
  refine ⟨?_, by omega⟩
  unfold text
  rw [h3, h5, List.append_assoc, h6]
  rfl
theorem le32_ok {s r : Bs} {v : BitVec 64} (h : numZ 4 s = .ok (v, r)) : s = le32 (v.setWidth 32) ++ r := by
  obtain ⟨b, r', h1, h2⟩ := Pz.bind_inv h
  obtain ⟨h3, h4⟩ := takeZ_ok h1
  unfold Pz.ret at h2
  injection h2 with h2
  injection h2 with e1 e2
  subst e1 e2
  have e : (numTo b 4).setWidth 32 = num32 b := rfl
  unfold le32
  rw [e]
  have hv : ((num32 b).setWidth 64) = numTo b 4 := by
    apply BitVec.eq_of_toNat_eq
    have := numTo_lt b 4 (by omega)
    unfold num32
    rw [BitVec.toNat_setWidth, BitVec.toNat_setWidth]; omega
  rw [hv, low_numTo b 4 (by omega) (by omega), List.take_of_length_le (by omega)]
  exact h3
theorem many_ok {α : Type} {p : Pz α} {f : α → Bs} {Q : α → Prop} (h : ∀ s x r, p s = .ok (x, r) → s = f x ++ r ∧ Q x) : ∀ (n : Nat) (s : Bs) (l : List α) (r : Bs), manyZ p n s = .ok (l, r) → s = (l.map f).flatten ++ r ∧ l.length = n ∧ ∀ x ∈ l, Q x
  | 0, s, l, r, hh => by
    unfold manyZ Pz.ret at hh
    injection hh with hh
    injection hh with e1 e2
    subst e1 e2
    exact ⟨rfl, rfl, fun _ h => by cases h⟩
  | n + 1, s, l, r, hh => by
    obtain ⟨a, r1, h1, h2⟩ := Pz.bind_inv hh
    obtain ⟨l', r2, h3, h4⟩ := Pz.bind_inv h2
    unfold Pz.ret at h4
    injection h4 with h4
    injection h4 with e1 e2
    subst e1 e2
    obtain ⟨h5, h6⟩ := h _ _ _ h1
    obtain ⟨h7, h8, h9⟩ := many_ok h n _ _ _ h3
    refine ⟨by rw [h5, h7]; simp, by simp [h8], fun x hx => ?_⟩
    rcases List.mem_cons.1 hx with rfl | hx
    · exact h6
    · exact h9 x hx
def bareIn (x : TIn) : Prop := x.wi = [] ∧ x.id.length = 32 ∧ x.sc.length ≤ 10000
theorem inZ_ok (s : Bs) (x : TIn) (r : Bs) (h : inZ s = .ok (x, r)) : s = inB x ++ r ∧ bareIn x := by
  obtain ⟨id, r1, h1, h⟩ := Pz.bind_inv h
  obtain ⟨ix, r2, h2, h⟩ := Pz.bind_inv h
  obtain ⟨sc, r3, h3, h⟩ := Pz.bind_inv h
  obtain ⟨sq, r4, h4, h⟩ := Pz.bind_inv h
  unfold Pz.ret at h
  injection h with h
  injection h with e1 e2
  subst e1 e2
  obtain ⟨k1, k2⟩ := takeZ_ok h1
  have k3 := le32_ok h2
  obtain ⟨k4, k5⟩ := textZ_ok h3
  have k6 := le32_ok h4
  refine ⟨?_, rfl, k2, k5⟩
  unfold inB
  rw [k1, k3, k4, k6]
  simp only [List.append_assoc]
theorem outZ_ok (s : Bs) (x : TOut) (r : Bs) (h : outZ s = .ok (x, r)) : s = outB x ++ r ∧ canOut x = true := by
  obtain ⟨v, r1, h1, h⟩ := Pz.bind_inv h
  split at h
  · cases h
  · rename_i hv
    obtain ⟨sc, r2, h2, h⟩ := Pz.bind_inv h
    unfold Pz.ret at h
    injection h with h
    injection h with e1 e2
    subst e1 e2
    obtain ⟨k4, k5⟩ := textZ_ok h2
    refine ⟨?_, ?_⟩
    · unfold outB
      rw [numZ_ok (by omega) h1, k4, List.append_assoc]
    · unfold canOut
      simp only [Bool.and_eq_true, Bool.not_eq_true', decide_eq_false_iff_not]
      refine ⟨?_, by omega⟩
      rw [BitVec.toInt_eq_toNat_cond]
      rw [if_pos (by omega)]; omega
theorem witsZ_ok : ∀ (is : List TIn) (s : Bs) (l : List TIn) (r : Bs), witsZ is s = .ok (l, r) → s = witsB l ++ r ∧ l.map TIn.bare = is.map TIn.bare ∧ ∀ x ∈ l, x.wi.length ≤ 100 ∧ ∀ b ∈ x.wi, b.length ≤ 10000
  | [], s, l, r, h => by
    unfold witsZ Pz.ret at h
    injection h with h
    injection h with e1 e2
    subst e1 e2
    exact ⟨rfl, rfl, fun _ h => by cases h⟩
  | x :: xs, s, l, r, h => by
    obtain ⟨w, r1, h1, h⟩ := Pz.bind_inv h
    obtain ⟨l', r2, h2, h⟩ := Pz.bind_inv h
    unfold Pz.ret at h
    injection h with h
    injection h with e1 e2
    subst e1 e2
    obtain ⟨n, r0, c1, c2⟩ := Pz.bind_inv h1
    obtain ⟨c3, c4⟩ := cntZ_ok c1
    obtain ⟨c5, c6, c7⟩ := many_ok (Q := fun b => b.length ≤ 10000) (fun s b r h => textZ_ok h) n _ _ _ c2
    obtain ⟨i1, i2, i3⟩ := witsZ_ok xs _ _ _ h2
    refine ⟨?_, ?_, fun y hy => ?_⟩
    · unfold witsB witB
      rw [List.map_cons, List.flatten_cons, c3, c5, i1]
      simp only [c6, List.append_assoc]
      rfl
    · rw [List.map_cons, List.map_cons, i2]
      rfl
    · rcases List.mem_cons.1 hy with rfl | hy
      · exact ⟨by simp only; omega, c7⟩
      · exact i3 y hy
theorem inB_bare (x : TIn) : inB x.bare = inB x := rfl
theorem insB_bare (l : List TIn) : insB (l.map TIn.bare) = insB l := by
  unfold insB
  rw [List.length_map, List.map_map]
  rfl
theorem insZ_ok {s r : Bs} {l : List TIn} (h : insZ s = .ok (l, r)) : s = insB l ++ r ∧ 0 < l.length ∧ l.length ≤ 2000 ∧ ∀ x ∈ l, bareIn x := by
  obtain ⟨n, r1, h1, h⟩ := Pz.bind_inv h
  split at h
  · cases h
  · obtain ⟨c3, c4⟩ := cntZ_ok h1
    obtain ⟨c5, c6, c7⟩ := many_ok inZ_ok n _ _ _ h
    refine ⟨?_, by omega, by omega, c7⟩
    unfold insB
    rw [c3, c5, c6, List.append_assoc]
theorem bare_in {x : TIn} (h : bareIn x) : x.bare = x := by
  obtain ⟨a, b, c, d, e⟩ := x
  have : e = [] := h.1
  rw [this]; rfl
theorem txZ_ok {s r : Bs} {t : TTx} (h : txZ s = .ok (t, r)) : s = txB t (hasWs t.is) ++ r ∧ canTx t = true ∧ okTx t := by
  obtain ⟨ve, r1, h1, h⟩ := Pz.bind_inv h
  obtain ⟨m, r2, h2, h⟩ := Pz.bind_inv h
  obtain ⟨is, r3, h3, h⟩ := Pz.bind_inv h
  obtain ⟨os, r4, h4, h⟩ := Pz.bind_inv h
  obtain ⟨is', r5, h5, h⟩ := Pz.bind_inv h
  obtain ⟨lo, r6, h6, h⟩ := Pz.bind_inv h
  unfold Pz.ret at h
  injection h with h
  injection h with e1 e2
  subst e1 e2
  have k1 := le32_ok h1
  obtain ⟨i1, i2, i3, i4⟩ := insZ_ok h3
  obtain ⟨no, ro, o1, o2⟩ := Pz.bind_inv h4
  obtain ⟨o3, o4⟩ := cntZ_ok o1
  obtain ⟨o5, o6, o7⟩ := many_ok outZ_ok no _ _ _ o2
  have o8 : r3 = outsB os ++ r4 := by unfold outsB; rw [o3, o5, o6, List.append_assoc]
  have k6 := le32_ok h6
  have hbare : is.map TIn.bare = is := by
    conv => rhs; rw [← List.map_id is]
    exact List.map_congr_left fun x hx => bare_in (i4 x hx)
  have hm : r1 = (if m then [0#8, 1#8] else []) ++ r2 := by
    unfold markZ at h2
    split at h2
    · obtain ⟨b, r', b1, b2⟩ := Pz.bind_inv h2
      obtain ⟨b3, b4⟩ := takeZ_ok b1
      split at b2
      · rename_i h0 h1'
        unfold Pz.ret at b2
        injection b2 with b2
        injection b2 with e1 e2
        subst e1 e2
        rw [b3] at h0
        match b, b4 with
        | [x, y], _ =>
          simp only [List.cons_append, List.getElem?_cons_zero, Option.some.injEq] at h0
          simp only [List.getElem?_cons_succ, List.getElem?_cons_zero, Option.some.injEq] at h1'
          rw [b3, h0, h1']; rfl
      · cases b2
    · injection h2 with h2
      injection h2 with e1 e2
      subst e1 e2
      rfl
  have hw : hasWs is' = m ∧ r4 = (if m then witsB is' else []) ++ r5 ∧ is'.map TIn.bare = is ∧ ∀ x ∈ is', x.wi.length ≤ 100 ∧ ∀ b ∈ x.wi, b.length ≤ 10000 := by
    unfold witZ at h5
    cases m with
    | true =>
      rw [if_pos rfl] at h5
      obtain ⟨l, r', w1, w2⟩ := Pz.bind_inv h5
      split at w2
      · rename_i hh
        unfold Pz.ret at w2
        injection w2 with w2
        injection w2 with e1 e2
        subst e1 e2
        obtain ⟨w3, w4, w5⟩ := witsZ_ok _ _ _ _ w1
        exact ⟨hh, w3, by rw [w4, hbare], w5⟩
      · cases w2
    | false =>
      rw [if_neg (by decide)] at h5
      unfold Pz.ret at h5
      injection h5 with h5
      injection h5 with e1 e2
      subst e1 e2
      refine ⟨?_, rfl, hbare, fun x hx => ?_⟩
      · unfold hasWs
        rw [List.any_eq_false]
        intro x hx
        rw [(i4 x hx).1]; simp
      · rw [(i4 x hx).1]
        exact ⟨by simp, fun _ h => by cases h⟩
  obtain ⟨w1, w2, w3, w4⟩ := hw
  have hlen : is'.length = is.length := by rw [← w3, List.length_map]
  have hbi : ∀ x ∈ is', bareIn x.bare := fun x hx => i4 _ (by rw [← w3]; exact List.mem_map_of_mem hx)
  refine ⟨?_, ?_, fun x hx => (hbi x hx).2.1⟩
  · unfold txB
    simp only [w1]
    rw [k1, hm, i1, ← w3, insB_bare, o8, w2, k6]
    simp only [List.append_assoc]
  · unfold canTx
    simp only [Bool.and_eq_true, decide_eq_true_eq, List.all_eq_true]
    refine ⟨by omega, by omega, by omega, fun x hx => ?_, o7⟩
    unfold canIn
    simp only [Bool.and_eq_true, Bool.not_eq_true', decide_eq_false_iff_not, List.all_eq_true]
    have hsc : x.sc.length ≤ 10000 := (hbi x hx).2.2
    exact ⟨by omega, by have := (w4 x hx).1; omega, fun b hb => by have := (w4 x hx).2 b hb; omega⟩

/-! ### cut short -/
/-- what p reads is just so long, and cut short it is too short -/
def Cuts {α : Type} (p : Pz α) : Prop := ∀ s x r, p s = .ok (x, r) → ∃ a, s = a ++ r ∧ (∀ t, p (a ++ t) = .ok (x, t)) ∧ ∀ a' c, a = a' ++ c → c ≠ [] → p a' = .error 50
theorem Cuts.ret {α : Type} (a : α) : Cuts (Pz.ret a) := fun s x r h => by
  unfold Pz.ret at h
  injection h with h
  injection h with e1 e2
  subst e1 e2
  refine ⟨[], rfl, fun t => rfl, fun a' c h hc => ?_⟩
  obtain ⟨_, h2⟩ := List.append_eq_nil_iff.1 h.symm
  exact absurd h2 hc
theorem Cuts.fail {α : Type} (e : Int) : Cuts (Pz.fail (α := α) e) := fun s x r h => by cases h
theorem Cuts.bind {α β : Type} {p : Pz α} {f : α → Pz β} (hp : Cuts p) (hf : ∀ a, Cuts (f a)) : Cuts (p.bind f) := fun s x r h => by
  obtain ⟨a, r1, h1, h2⟩ := Pz.bind_inv h
  obtain ⟨u, u1, u2, u3⟩ := hp _ _ _ h1
  obtain ⟨v, v1, v2, v3⟩ := hf a _ _ _ h2
  refine ⟨u ++ v, by rw [u1, v1, List.append_assoc], fun t => ?_, fun a' c hac hc => ?_⟩
  · rw [List.append_assoc, Pz.bind_ok (u2 _)]
    exact v2 t
  · rcases List.append_eq_append_iff.1 hac with ⟨k, k1, k2⟩ | ⟨k, k1, k2⟩
    · rw [k1, Pz.bind_ok (u2 _)]
      exact v3 k c k2 hc
    · by_cases hk : k = []
      · subst hk
        rw [List.append_nil] at k1
        rw [List.nil_append] at k2
        subst k1
        have := u2 []
        rw [List.append_nil] at this
        rw [Pz.bind_ok this]
        exact v3 [] v rfl (by rw [← k2]; exact hc)
      · exact Pz.bind_err (u3 a' k k1 hk)
theorem cuts_take (n : Nat) : Cuts (takeZ n) := fun s x r h => by
  obtain ⟨h1, h2⟩ := takeZ_ok h
  refine ⟨x, h1, fun t => takeZ_app x t h2, fun a' c hac hc => takeZ_short ?_⟩
  have := List.length_pos_iff.2 hc
  rw [← h2, hac, List.length_append]; omega
theorem cuts_num (w : Nat) : Cuts (numZ w) := (cuts_take w).bind fun _ => Cuts.ret _
theorem cuts_cnt (most : Nat) (hm : most < 18446744073709551616) : Cuts (cntZ most) := fun s n r h => by
  obtain ⟨h1, h2⟩ := cntZ_ok h
  exact ⟨cntB n, h1, fun t => cntZ_app n most h2 hm t, fun a' c hac hc => cntB_short n a' c most hac hc⟩
theorem cuts_text : Cuts textZ := (cuts_cnt 10000 (by omega)).bind cuts_take
theorem cuts_many {α : Type} {p : Pz α} (h : Cuts p) : ∀ n, Cuts (manyZ p n)
  | 0 => Cuts.ret _
  | n + 1 => h.bind fun _ => (cuts_many h n).bind fun _ => Cuts.ret _
theorem cuts_in : Cuts inZ := (cuts_take 32).bind fun _ => (cuts_num 4).bind fun _ => cuts_text.bind fun _ => (cuts_num 4).bind fun _ => Cuts.ret _
theorem cuts_out : Cuts outZ := (cuts_num 8).bind fun v => by
  split
  · exact Cuts.fail _
  · exact cuts_text.bind fun _ => Cuts.ret _
theorem cuts_wits : ∀ l, Cuts (witsZ l)
  | [] => Cuts.ret _
  | _ :: l => ((cuts_cnt 100 (by omega)).bind (cuts_many cuts_text)).bind fun _ => (cuts_wits l).bind fun _ => Cuts.ret _
theorem cuts_ins : Cuts insZ := (cuts_cnt 2000 (by omega)).bind fun n => by
  split
  · exact Cuts.fail _
  · exact cuts_many cuts_in n
theorem cuts_wit (m : Bool) (l : List TIn) : Cuts (witZ m l) := by
  unfold witZ
  split
  · exact (cuts_wits l).bind fun l' => by
      split
      · exact Cuts.ret _
      · exact Cuts.fail _
  · exact Cuts.ret _
theorem cuts_body (ve : BitVec 64) (m : Bool) : Cuts (bodyZ ve m) := cuts_ins.bind fun _ => ((cuts_cnt 2000 (by omega)).bind (cuts_many cuts_out)).bind fun _ => (cuts_wit m _).bind fun _ => (cuts_num 4).bind fun _ => Cuts.ret _
theorem body_nil (ve : BitVec 64) (m : Bool) : bodyZ ve m [] = .error 50 := by
  unfold bodyZ insZ
  exact Pz.bind_err (Pz.bind_err (by unfold cntZ cutP; rfl))
theorem cuts_marked (ve : BitVec 64) : Cuts (markZ.bind (bodyZ ve)) := fun s x r h => by
  have nilM : (markZ.bind (bodyZ ve)) [] = .error 50 := by
    have : markZ [] = .ok (false, []) := rfl
    rw [Pz.bind_ok this]
    exact body_nil ve false
  obtain ⟨m, r1, h1, h2⟩ := Pz.bind_inv h
  obtain ⟨u, u1, u2, u3⟩ := cuts_body ve m _ _ _ h2
  unfold markZ at h1
  split at h1
  · rename_i h0
    obtain ⟨b, r', b1, b2⟩ := Pz.bind_inv h1
    obtain ⟨b3, b4⟩ := takeZ_ok b1
    split at b2
    · rename_i hb1
      unfold Pz.ret at b2
      injection b2 with b2
      injection b2 with e1 e2
      subst e1 e2
      have hb : b = [0#8, 1#8] := by
        match b, b4 with
        | [y, z], _ =>
          rw [b3] at h0
          simp only [List.cons_append, List.getElem?_cons_zero, Option.some.injEq] at h0
          simp only [List.getElem?_cons_succ, List.getElem?_cons_zero, Option.some.injEq] at hb1
          rw [h0, hb1]
      subst hb
      have hm : ∀ t, markZ ([0#8, 1#8] ++ t) = .ok (true, t) := fun t => by
        unfold markZ
        rw [if_pos (by rfl)]
        exact Pz.bind_ok (takeZ_app (n := 2) [0#8, 1#8] t rfl)
      refine ⟨[0#8, 1#8] ++ u, by rw [b3, u1, List.append_assoc], fun t => ?_, fun a' c hac hc => ?_⟩
      · rw [List.append_assoc, Pz.bind_ok (hm _)]
        exact u2 t
      · match a' with
        | [] => exact nilM
        | [y] =>
          simp only [List.cons_append, List.nil_append, List.cons.injEq] at hac
          obtain ⟨rfl, _⟩ := hac
          refine Pz.bind_err ?_
          unfold markZ
          rw [if_pos (by rfl)]
          exact Pz.bind_err (takeZ_short (by decide))
        | y :: z :: a'' =>
          simp only [List.cons_append, List.nil_append, List.cons.injEq] at hac
          obtain ⟨rfl, rfl, hac⟩ := hac
          have := hm a''
          rw [show ([0#8, 1#8] ++ a'' : Bs) = 0#8 :: 1#8 :: a'' from rfl] at this
          rw [Pz.bind_ok this]
          exact u3 a'' c hac hc
    · cases b2
  · rename_i h0
    injection h1 with h1
    injection h1 with e1 e2
    subst e1 e2
    have hu : u ≠ [] := fun e => by
      have := u2 []
      rw [e, List.append_nil, body_nil] at this
      cases this
    obtain ⟨c0, u', rfl⟩ : ∃ c u', u = c :: u' := by
      cases u with
      | nil => exact absurd rfl hu
      | cons c u' => exact ⟨c, u', rfl⟩
    have hc0 : c0 ≠ 0#8 := fun e => h0 (by rw [u1, e]; rfl)
    have hm : ∀ t, markZ (c0 :: t) = .ok (false, c0 :: t) := fun t => by
      unfold markZ
      rw [if_neg (by simp [hc0])]
    refine ⟨c0 :: u', u1, fun t => ?_, fun a' c hac hc => ?_⟩
    · rw [List.cons_append, Pz.bind_ok (hm _)]
      exact u2 t
    · match a' with
      | [] => exact nilM
      | y :: a'' =>
        have hy : y = c0 := by simp only [List.cons_append, List.cons.injEq] at hac; exact hac.1.symm
        subst hy
        rw [Pz.bind_ok (hm _)]
        exact u3 _ c hac hc
theorem cuts_tx : Cuts txZ := (cuts_num 4).bind cuts_marked
theorem txZ_cut (t : TTx) (hc : canTx t = true) (hk : okTx t) (n : Nat) (hn : n < (txB t (hasWs t.is)).length) : txZ ((txB t (hasWs t.is)).take n) = .error 50 := by
  have h := reads_tx t hc hk []
  obtain ⟨a, a1, _, a3⟩ := cuts_tx _ _ _ h
  rw [List.append_nil, List.append_nil] at a1
  subst a1
  refine a3 _ ((txB t (hasWs t.is)).drop n) (List.take_append_drop n _).symm (fun e => ?_)
  have := congrArg List.length e
  rw [List.length_drop] at this
  simp at this
  omega
end Go.Proofs.Ythglocpbdfcfnaa
