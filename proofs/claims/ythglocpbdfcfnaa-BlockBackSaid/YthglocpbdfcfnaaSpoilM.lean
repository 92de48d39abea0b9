/- sporranplain.Spoil: what may be written stays bytes; sporranplain.SpoilBlock: the walk. -/
import Derived.Test.YthglocpbdfcfnaaGB
import Derived.Test.YthglocpbdfcfnaaTxX
namespace Go.Proofs.Ythglocpbdfcfnaa
open Go Go.RowKit
set_option linter.unusedVariables false

/-- just the blocks of S were written, and hold bytes as before -/
structure Pok (S : Nat → Prop) (w w' : World) : Prop where
  st : Stays S w w'
  mi : ∀ q m, MineS w S q m → MineS w' S q m
theorem Pok.refl (S : Nat → Prop) (w : World) : Pok S w w := ⟨Stays.refl _ _, fun _ _ h => h⟩
theorem Pok.trans {S : Nat → Prop} {w w1 w2 : World} (h : Pok S w w1) (h2 : Pok S w1 w2) : Pok S w w2 := ⟨h.st.trans h2.st fun _ _ h => h, fun q m hm => h2.mi q m (h.mi q m hm)⟩
theorem Pok.poke {S : Nat → Prop} {w wr : World} {g j : Nat} {cs : Array Value} (h : Pok S w wr) (hk : Blk wr g 5 cs) (hg : S g) (b : BitVec 8) : Pok S w (wr.setCell ⟨g, j, none⟩ (u8 b)) :=
  ⟨h.st.setCell (fun _ => hg) _, fun q m hm => (h.mi q m hm).poke hk b⟩
theorem Pok.fut {S : Nat → Prop} {w w' : World} (hb : Below w.heap.size w w') : Pok S w w' := ⟨Stays.of_below hb (Nat.le_refl _) _, fun q m hm => by
  rcases hm with h | ⟨g, o, cs, rfl, h2, h3, h4⟩
  · exact .inl h
  · exact .inr ⟨g, o, cs, rfl, h2, h3.fut hb, h4⟩⟩

set_option maxRecDepth 100000 in
set_option maxHeartbeats 4000000 in
theorem spoilM_any (S : Nat → Prop) (p : Option Addr) (len c : Nat) (w : World) (hlc : len ≤ c) (hcm : c ≤ 9223372036854775807) (hm : MineRowsS w S p len) :
    Calls Try.prog 19 #[.slice p len c] w fun e w' => e = .returned (.tuple #[]) ∧ Pok S w w' := by
  have HM := Lib.hid hm
  clear hm
  go_enter Try.func19, Try.ntmps19
  go_wp2
  go_loopw [7] (fun i wr => ∃ k : Nat, k ≤ len ∧ i = .int .i64 k ∧ Hid (MineRowsS wr S p len) ∧ Hid (Pok S w wr)) (fun i _ => len - (intOf i).toNat)
  case atStart => exact ⟨0, by omega, rfl, HM, Lib.hid (Pok.refl _ _)⟩
  case round =>
    obtain ⟨k, hk, rfl, HM1, hb1⟩ := hrel
    clear HM
    by_cases hkl : k < len
    · have hlt : (k : Int) < (len : Int) := by omega
      rcases HM1.out with h0 | ⟨b, o, rfl, hbl, hall⟩
      · omega
      obtain ⟨q, m, c', hcell, hmc, hcm', hmine, hne⟩ := hall k hkl
      have HMi := Lib.hid hmine
      have HNe := Lib.hid hne
      clear hall hmine hne
      have hk63 : (k : Int) + 1 ≤ 9223372036854775807 := by omega
      go_wp2_with fail
      go_loopw [13] (fun i wr2 => ∃ j : Nat, j ≤ m ∧ i = .int .i64 j ∧ Hid (MineS wr2 S q m) ∧ Hid (MineRowsS wr2 S (some ⟨b, o, none⟩) len) ∧ Hid (Pok S w wr2)) (fun i _ => m - (intOf i).toNat)
      case atStart => exact ⟨0, by omega, rfl, HMi, HM1, hb1⟩
      case round =>
        obtain ⟨j, hj, rfl, HMi2, HM2, hb2⟩ := hrel
        clear HMi HM1 hb1 hcell
        by_cases hjm : j < m
        · rcases HMi2.out with h0 | ⟨g, o', cs, rfl, hgB, hblk, hcs⟩
          · omega
          obtain ⟨y, hy⟩ := hcs j hjm
          have hcell : wr.cell? ⟨g, o' + j, none⟩ = some (.int .u8 (iv8 y)) := (hblk.cell _).trans hy
          have hfz := hblk.frozen (o' + j)
          have hjlt : (j : Int) < (m : Int) := by omega
          have hj63 : (j : Int) + 1 ≤ 9223372036854775807 := by omega
          have hx1 : bits BinOp.xor IntKind.u8 (iv8 y) 255 = iv8 (y ^^^ 255#8) := (xor8 y 255#8)
          have HB := Lib.hid hblk
          have hgb : g ≠ b := fun e => HNe.out (by omega) _ rfl e
          clear hblk hcs hy
          go_wp2_with fail
          clear hcell hfz hx1
          go_roundw
          case rel => exact ⟨j + 1, by omega, by go_num, Lib.hid (HMi2.out.poke HB.out _), Lib.hid (HM2.out.poke HB.out (fun a ha => by injection ha with ha; subst ha; exact hgb) _), Lib.hid (hb2.out.poke HB.out hgB _)⟩
          case measure => simp [intOf]; omega
        · have hge : ¬ (j : Int) < (m : Int) := by omega
          go_wp2
          go_roundw
          case rel => exact ⟨k + 1, by omega, by go_num, HM2, hb2⟩
          case measure => simp [intOf]; omega
    · have hge : ¬ (k : Int) < (len : Int) := by omega
      go_wp2
      refine bodyPost_end (results_none rfl _ _ _) rfl ?_
      exact ⟨rfl, hb1.out⟩

def TextM (S : Nat → Prop) (w : World) (x : Bs) (cs : List Value) : Prop := ∃ q m c, cs = [.slice q m c] ∧ m ≤ c ∧ c ≤ 9223372036854775807 ∧ MineS w S q m
/-- a row whose own block is none of S -/
def RowM {α : Type} (S : Nat → Prop) (E : World → α → List Value → Prop) (N : Nat) (w : World) (v : Value) (xs : List α) : Prop := ESl E N w v xs ∧ ∀ k, v.ownBlock = some k → ¬ S k
def InM (S : Nat → Prop) (w : World) (x : TIn) (cs : List Value) : Prop := ∃ sv wv, cs = hCells x.id ++ [u32 x.ix, sv, u32 x.sq, wv] ∧ x.id.length = 32 ∧ TextM S w x.sc [sv] ∧ RowM S (TextM S) 1 w wv x.wi
def OutM (S : Nat → Prop) (w : World) (x : TOut) (cs : List Value) : Prop := ∃ sv, cs = [.int .i64 x.va.toInt, sv] ∧ TextM S w x.sc [sv]
def TxM (S : Nat → Prop) (w : World) (t : TTx) (cs : List Value) : Prop := ∃ iv ov, cs = [u32 t.ve, iv, ov, u32 t.lo] ∧ RowM S (InM S) 36 w iv t.is ∧ RowM S (OutM S) 2 w ov t.os
def KeepsM {α : Type} (S : Nat → Prop) (E : World → α → List Value → Prop) : Prop := ∀ w w' x cs, E w x cs → Pok S w w' → E w' x cs
theorem range_stays {S : Nat → Prop} {w w' : World} {b o : Nat} {cs : List Value} (h : w.rangeAt b o cs) (hs : Stays S w w') (hb : b < w.heap.size) (hn : ¬ S b) : w'.rangeAt b o cs := fun j v hj =>
  (World.cell?_of_block (a := ⟨b, o + j, none⟩) (hs.block b hb hn)).trans (h j v hj)
theorem textM_keeps (S : Nat → Prop) : KeepsM S (TextM S) := fun w w' x cs ⟨q, m, c, h1, h2, h3, h4⟩ hp => ⟨q, m, c, h1, h2, h3, hp.mi q m h4⟩
theorem RowM.pok {α : Type} {S : Nat → Prop} {E : World → α → List Value → Prop} {N : Nat} {w w' : World} {v : Value} {xs : List α} (h : RowM S E N w v xs) (hE : KeepsM S E) (hp : Pok S w w') : RowM S E N w' v xs := by
  obtain ⟨⟨p, n, c, rfl, h2, h3, h4, h5, h6⟩, hS⟩ := h
  refine ⟨⟨p, n, c, rfl, h2, h3, h4, fun hn => ?_, h6⟩, hS⟩
  obtain ⟨b, off, rfl, hlt, hc⟩ := h5 hn
  have hb : ¬ S b := hS b rfl
  refine ⟨b, off, rfl, Nat.lt_of_lt_of_le hlt hp.st.size, fun i x hi => ?_⟩
  obtain ⟨cs, h1, h2⟩ := hc i x hi
  exact ⟨cs, hE _ _ _ _ h1 hp, range_stays h2 hp.st hlt hb⟩
theorem inM_keeps (S : Nat → Prop) : KeepsM S (InM S) := fun w w' x cs ⟨sv, wv, h1, h2, h3, h4⟩ hp => ⟨sv, wv, h1, h2, textM_keeps S _ _ _ _ h3 hp, h4.pok (textM_keeps S) hp⟩
theorem outM_keeps (S : Nat → Prop) : KeepsM S (OutM S) := fun w w' x cs ⟨sv, h1, h2⟩ hp => ⟨sv, h1, textM_keeps S _ _ _ _ h2 hp⟩
theorem txM_keeps (S : Nat → Prop) : KeepsM S (TxM S) := fun w w' x cs ⟨iv, ov, h1, h2, h3⟩ hp => ⟨iv, ov, h1, h2.pok (inM_keeps S) hp, h3.pok (outM_keeps S) hp⟩
theorem RowM.at {α : Type} {S : Nat → Prop} {E : World → α → List Value → Prop} {N : Nat} {w : World} {p : Option Addr} {n c k : Nat} {xs : List α} (h : RowM S E N w (.slice p n c) xs) (hk : k < n) : ∃ b off cs x, p = some ⟨b, off, none⟩ ∧ xs[k]? = some x ∧ E w x cs ∧ w.rangeAt b (off + k * N) cs ∧ ¬ S b ∧ b < w.heap.size := by
  obtain ⟨⟨p', n', c', e, h1, h2, h3, h4, h5⟩, hS⟩ := h
  injection e with e1 e2 e3
  subst e1 e2 e3
  have hx := List.getElem?_eq_getElem (l := xs) (i := k) (by omega)
  obtain ⟨b, off, rfl, hlt, hc⟩ := h4 (by intro e; subst e; simp at h1; omega)
  obtain ⟨cs, h6, h7⟩ := hc k _ hx
  exact ⟨b, off, cs, _, rfl, hx, h6, h7, hS b rfl, hlt⟩
/-- a literal row of one text -/
theorem TextM.lit {S : Nat → Prop} {w w' : World} {b : Nat} {q : Option Addr} {m c : Nat} {t : TypeId} (h : MineS w S q m) (h2 : m ≤ c) (h3 : c ≤ 9223372036854775807) (hp : Pok S w w') (hb : Blk w' b t #[.slice q m c]) (hn : ¬ S b) : MineRowsS w' S (some ⟨b, 0, none⟩) 1 := by
  refine .inr ⟨b, 0, rfl, hb.lt, fun i hi => ?_⟩
  obtain rfl : i = 0 := by omega
  refine ⟨q, m, c, ?_, h2, h3, hp.mi q m h, fun hm a ha e => ?_⟩
  · rw [hb.cell]; rfl
  · rcases h with h0 | ⟨g, o, cs, h1, h2, _⟩
    · exact hm h0
    · rw [h1] at ha
      injection ha with ha
      subst ha
      have e' : g = b := e
      exact hn (e' ▸ h2)
/-- a row of texts -/
theorem RowM.mine {S : Nat → Prop} {w : World} {p : Option Addr} {n c : Nat} {xs : List Bs} (h : RowM S (TextM S) 1 w (.slice p n c) xs) : MineRowsS w S p n := by
  by_cases h0 : n = 0
  · exact .inl h0
  obtain ⟨b, off, _, _, rfl, _, _, _, hb, hlt⟩ := h.at (k := 0) (by omega)
  refine .inr ⟨b, off, rfl, hlt, fun i hi => ?_⟩
  obtain ⟨b', off', cs, x, e, hx, ⟨q, m, c', rfl, h2, h3, h4⟩, hr, _, _⟩ := h.at (k := i) hi
  injection e with e
  injection e with e1 e2
  subst e1 e2
  refine ⟨q, m, c', ?_, h2, h3, h4, fun hm a ha e => ?_⟩
  · have := hr 0 _ rfl
    rwa [Nat.mul_one, Nat.add_zero] at this
  · rcases h4 with h0 | ⟨g, o, cs, h1, h2, _⟩
    · exact hm h0
    · rw [h1] at ha
      injection ha with ha
      subst ha
      have e' : g = b := e
      exact hb (e' ▸ h2)
theorem RowM.slen {α : Type} {S : Nat → Prop} {E : World → α → List Value → Prop} {N : Nat} {w : World} {p : Option Addr} {n c : Nat} {xs : List α} (h : RowM S E N w (.slice p n c) xs) : xs.length = n ∧ n ≤ c ∧ c ≤ 9223372036854775807 := h.1.slen
theorem RowM.opens {α : Type} {S : Nat → Prop} {E : World → α → List Value → Prop} {N : Nat} {w : World} {v : Value} {xs : List α} (h : RowM S E N w v xs) : ∃ p n c, v = .slice p n c := h.1.opens
theorem TextM.one {S : Nat → Prop} {w : World} {x : Bs} {v : Value} (h : TextM S w x [v]) : v.oneCell' = true := by
  obtain ⟨q, m, c, e, _⟩ := h
  injection e with e
  rw [e]
  rfl
theorem RowM.one {α : Type} {S : Nat → Prop} {E : World → α → List Value → Prop} {N : Nat} {w : World} {v : Value} {xs : List α} (h : RowM S E N w v xs) : v.oneCell' = true := h.1.one
theorem InM.len {S : Nat → Prop} {w : World} {x : TIn} {cs : List Value} (h : InM S w x cs) : cs.length = 36 := by
  obtain ⟨sv, wv, rfl, hl, _⟩ := h
  simp [hCells, hl]
theorem InM.one {S : Nat → Prop} {w : World} {x : TIn} {cs : List Value} (h : InM S w x cs) : cs.toArray.all (·.oneCell') = true := by
  obtain ⟨sv, wv, rfl, hl, h1, h2⟩ := h
  have := hCells_one x.id
  rw [List.all_toArray] at this ⊢
  rw [List.all_append, this]
  simp [Value.oneCell']
  exact ⟨h1.one, h2.one⟩
theorem InM.cell {S : Nat → Prop} {w : World} {x : TIn} {cs : List Value} (h : InM S w x cs) : ∃ sv wv, cs[33]? = some sv ∧ cs[35]? = some wv ∧ TextM S w x.sc [sv] ∧ RowM S (TextM S) 1 w wv x.wi := by
  obtain ⟨sv, wv, rfl, hl, h1, h2⟩ := h
  have hc : (hCells x.id).length = 32 := by simp [hCells, hl]
  exact ⟨sv, wv, by rw [List.getElem?_append_right (by omega), hc]; rfl, by rw [List.getElem?_append_right (by omega), hc]; rfl, h1, h2⟩
theorem TxM.len {S : Nat → Prop} {w : World} {t : TTx} {cs : List Value} (h : TxM S w t cs) : cs.length = 4 := by obtain ⟨_, _, rfl, _⟩ := h; rfl
theorem TxM.one {S : Nat → Prop} {w : World} {t : TTx} {cs : List Value} (h : TxM S w t cs) : cs.toArray.all (·.oneCell') = true := by
  obtain ⟨iv, ov, rfl, hi, ho⟩ := h
  rw [List.all_toArray]
  simp [Value.oneCell']
  exact ⟨hi.one, ho.one⟩
end Go.Proofs.Ythglocpbdfcfnaa
