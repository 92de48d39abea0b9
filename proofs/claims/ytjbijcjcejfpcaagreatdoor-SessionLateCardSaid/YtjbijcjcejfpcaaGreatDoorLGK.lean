/- Blocks, plain: their bytes, and what bytes say; their cells. · block.Encode: the walk. · sporranref08.Encode: the walk. · block.Decode: the walk. · sporranref08.Decode: the walk. · sporranplain.Spoil: what may be written stays bytes; sporranplain.SpoilBlock: the walk. · sporranplain.SpoilBlock: the walk. · sporranlaw07.TxReads: the walk. · sporranplain.SameBlock: the walk (what says the same is the same). · sporranlaw08.awake, BlockReads: the walks. · A block read as data (a row's argument).  -/
import Derived.Test.YtjbijcjcejfpcaaGreatDoorLGH
import Derived.Test.YtjbijcjcejfpcaaGreatDoorLGE
import Derived.Test.YtjbijcjcejfpcaaGreatDoorLTxRe
import Derived.Test.YtjbijcjcejfpcaaGreatDoorLGT
import Derived.Test.YtjbijcjcejfpcaaGreatDoorLGB
import Derived.Test.YtjbijcjcejfpcaaGreatDoorLGD
namespace Go.Proofs.YtjbijcjcejfpcaaGreatDoor
open Go Go.RowKit
set_option linter.unusedVariables false
structure TBlk where
  h : Hdr
  ts : List TTx
def txsB (ts : List TTx) : Bs := (ts.map fun t => txB t (hasWs t.is)).flatten
def blkB (b : TBlk) : Bs := b.h.bytes ++ (cntB b.ts.length ++ txsB b.ts)
def blkP (b : TBlk) : Bs × Int := if 2000 < b.ts.length then ([], 1) else if b.ts.all canTx then (if 200000 < (blkB b).length then ([], 91) else (blkB b, 0)) else ([], 1)
def noBlk : TBlk := ⟨noHdr, []⟩
def hdrZ : Pz Hdr := fun s => if s.length < 80 then .error 50 else .ok (hdrOf s, s.drop 80)
def blkZ : Pz TBlk := hdrZ.bind fun h => (cntZ 2000).bind fun n => (manyZ txZ n).bind fun ts => Pz.ret ⟨h, ts⟩
def endB (x : Except Int (TBlk × Bs)) : TBlk × Int := match x with
  | .error k => (noBlk, k)
  | .ok (b, r) => if r = [] then (b, 0) else (noBlk, 70)
def blkDecP (s : Bs) : TBlk × Int := if 200000 < s.length then (noBlk, 91) else endB (blkZ s)
theorem reads_hdr (h : Hdr) (hk : h.ok) : Reads hdrZ h h.bytes := fun r => by
  have h4 := hdrP_bytes h hk r
  unfold hdrP at h4
  rw [if_neg (by rw [List.length_append, Hdr.bytes_len hk]; omega)] at h4
  injection h4 with h5 h6
  injection h6 with h6
  unfold hdrZ
  rw [if_neg (by rw [List.length_append, Hdr.bytes_len hk]; omega), h5, h6]
theorem reads_blk (b : TBlk) (hk : b.h.ok) (hn : b.ts.length ≤ 2000) (hc : ∀ t ∈ b.ts, canTx t = true) (ho : ∀ t ∈ b.ts, okTx t) : Reads blkZ b (blkB b) := by
  unfold blkZ blkB
  refine (reads_hdr b.h hk).bind ((reads_cnt b.ts.length 2000 hn (by omega)).bind (Reads.last (reads_many txZ (fun t => txB t (hasWs t.is)) b.ts fun t ht => reads_tx t (hc t ht) (ho t ht)) (Reads.ret _)))
theorem blk_dec (b : TBlk) (hk : b.h.ok) (hn : b.ts.length ≤ 2000) (hc : ∀ t ∈ b.ts, canTx t = true) (ho : ∀ t ∈ b.ts, okTx t) (r : Bs) : blkZ (blkB b ++ r) = .ok (b, r) := reads_blk b hk hn hc ho r
def BlkC (w : World) (b : TBlk) (cs : List Value) : Prop := ∃ v, cs = b.h.cells ++ [v] ∧ b.h.ok ∧ ESl TxC 4 w v b.ts
def BlkO (B : Nat) (w : World) (b : TBlk) (cs : List Value) : Prop := ∃ v, cs = b.h.cells ++ [v] ∧ b.h.ok ∧ RowO (TxO B) 171 4 B w v b.ts
theorem blkC_keeps : Keeps BlkC := fun w w' x cs ⟨v, h1, h2, h3⟩ hb => ⟨v, h1, h2, h3.fut txC_keeps hb⟩
theorem blkO_keeps (B : Nat) : KeepsO B [171, 5, 26, 209, 204] (BlkO B) := fun w w' S x cs ⟨v, h1, h2, h3⟩ hs hp => ⟨v, h1, h2, h3.sep (txO_keeps B) hs hp⟩
theorem BlkO.c {B : Nat} {w : World} {b : TBlk} {cs : List Value} (h : BlkO B w b cs) : BlkC w b cs := by
  obtain ⟨v, h1, h2, h3⟩ := h
  exact ⟨v, h1, h2, h3.e fun _ _ h => h.c⟩
theorem BlkC.len {w : World} {b : TBlk} {cs : List Value} (h : BlkC w b cs) : cs.length = 69 := by
  obtain ⟨v, rfl, hk, _⟩ := h
  rw [List.length_append, Hdr.cells_len hk]
  rfl
theorem BlkC.at {w : World} {b : TBlk} {cs : List Value} (h : BlkC w b cs) : ∃ v, cs[68]? = some v ∧ ESl TxC 4 w v b.ts := by
  obtain ⟨v, rfl, hk, hv⟩ := h
  exact ⟨v, by rw [List.getElem?_append_right (by rw [Hdr.cells_len hk]; exact Nat.le_refl _), Hdr.cells_len hk]; rfl, hv⟩
theorem BlkC.one {w : World} {b : TBlk} {cs : List Value} (h : BlkC w b cs) : cs.toArray.all (·.oneCell') = true := by
  obtain ⟨v, rfl, hk, hv⟩ := h
  have := Hdr.cells_one b.h
  rw [List.all_toArray] at this ⊢
  rw [List.all_append, this]
  simp only [List.all_cons, List.all_nil, Bool.and_true, Bool.true_and]
  exact hv.one
theorem BlkC.ok {w : World} {b : TBlk} {cs : List Value} (h : BlkC w b cs) : ∀ t ∈ b.ts, okTx t := fun t ht => by
  obtain ⟨v, _, _, hv⟩ := h
  obtain ⟨cs, hc⟩ := hv.mem ht
  exact hc.ok
theorem blkP_cases (b : TBlk) : (∃ k, k ≠ 0 ∧ blkP b = ([], k)) ∨ (blkP b = (blkB b, 0) ∧ b.ts.length ≤ 2000 ∧ (∀ t ∈ b.ts, canTx t = true) ∧ (blkB b).length ≤ 200000) := by
  unfold blkP
  split
  · exact .inl ⟨1, by decide, rfl⟩
  · split
    · rename_i h1 h2
      rw [List.all_eq_true] at h2
      split
      · exact .inl ⟨91, by decide, rfl⟩
      · rename_i h3
        exact .inr ⟨rfl, by omega, h2, by omega⟩
    · exact .inl ⟨1, by decide, rfl⟩
theorem BlkC.hok {w : World} {b : TBlk} {cs : List Value} (h : BlkC w b cs) : b.h.ok := by obtain ⟨_, _, h, _⟩ := h; exact h
def HashE (w : World) (x : Bs) (cs : List Value) : Prop := cs = hCells x ∧ x.length = 32
theorem hashE_keeps (B : Nat) : KeepsO B [] HashE := fun _ _ _ _ _ h _ _ => h
end Go.Proofs.YtjbijcjcejfpcaaGreatDoor
namespace Go.Proofs.YtjbijcjcejfpcaaGreatDoor
open Go Go.RowKit
set_option linter.unusedVariables false
def ZBlk : List Value := noHdr.cells ++ [.slice none 0 0]
def BlkDec (w : World) (x : TBlk × Int) (e : Ending) (w' : World) : Prop := ∃ cs, e = .returned (.tuple #[.agg cs.toArray, .int .i64 x.2]) ∧ BlkO w.heap.size w' x.1 cs ∧ Below w.heap.size w w'
theorem BlkDec.bad {w w' : World} {x : TBlk × Int} {k : Int} (h : Hid (x = (noBlk, k))) (hb : Below w.heap.size w w') : BlkDec w x (.returned (.tuple #[.agg ZBlk.toArray, .int .i64 k])) w' := by
  rw [h.out]
  exact ⟨ZBlk, rfl, ⟨.slice none 0 0, rfl, noHdr_ok, RowO.nil _ _ _ _ _⟩, hb⟩
theorem TxO.len {B : Nat} {w : World} {t : TTx} {cs : List Value} (h : TxO B w t cs) : cs.length = 4 := by obtain ⟨_, _, rfl, _⟩ := h; rfl
end Go.Proofs.YtjbijcjcejfpcaaGreatDoor
namespace Go.Proofs.YtjbijcjcejfpcaaGreatDoor
open Go Go.RowKit
set_option linter.unusedVariables false
structure Pok (S : Nat → Prop) (w w' : World) : Prop where
  st : Stays S w w'
  mi : ∀ q m, MineS w S q m → MineS w' S q m
theorem Pok.refl (S : Nat → Prop) (w : World) : Pok S w w := ⟨Stays.refl _ _, fun _ _ h => h⟩
theorem Pok.trans {S : Nat → Prop} {w w1 w2 : World} (h : Pok S w w1) (h2 : Pok S w1 w2) : Pok S w w2 := ⟨h.st.trans h2.st fun _ _ h => h, fun q m hm => h2.mi q m (h.mi q m hm)⟩
theorem Pok.poke {S : Nat → Prop} {w wr : World} {g j : Nat} {cs : Array Value} (h : Pok S w wr) (hk : Blk wr g 5 cs) (hg : S g) (b : BitVec 8) : Pok S w (wr.setCell ⟨g, j, none⟩ (u8 b)) :=
  ⟨h.st.setCell (fun _ => hg) _, fun q m hm => (h.mi q m hm).poke hk b⟩
theorem Pok.fut {S : Nat → Prop} {w w' : World} (hb : Below w.heap.size w w') : Pok S w w' := ⟨Stays.of_below hb (Nat.le_refl _) _, fun q m hm => by
  rcases hm with h | ⟨g, o, cs, rfl, h2, h3, h4⟩
  · exact .inl h
  · exact .inr ⟨g, o, cs, rfl, h2, h3.fut hb, h4⟩⟩
def TextM (S : Nat → Prop) (w : World) (x : Bs) (cs : List Value) : Prop := ∃ q m c, cs = [.slice q m c] ∧ m ≤ c ∧ c ≤ 9223372036854775807 ∧ MineS w S q m
def RowM {α : Type} (S : Nat → Prop) (E : World → α → List Value → Prop) (N : Nat) (w : World) (v : Value) (xs : List α) : Prop := ESl E N w v xs ∧ ∀ k, v.ownBlock = some k → ¬ S k
def InM (S : Nat → Prop) (w : World) (x : TIn) (cs : List Value) : Prop := ∃ sv wv, cs = hCells x.id ++ [u32 x.ix, sv, u32 x.sq, wv] ∧ x.id.length = 32 ∧ TextM S w x.sc [sv] ∧ RowM S (TextM S) 1 w wv x.wi
def OutM (S : Nat → Prop) (w : World) (x : TOut) (cs : List Value) : Prop := ∃ sv, cs = [.int .i64 x.va.toInt, sv] ∧ TextM S w x.sc [sv]
def TxM (S : Nat → Prop) (w : World) (t : TTx) (cs : List Value) : Prop := ∃ iv ov, cs = [u32 t.ve, iv, ov, u32 t.lo] ∧ RowM S (InM S) 36 w iv t.is ∧ RowM S (OutM S) 2 w ov t.os
def KeepsM {α : Type} (S : Nat → Prop) (E : World → α → List Value → Prop) : Prop := ∀ w w' x cs, E w x cs → Pok S w w' → E w' x cs
theorem range_stays {S : Nat → Prop} {w w' : World} {b o : Nat} {cs : List Value} (h : w.rangeAt b o cs) (hs : Stays S w w') (hb : b < w.heap.size) (hn : ¬ S b) : w'.rangeAt b o cs := fun j v hj =>
  (World.cell?_of_block (a := ⟨b, o + j, none⟩) (hs.block b hb hn)).trans (h j v hj)
theorem textM_keeps (S : Nat → Prop) : KeepsM S (TextM S) := fun w w' x cs ⟨q, m, c, h1, h2, h3, h4⟩ hp => ⟨q, m, c, h1, h2, h3, hp.mi q m h4⟩
theorem RowM.pok {α : Type} {S : Nat → Prop} {E : World → α → List Value → Prop} {N : Nat} {w w' : World} {v : Value} {xs : List α} (h : RowM S E N w v xs) (hE : KeepsM S E) (hp : Pok S w w') : RowM S E N w' v xs := by
  obtain ⟨⟨p, n, c, rfl, h2, h3, h4, h5, h6⟩, hS⟩ := h
  refine ⟨⟨p, n, c, rfl, h2, h3, h4, fun hn => ?_, h6⟩, hS⟩
  obtain ⟨b, off, rfl, hlt, hc⟩ := h5 hn
  have hb : ¬ S b := hS b rfl
  refine ⟨b, off, rfl, Nat.lt_of_lt_of_le hlt hp.st.size, fun i x hi => ?_⟩
  obtain ⟨cs, h1, h2⟩ := hc i x hi
  exact ⟨cs, hE _ _ _ _ h1 hp, range_stays h2 hp.st hlt hb⟩
theorem inM_keeps (S : Nat → Prop) : KeepsM S (InM S) := fun w w' x cs ⟨sv, wv, h1, h2, h3, h4⟩ hp => ⟨sv, wv, h1, h2, textM_keeps S _ _ _ _ h3 hp, h4.pok (textM_keeps S) hp⟩
theorem outM_keeps (S : Nat → Prop) : KeepsM S (OutM S) := fun w w' x cs ⟨sv, h1, h2⟩ hp => ⟨sv, h1, textM_keeps S _ _ _ _ h2 hp⟩
theorem txM_keeps (S : Nat → Prop) : KeepsM S (TxM S) := fun w w' x cs ⟨iv, ov, h1, h2, h3⟩ hp => ⟨iv, ov, h1, h2.pok (inM_keeps S) hp, h3.pok (outM_keeps S) hp⟩
theorem RowM.at {α : Type} {S : Nat → Prop} {E : World → α → List Value → Prop} {N : Nat} {w : World} {p : Option Addr} {n c k : Nat} {xs : List α} (h : RowM S E N w (.slice p n c) xs) (hk : k < n) : ∃ b off cs x, p = some ⟨b, off, none⟩ ∧ xs[k]? = some x ∧ E w x cs ∧ w.rangeAt b (off + k * N) cs ∧ ¬ S b ∧ b < w.heap.size := by
  obtain ⟨⟨p', n', c', e, h1, h2, h3, h4, h5⟩, hS⟩ := h
  injection e with e1 e2 e3
  subst e1 e2 e3
  have hx := List.getElem?_eq_getElem (l := xs) (i := k) (by omega)
  obtain ⟨b, off, rfl, hlt, hc⟩ := h4 (by intro e; subst e; simp at h1; omega)
  obtain ⟨cs, h6, h7⟩ := hc k _ hx
  exact ⟨b, off, cs, _, rfl, hx, h6, h7, hS b rfl, hlt⟩
theorem TextM.lit {S : Nat → Prop} {w w' : World} {b : Nat} {q : Option Addr} {m c : Nat} {t : TypeId} (h : MineS w S q m) (h2 : m ≤ c) (h3 : c ≤ 9223372036854775807) (hp : Pok S w w') (hb : Blk w' b t #[.slice q m c]) (hn : ¬ S b) : MineRowsS w' S (some ⟨b, 0, none⟩) 1 := by
  refine .inr ⟨b, 0, rfl, hb.lt, fun i hi => ?_⟩
  obtain rfl : i = 0 := by omega
  refine ⟨q, m, c, ?_, h2, h3, hp.mi q m h, fun hm a ha e => ?_⟩
  · rw [hb.cell]; rfl
  · rcases h with h0 | ⟨g, o, cs, h1, h2, _⟩
    · exact hm h0
    · rw [h1] at ha
      injection ha with ha
      subst ha
      have e' : g = b := e
      exact hn (e' ▸ h2)
theorem RowM.slen {α : Type} {S : Nat → Prop} {E : World → α → List Value → Prop} {N : Nat} {w : World} {p : Option Addr} {n c : Nat} {xs : List α} (h : RowM S E N w (.slice p n c) xs) : xs.length = n ∧ n ≤ c ∧ c ≤ 9223372036854775807 := h.1.slen
theorem RowM.opens {α : Type} {S : Nat → Prop} {E : World → α → List Value → Prop} {N : Nat} {w : World} {v : Value} {xs : List α} (h : RowM S E N w v xs) : ∃ p n c, v = .slice p n c := h.1.opens
theorem TextM.one {S : Nat → Prop} {w : World} {x : Bs} {v : Value} (h : TextM S w x [v]) : v.oneCell' = true := by
  obtain ⟨q, m, c, e, _⟩ := h
  injection e with e
  rw [e]
  rfl
theorem RowM.one {α : Type} {S : Nat → Prop} {E : World → α → List Value → Prop} {N : Nat} {w : World} {v : Value} {xs : List α} (h : RowM S E N w v xs) : v.oneCell' = true := h.1.one
theorem InM.len {S : Nat → Prop} {w : World} {x : TIn} {cs : List Value} (h : InM S w x cs) : cs.length = 36 := by
  obtain ⟨sv, wv, rfl, hl, _⟩ := h
  simp [hCells, hl]
theorem InM.one {S : Nat → Prop} {w : World} {x : TIn} {cs : List Value} (h : InM S w x cs) : cs.toArray.all (·.oneCell') = true := by
  obtain ⟨sv, wv, rfl, hl, h1, h2⟩ := h
  have := hCells_one x.id
  rw [List.all_toArray] at this ⊢
  rw [List.all_append, this]
  simp [Value.oneCell']
  exact ⟨h1.one, h2.one⟩
theorem InM.cell {S : Nat → Prop} {w : World} {x : TIn} {cs : List Value} (h : InM S w x cs) : ∃ sv wv, cs[33]? = some sv ∧ cs[35]? = some wv ∧ TextM S w x.sc [sv] ∧ RowM S (TextM S) 1 w wv x.wi := by
  obtain ⟨sv, wv, rfl, hl, h1, h2⟩ := h
  have hc : (hCells x.id).length = 32 := by simp [hCells, hl]
  exact ⟨sv, wv, by rw [List.getElem?_append_right (by omega), hc]; rfl, by rw [List.getElem?_append_right (by omega), hc]; rfl, h1, h2⟩
theorem TxM.len {S : Nat → Prop} {w : World} {t : TTx} {cs : List Value} (h : TxM S w t cs) : cs.length = 4 := by obtain ⟨_, _, rfl, _⟩ := h; rfl
theorem TxM.one {S : Nat → Prop} {w : World} {t : TTx} {cs : List Value} (h : TxM S w t cs) : cs.toArray.all (·.oneCell') = true := by
  obtain ⟨iv, ov, rfl, hi, ho⟩ := h
  rw [List.all_toArray]
  simp [Value.oneCell']
  exact ⟨hi.one, ho.one⟩
end Go.Proofs.YtjbijcjcejfpcaaGreatDoor
namespace Go.Proofs.YtjbijcjcejfpcaaGreatDoor
open Go Go.RowKit
set_option linter.unusedVariables false
def SBy (B : Nat) (w : World) (k : Nat) : Prop := B ≤ k ∧ ∃ cs, Blk w k 5 cs
theorem SBy.lt {B : Nat} {w : World} {k : Nat} (h : SBy B w k) : k < w.heap.size := by obtain ⟨_, cs, h⟩ := h; exact h.lt
theorem Own8.mineS {B : Nat} {w : World} {v : Value} {bs : Bs} (h : Own8 w B v bs) : ∃ q c, v = .slice q bs.length c ∧ bs.length ≤ c ∧ c ≤ 9223372036854775807 ∧ MineS w (SBy B w) q bs.length := by
  obtain ⟨p, c, rfl, h1, h2, _, h4⟩ := Mine.of h
  refine ⟨p, c, rfl, h1, by unfold maxLen at h2; omega, ?_⟩
  rcases h4 with h | ⟨g, o, cs, h1, h2, h3, h4⟩
  · exact .inl h
  · exact .inr ⟨g, o, cs, h1, ⟨h2, cs, h3⟩, h3, h4⟩
theorem TextO.m {B : Nat} {w : World} {x : Bs} {cs : List Value} (h : TextO B w x cs) : TextM (SBy B w) w x cs := by
  obtain ⟨v, rfl, h⟩ := h
  obtain ⟨q, c, rfl, h1, h2, h3⟩ := h.mineS
  exact ⟨q, _, c, rfl, h1, h2, h3⟩
theorem RowO.m {α : Type} {E E' : World → α → List Value → Prop} {T N B : Nat} {w : World} {v : Value} {xs : List α} (h : RowO E T N B w v xs) (hT : T ≠ 5) (hE : ∀ x cs, E w x cs → E' w x cs) : RowM (SBy B w) E' N w v xs := by
  refine ⟨h.e hE, fun k hk hS => ?_⟩
  obtain ⟨css, _, h2, _⟩ := h
  obtain ⟨_, cs, hc⟩ := hS
  rcases h2.2 with ⟨rfl, _⟩ | ⟨q, cap, cur, rfl, hB, hh, _⟩
  · cases hk
  · injection hk with hk
    subst hk
    exact hT (Blk.inj (show Blk w q T cur from hh) hc).1
theorem InO.m {B : Nat} {w : World} {x : TIn} {cs : List Value} (h : InO B w x cs) : InM (SBy B w) w x cs := by
  obtain ⟨sv, wv, h1, h2, h3, h4⟩ := h
  exact ⟨sv, wv, h1, h2, (show TextO B w x.sc [sv] from ⟨sv, rfl, h3⟩).m, h4.m (by decide) fun _ _ h => h.m⟩
theorem OutO.m {B : Nat} {w : World} {x : TOut} {cs : List Value} (h : OutO B w x cs) : OutM (SBy B w) w x cs := by
  obtain ⟨sv, h1, h3⟩ := h
  exact ⟨sv, h1, (show TextO B w x.sc [sv] from ⟨sv, rfl, h3⟩).m⟩
theorem TxO.m {B : Nat} {w : World} {t : TTx} {cs : List Value} (h : TxO B w t cs) : TxM (SBy B w) w t cs := by
  obtain ⟨iv, ov, h1, h2, h3⟩ := h
  exact ⟨iv, ov, h1, h2.m (by decide) fun _ _ h => h.m, h3.m (by decide) fun _ _ h => h.m⟩
theorem TxM.lit {S : Nat → Prop} {w w' : World} {t : TTx} {cs : List Value} {b : Nat} {T : TypeId} (h : TxM S w t cs) (hp : Pok S w w') (hb : Blk w' b T cs.toArray) (hn : ¬ S b) : RowM S (TxM S) 4 w' (.slice (some ⟨b, 0, none⟩) 1 1) [t] := by
  refine ⟨⟨_, _, _, rfl, rfl, Nat.le_refl _, by unfold maxLen; omega, fun _ => ⟨b, 0, rfl, hb.lt, fun i x hi => ?_⟩, fun e => by cases e⟩, fun k hk => ?_⟩
  · cases i with
    | zero =>
      injection hi with hi
      subst hi
      exact ⟨cs, txM_keeps S _ _ _ _ h hp, by rw [Nat.zero_mul]; exact blk_range hb⟩
    | succ i => cases hi
  · injection hk with hk
    subst hk
    exact hn
end Go.Proofs.YtjbijcjcejfpcaaGreatDoor
namespace Go.Proofs.YtjbijcjcejfpcaaGreatDoor
open Go Go.RowKit
set_option linter.unusedVariables false
theorem TxC.len {w : World} {t : TTx} {cs : List Value} (h : TxC w t cs) : cs.length = 4 := by obtain ⟨_, _, rfl, _⟩ := h; rfl
end Go.Proofs.YtjbijcjcejfpcaaGreatDoor
namespace Go.Proofs.YtjbijcjcejfpcaaGreatDoor
open Go Go.RowKit
set_option linter.unusedVariables false
theorem BlkO.m {B : Nat} {w : World} {b : TBlk} {cs : List Value} (h : BlkO B w b cs) : ∃ v, cs[68]? = some v ∧ RowM (SBy B w) (TxM (SBy B w)) 4 w v b.ts := by
  obtain ⟨v, rfl, hk, hv⟩ := h
  exact ⟨v, by rw [List.getElem?_append_right (by rw [Hdr.cells_len hk]; exact Nat.le_refl _), Hdr.cells_len hk]; rfl, hv.m (by decide) fun _ _ h => h.m⟩
theorem BlkC.size {w : World} {b : TBlk} {cs : List Value} (h : BlkC w b cs) : ZBlk.toArray.size = cs.toArray.size := by rw [List.size_toArray, List.size_toArray, h.len]; rfl
end Go.Proofs.YtjbijcjcejfpcaaGreatDoor
