/- frame.Reader's Feed: the walk. -/
import Derived.Test.YtikjhnbehihbjaaDoorFrmH
import Derived.Test.YtikjhnbehihbjaaDoorGB
namespace Go.Proofs.YtikjhnbehihbjaaDoor
open Go.RowKit
set_option linter.unusedVariables false

theorem frm_info : (Tryd.prog.info? 24).map (fun i => (i.zero, i.size, i.bytes)) = some (some (.agg #[.string ⟨#[]⟩, .slice none 0 0]), 2, 40) := by kernel_rfl
theorem built_frm (s : ByteArray) (p : Option Addr) (n c : Nat) : Tryd.prog.built 24 [(0, .string s), (1, .slice p n c)] = some #[.string s, .slice p n c] := by kernel_rfl

theorem zero32Y : ∃ Y : Array Value, Hid (Y.size = 32) ∧ ∀ w, (zeroValue 59).run Tryd.prog w = .ok (.agg Y) w := ⟨((noughts 32).map u8).toArray, Lib.hid rfl, zero32⟩
/-- frames' cells -/
def frmCells (fs : List (List (BitVec 8) × List (BitVec 8))) (vs : List Value) : List Value := (fs.zip vs).flatMap fun x => [.string (strB x.1.1), x.2]
theorem frmCells_snoc (fs : List (List (BitVec 8) × List (BitVec 8))) (vs : List Value) (f : List (BitVec 8) × List (BitVec 8)) (v : Value) (h : fs.length = vs.length) : frmCells (fs ++ [f]) (vs ++ [v]) = frmCells fs vs ++ [.string (strB f.1), v] := by
  unfold frmCells
  rw [List.zip_append h, List.flatMap_append]
  rfl
theorem frmCells_at : ∀ (fs : List (List (BitVec 8) × List (BitVec 8))) (vs : List Value) (i : Nat) (f : List (BitVec 8) × List (BitVec 8)) (v : Value), fs[i]? = some f → vs[i]? = some v → (frmCells fs vs)[2 * i]? = some (.string (strB f.1)) ∧ (frmCells fs vs)[2 * i + 1]? = some v
  | [], _, _, _, _, h, _ => by cases h
  | _ :: _, [], _, _, _, _, h => by cases h
  | f' :: fs, v' :: vs, 0, f, v, h, h2 => by
    injection h with h; injection h2 with h2; subst h h2
    exact ⟨rfl, rfl⟩
  | f' :: fs, v' :: vs, i + 1, f, v, h, h2 => by
    have := frmCells_at fs vs i f v h h2
    rw [show 2 * (i + 1) = 2 * i + 2 by omega]
    exact this
/-- a slice of frames of the call's own, the frames' payloads in blocks from B on -/
def FrmRows (w : World) (B : Nat) (v : Value) (fs : List (List (BitVec 8) × List (BitVec 8))) : Prop :=
  ∃ vs : List Value, vs.length = fs.length ∧ w.ownsRow B 24 2 v fs.length (frmCells fs vs) ∧ ∀ (i : Nat) (f : List (BitVec 8) × List (BitVec 8)) (u : Value), fs[i]? = some f → vs[i]? = some u → Sl w u f.2 ∧ ∀ k, u.ownBlock = some k → B ≤ k ∧ k < w.heap.size ∧ v.ownBlock ≠ some k
theorem FrmRows.nil (w : World) (B : Nat) : FrmRows w B (.slice none 0 0) [] := ⟨[], rfl, World.ownsRow_nil w B _ 2, fun _ _ _ h => by cases h⟩
theorem FrmRows.mono {w : World} {B B' : Nat} {v : Value} {fs : List (List (BitVec 8) × List (BitVec 8))} (h : FrmRows w B v fs) (hB : B' ≤ B) : FrmRows w B' v fs := by
  obtain ⟨vs, h1, h2, h3⟩ := h
  exact ⟨vs, h1, ownsRow_mono h2 hB, fun i f u hf hu => ⟨(h3 i f u hf hu).1, fun k hk => ⟨Nat.le_trans hB ((h3 i f u hf hu).2 k hk).1, ((h3 i f u hf hu).2 k hk).2⟩⟩⟩
theorem Sl.stays {S : Nat → Prop} {w w' : World} {v : Value} {bs : List (BitVec 8)} (h : Sl w v bs) (hs : Stays S w w') (hn : ∀ k, v.ownBlock = some k → ¬ S k) : Sl w' v bs := by
  obtain ⟨p, n, c, rfl, h2, h3, h4, h5, h6⟩ := h
  exact ⟨p, n, c, rfl, h2, h3, h4, h5.stays hs (fun _ a ha => hn _ (by rw [ha]; rfl)), h6⟩
theorem FrmRows.stays {S : Nat → Prop} {w w' : World} {B : Nat} {v : Value} {fs : List (List (BitVec 8) × List (BitVec 8))} (h : FrmRows w B v fs) (hs : Stays S w w') (hn : ∀ k, B ≤ k → ¬ S k) : FrmRows w' B v fs := by
  obtain ⟨vs, h1, h2, h3⟩ := h
  exact ⟨vs, h1, ownsRow_stays h2 hs (fun k hk => hn k (World.ownsRow.lt h2 k hk).1), fun i f u hf hu => ⟨(h3 i f u hf hu).1.stays hs (fun k hk => hn k ((h3 i f u hf hu).2 k hk).1), fun k hk => ⟨((h3 i f u hf hu).2 k hk).1, Nat.lt_of_lt_of_le ((h3 i f u hf hu).2 k hk).2.1 hs.size, ((h3 i f u hf hu).2 k hk).2.2⟩⟩⟩
theorem FrmRows.fut {w w' : World} {B : Nat} {v : Value} {fs : List (List (BitVec 8) × List (BitVec 8))} (h : FrmRows w B v fs) (hb : Below w.heap.size w w') : FrmRows w' B v fs :=
  h.stays (Stays.of_below hb (Nat.le_refl _) (fun _ => False)) (fun _ _ h => h)
theorem Sl.later {w w' : World} {v : Value} {bs : List (BitVec 8)} {row : Option Nat} (h : Sl w v bs) (hg : w.grownBy w' row) (hn : ∀ k, v.ownBlock = some k → row ≠ some k) : Sl w' v bs :=
  h.stays (S := fun k => row = some k) (Stays.of_grown hg (fun k hk => hk)) (fun k hk e => hn k hk e)

/-- what a reader's length is in this world: the measure -/
def lenAt (w : World) (g : Nat) : Nat := match w.cell? ⟨g, 0, none⟩ with | some (.slice _ n _) => n | _ => 0
theorem lenAt_blk {w : World} {g : Nat} {p : Option Addr} {n c : Nat} {m x : Value} {t : TypeId} (h : Blk w g t #[.slice p n c, m, x]) : lenAt w g = n := by
  have := h.cell 0
  simp only [List.getElem?_toArray, List.getElem?_cons_zero] at this
  unfold lenAt
  rw [this]

/-- what a reader of frames holds -/
def Rd (w : World) (g : Nat) (v : Value) (e : Int) : Prop := Blk w g 48 #[v, .bool true, .int .i64 e]
def FeedPost (w : World) (g B : Nat) (v : Value) (x : List (List (BitVec 8) × List (BitVec 8)) × List (BitVec 8) × Int) (e : Ending) (w' : World) : Prop :=
  ∃ l v' H, e = .returned (.tuple #[l, .int .i64 x.2.2]) ∧ w.heap.size ≤ H ∧ FrmRows w' H l x.1 ∧ Rd w' g v' x.2.2 ∧ Sfx8 w' B v' x.2.1 ∧ Stays (fun k => k = g ∨ v.ownBlock = some k) w w' ∧ (∀ k, v'.ownBlock = some k → v.ownBlock = some k ∨ (w.heap.size ≤ k ∧ k < H))

set_option maxRecDepth 100000 in
set_option maxHeartbeats 4000000 in
theorem feed_fault (g : Nat) (v u : Value) (e : Int) (w : World) (hB : Rd w g v e) (he : (e == 0) = false) :
    Calls Tryd.prog 14 #[.pointer (some ⟨g, 0, none⟩), u] w fun e' w' => e' = .returned (.tuple #[.slice none 0 0, .int .i64 e]) ∧ ∃ k, w' = w.drewN k := by
  have c1 := hB.cell 1
  have c2 := hB.cell 2
  have he2 : (e != 0) = true := by rw [bne, he]; rfl
  simp only [List.getElem?_toArray, List.getElem?_cons_zero, List.getElem?_cons_succ] at c1 c2
  clear hB
  go_enter Tryd.func14, Tryd.ntmps14
  go_wp2_with fail
  go_quiet (fail)
  go_wp2
  go_ret2
  exact ⟨rfl, _, rfl⟩

/-- where Feed's loop stands -/
structure FeedInv (w : World) (g B H : Nat) (v : Value) (tot : List (BitVec 8)) (l : Value) (wr : World) (fs : List (List (BitVec 8) × List (BitVec 8))) (cur : List (BitVec 8)) (u : Value) : Prop where
  big : w.heap.size ≤ H
  rows : FrmRows wr H l fs
  rd : Rd wr g u 0
  sfx : Sfx8 wr B u cur
  stays : Stays (fun k => k = g ∨ v.ownBlock = some k) w wr
  own : ∀ k, u.ownBlock = some k → v.ownBlock = some k ∨ (w.heap.size ≤ k ∧ k < H)
  all : frmAll tot = (fs ++ (frmAll cur).1, (frmAll cur).2)
  len : fs.length * 24 + cur.length ≤ tot.length
section
variable {w : World} {g B H : Nat} {v : Value} {tot : List (BitVec 8)} {l : Value} {wr w' : World} {fs : List (List (BitVec 8) × List (BitVec 8))} {cur : List (BitVec 8)} {u : Value}
theorem FeedInv.fut (h : FeedInv w g B H v tot l wr fs cur u) (hb : Below wr.heap.size wr w') : FeedInv w g B H v tot l w' fs cur u :=
  ⟨h.big, h.rows.fut hb, Blk.fut h.rd hb, h.sfx.fut hb, h.stays.trans (Stays.of_below hb (Nat.le_refl _) (fun _ => False)) (fun _ _ h => h.elim), h.own, h.all, h.len⟩
theorem FeedInv.wait (h : FeedInv w g B H v tot l wr fs cur u) (hs : frmStep cur = .wait) : FeedPost w g B v (frmAll tot) (.returned (.tuple #[l, .int .i64 0])) wr := by
  have e := h.all
  rw [frmAll_wait hs, List.append_nil] at e
  rw [e]
  exact ⟨l, u, H, rfl, h.big, h.rows, h.rd, h.sfx, h.stays, h.own⟩
theorem FeedInv.fault {er : Int} (h : FeedInv w g B H v tot l wr fs cur u) (hg : g < w.heap.size) (hs : frmStep cur = .fault er) : FeedPost w g B v (frmAll tot) (.returned (.tuple #[l, .int .i64 er])) ((wr.setCell ⟨g, 2, none⟩ (.int .i64 er)).setCell ⟨g, 0, none⟩ (.slice none 0 0)) := by
  have e := h.all
  rw [frmAll_fault hs, List.append_nil] at e
  rw [e]
  have h1 : Stays (· = g) wr ((wr.setCell ⟨g, 2, none⟩ (.int .i64 er)).setCell ⟨g, 0, none⟩ (.slice none 0 0)) :=
    Stays.setCell (S := (· = g)) (a := ⟨g, 0, none⟩) (Stays.setCell (S := (· = g)) (a := ⟨g, 2, none⟩) (Stays.refl _ _) (fun _ => rfl) _) (fun _ => rfl) _
  have hbig := h.big
  refine ⟨l, _, H, rfl, h.big, h.rows.stays h1 (fun k hk e => by omega), ?_, Sfx8.nil _ _, h.stays.trans h1 (fun k _ h => .inl h), fun k h => by cases h⟩
  exact (Blk.set h.rd 2 _).set 0 _
/-- one frame more -/
theorem FrmRows.snoc {w7 w8 : World} {B' : Nat} {l l' q : Value} {fs : List (List (BitVec 8) × List (BitVec 8))} {cm pl : List (BitVec 8)} {o : Obj} (h : FrmRows w7 B' l fs) (vs : List Value) (hvl : vs.length = fs.length)
    (hvs : ∀ (i : Nat) (f : List (BitVec 8) × List (BitVec 8)) (u : Value), fs[i]? = some f → vs[i]? = some u → Sl w7 u f.2 ∧ ∀ k, u.ownBlock = some k → B' ≤ k ∧ k < w7.heap.size ∧ l.ownBlock ≠ some k)
    (hq : Sl w7 q pl) (hqo : ∀ k, q.ownBlock = some k → B' ≤ k ∧ k < w7.heap.size ∧ l.ownBlock ≠ some k)
    (ho : w8.ownsRow B' 24 2 l' (fs.length + 1) (frmCells fs vs ++ [.string (strB cm), q])) (hg : (w7.alloc o).grownBy w8 l.ownBlock) (hl : l'.ownBlock = l.ownBlock ∨ l'.ownBlock = some (w7.alloc o).heap.size) :
    FrmRows w8 B' l' (fs ++ [(cm, pl)]) := by
  have hst : Stays (fun k => l.ownBlock = some k) w7 w8 := (Stays.of_below (below_new w7 o) (Nat.le_refl _) (fun k => l.ownBlock = some k)).trans (Stays.of_grown hg (fun k hk => hk)) (fun k _ h => h)
  have hsz : w7.heap.size < (w7.alloc o).heap.size := by rw [World.size_alloc]; omega
  have hsz8 := hst.size
  have key : ∀ k, k < w7.heap.size ∧ l.ownBlock ≠ some k → k < w8.heap.size ∧ l'.ownBlock ≠ some k := fun k h => ⟨by omega, by
    rcases hl with e | e
    · rw [e]; exact h.2
    · rw [e]; intro e; injection e with e; omega⟩
  refine ⟨vs ++ [q], by simp [hvl], by rw [frmCells_snoc _ _ _ _ hvl.symm, List.length_append]; exact ho, fun i f u hf hu => ?_⟩
  rcases Nat.lt_or_ge i fs.length with hi | hi
  · rw [List.getElem?_append_left hi] at hf
    rw [List.getElem?_append_left (by omega)] at hu
    obtain ⟨h1, h2⟩ := hvs i f u hf hu
    exact ⟨h1.stays hst (fun k hk => (h2 k hk).2.2), fun k hk => ⟨(h2 k hk).1, key k (h2 k hk).2⟩⟩
  · rw [List.getElem?_append_right hi] at hf
    rw [List.getElem?_append_right (by omega), hvl] at hu
    have h0 : i - fs.length = 0 := by have := (List.getElem?_eq_some_iff.1 hf).1; simp at this; omega
    rw [h0] at hf hu
    simp only [List.getElem?_cons_zero, Option.some.injEq] at hf hu
    subst hf hu
    exact ⟨hq.stays hst (fun k hk => (hqo k hk).2.2), fun k hk => ⟨(hqo k hk).1, key k (hqo k hk).2⟩⟩
theorem FeedInv.step {w7 w8 : World} {u' l' q : Value} {cm pl r : List (BitVec 8)} {o : Obj} (h : FeedInv w g B H v tot l wr fs cur u) (hg : g < w.heap.size) (hs : frmStep cur = .frame cm pl r)
    (hst : Stays (· = g) wr w7) (hrd : Rd w7 g u' 0) (hsf : Sfx8 w7 B u' r) (hub : u'.ownBlock = u.ownBlock) (hq : Sl w7 q pl) (hH : H ≤ wr.heap.size) (hqo : ∀ k, q.ownBlock = some k → wr.heap.size ≤ k ∧ k < w7.heap.size)
    (vs : List Value) (hvl : vs.length = fs.length) (hown : w7.ownsRow H 24 2 l fs.length (frmCells fs vs))
    (hvs : ∀ (i : Nat) (f : List (BitVec 8) × List (BitVec 8)) (u : Value), fs[i]? = some f → vs[i]? = some u → Sl w7 u f.2 ∧ ∀ k, u.ownBlock = some k → H ≤ k ∧ k < w7.heap.size ∧ l.ownBlock ≠ some k)
    (ho : w8.ownsRow H 24 2 l' (fs.length + 1) (frmCells fs vs ++ [.string (strB cm), q])) (hgr : (w7.alloc o).grownBy w8 l.ownBlock) (hl : l'.ownBlock = l.ownBlock ∨ l'.ownBlock = some (w7.alloc o).heap.size) :
    FeedInv w g B H v tot l' w8 (fs ++ [(cm, pl)]) r u' := by
  have hst8 : Stays (fun k => l.ownBlock = some k) w7 w8 := (Stays.of_below (below_new w7 o) (Nat.le_refl _) (fun k => l.ownBlock = some k)).trans (Stays.of_grown hgr (fun k hk => hk)) (fun k _ h => h)
  have hbig := h.big
  have hlb : ∀ k, l.ownBlock = some k → H ≤ k ∧ k < wr.heap.size := by
    obtain ⟨vs', h1, h2, _⟩ := h.rows
    exact World.ownsRow.lt h2
  have hla : ∀ k, l.ownBlock = some k → ∃ cs, Blk w7 k 24 cs := fun k hk => by
    rcases hown.2 with ⟨e, _⟩ | ⟨g', cap, cur', e, _, hh, _⟩
    · rw [e] at hk; cases hk
    · rw [e] at hk; injection hk with hk; subst hk; exact ⟨cur', hh⟩
  have hr24 := frmStep_rest hs
  have hlen := h.len
  refine ⟨h.big, FrmRows.snoc ⟨vs, hvl, hown, hvs⟩ vs hvl hvs hq (fun k hk => ⟨?_, (hqo k hk).2, fun e => ?_⟩) ho hgr hl, ?_, ?_, ?_, ?_, ?_, ?_⟩
  · exact Nat.le_trans hH (hqo k hk).1
  · have := hlb k e
    have := (hqo k hk).1
    omega
  · exact Blk.stays hrd hst8 (fun e => by have := (hlb g e).1; omega)
  · refine hsf.stays hst8 (fun k hk e => ?_)
    obtain ⟨cs, hcs⟩ := hla k e
    exact hsf.apart hcs (by decide) hk
  · refine (h.stays.trans hst (fun k _ h => .inl h)).trans hst8 (fun k hk h' => ?_)
    have := (hlb k h').1
    omega
  · intro k hk
    exact h.own k (by rw [← hub]; exact hk)
  · rw [h.all, frmAll_frame hs, List.append_assoc]
    rfl
  · rw [List.length_append, List.length_singleton]
    omega
theorem FeedPost.drewN {x : List (List (BitVec 8) × List (BitVec 8)) × List (BitVec 8) × Int} {e : Ending} (h : FeedPost w g B v x e w') (k : Nat) : FeedPost w g B v x e (w'.drewN k) := by
  obtain ⟨l, v', H', h1, h1', h2, h3, h4, h5, h6⟩ := h
  exact ⟨l, v', H', h1, h1', h2.fut (below_draws _ _), h3, h4.fut (below_draws _ _), h5.drewN k, h6⟩
end

set_option maxRecDepth 100000 in
set_option maxHeartbeats 8000000 in
theorem feed_any (g B : Nat) (v : Value) (s bs : List (BitVec 8)) (p : Option Addr) (n c : Nat) (w : World) (hK : Laid w) (hgB : gTop ≤ B) (hBg : B ≤ g) (hB : Rd w g v 0) (hv : Sfx8 w B v s) (hr : Row8 w p bs) (hn : bs.length = n) (hlen : s.length + n ≤ 1000000000000) :
    Calls Tryd.prog 14 #[.pointer (some ⟨g, 0, none⟩), .slice p n c] w (FeedPost w g B v (frmAll (s ++ bs))) := by
  have HK := Lib.hid hK
  have HR := Lib.hid hr
  have HN := Lib.hid hn
  have HB := Lib.hid hB
  have HV := Lib.hid hv
  have hap : Hid (v.ownBlock ≠ some g) := Lib.hid (hv.apart hB (by decide))
  have hvb : Hid (∀ k, v.ownBlock = some k → B ≤ k) := Lib.hid (fun k hk => (hv.lt k hk).1)
  have hglt := hB.lt
  have c0 := hB.cell 0
  have c1 := hB.cell 1
  have c2 := hB.cell 2
  have hBs : B ≤ w.heap.size := by omega
  simp only [List.getElem?_toArray, List.getElem?_cons_zero, List.getElem?_cons_succ] at c0 c1 c2
  obtain ⟨q, m, d, rfl, _⟩ := hv.row
  obtain ⟨tot, htot⟩ : ∃ tot, tot = s ++ bs := ⟨_, rfl⟩
  have hsb : tot.length ≤ 1000000000000 := by rw [htot, List.length_append, hn]; exact hlen
  rw [← htot]
  have HTOT := Lib.hid htot
  clear hK hr hn hB hv htot
  go_enter Tryd.func14, Tryd.ntmps14
  go_wp2_with (with_reducible refine wp_sfx8 (o := ⟨some 36, _, _, _, _, _⟩) ?_ (.tmp 34) (.tmp 35) ?_ B _ s ?_ HV.out p n c bs ?_ HN.out HR.out ?_ hBs ?_
               · rfl
               · rfl
               · rfl
               · rfl
               · rw [HN.out]; omega
               intro v1 w1 hv1 hg1 ho1
               have hb1 : Rd w1 g _ 0 := (hg1.block g hglt (fun e => hap.out e.symm)).trans HB.out
               have c0' := hb1.cell 0
               have f0' := hb1.frozen 0
               simp only [List.getElem?_toArray, List.getElem?_cons_zero] at c0'
               obtain ⟨q1, m1, d1, rfl, _⟩ := hv1.row)
  have hinv : ∃ fs cur p1 n1 c1, FeedInv w g B w1.heap.size (.slice q m d) tot (.slice none 0 0) (w1.setCell ⟨g, 0, none⟩ (.slice q1 m1 d1)) fs cur (.slice p1 n1 c1) := by
    have h1 : Stays (· = g) w1 (w1.setCell ⟨g, 0, none⟩ (.slice q1 m1 d1)) := Stays.setCell (S := (· = g)) (a := ⟨g, 0, none⟩) (Stays.refl _ _) (fun _ => rfl) _
    have hne : (Value.slice q1 m1 d1).ownBlock ≠ some g := by
      rcases ho1 with e | e
      · rw [e]; exact hap.out
      · rw [e]; intro h; injection h with h; omega
    rw [HTOT.out]
    refine ⟨[], s ++ bs, q1, m1, d1, hg1.size, FrmRows.nil _ _, Blk.set hb1 0 _, hv1.stays h1 (fun k hk e => hne (by rw [hk, e])), ?_, ?_, by simp, by simp⟩
    · exact (Stays.of_grown (S := fun k => k = g ∨ (Value.slice q m d).ownBlock = some k) hg1 (fun k hk => .inr hk)).trans h1 (fun k _ h => .inl h)
    · intro k hk
      rcases ho1 with e | e
      · exact .inl (by rw [← e]; exact hk)
      · have hlt := (hv1.lt k hk).2
        rw [e] at hk; injection hk with hk; exact .inr (by omega)
  have hH1 : w1.heap.size ≤ (w1.setCell ⟨g, 0, none⟩ (.slice q1 m1 d1)).heap.size := by simp [World.setCell]
  have hHw := hg1.size
  obtain ⟨H, hH⟩ : ∃ H, H = w1.heap.size := ⟨_, rfl⟩
  rw [← hH] at hinv hHw hH1
  refine wp_abst (fun wr => (∃ fs cur p1 n1 c1, FeedInv w g B H (.slice q m d) tot (.slice none 0 0) wr fs cur (.slice p1 n1 c1)) ∧ H ≤ wr.heap.size) ⟨hinv, hH1⟩ ?_
  clear hinv hv1 hg1 ho1 hb1 c0' f0' c0 c1 c2 HTOT HV HR HB hlen HN hH hH1
  rintro w2 ⟨hinv, hH2⟩
  go_loopw [6] (fun l wr => ∃ fs cur p1 n1 c1, FeedInv w g B H (.slice q m d) tot l wr fs cur (.slice p1 n1 c1) ∧ H ≤ wr.heap.size) (fun _ wr => lenAt wr g)
  case atStart =>
    obtain ⟨a1, a2, a3, a4, a5, a6⟩ := hinv
    exact ⟨a1, a2, a3, a4, a5, a6, hH2⟩
  case round =>
    clear hinv hH2
    obtain ⟨fs, cur, p1, n1, d1, hI, hHr⟩ := hrel
    have HI := Lib.hid hI
    obtain ⟨p1', n1', d1', e, hcl, hnd, hd, hrc, hpn⟩ := hI.sfx.row
    injection e with e1 e2 e3
    subst e1 e2 e3
    have c0 := hI.rd.cell 0
    have c1 := hI.rd.cell 1
    have c2 := hI.rd.cell 2
    simp only [List.getElem?_toArray, List.getElem?_cons_zero, List.getElem?_cons_succ] at c0 c1 c2
    have HRC := Lib.hid hrc
    clear hI hrc hpn
    by_cases h24 : 24 ≤ n1
    · have h24i : (24 : Int) ≤ (n1 : Int) := by omega
      go_wp2_with fail
      refine (head_any g p1 n1 d1 _ _ cur _ HI.out.rd HRC.out hcl.out hnd hd h24).mono ?_
      rintro e w3 ⟨rfl, k3, rfl⟩
      obtain ⟨nm, all, er, hh⟩ : ∃ nm all er, frmHead cur = (nm, all, er) := ⟨_, _, _, rfl⟩
      rw [hh]
      unfold headV
      simp only
      have HH := Lib.hid hh
      clear hh
      have HI3 := Lib.hid (HI.out.fut (below_draws wr k3))
      by_cases her : er = 0
      · subst her
        have hho : Hid (frmHead cur = (frmName cur, 24 + frmLen cur, 0) ∧ frmLen cur ≤ 200000) := Lib.hid (by
          obtain ⟨h1, h2, _⟩ := frmHead_ok (s := cur) (by rw [HH.out])
          exact ⟨h1, h2⟩)
        have hal : 24 ≤ all ∧ all ≤ 200024 := by
          obtain ⟨h1, h2⟩ := hho.out
          rw [HH.out] at h1
          injection h1 with h1 h3
          injection h3 with h3 _
          omega
        obtain ⟨hal1, hal2⟩ := hal
        by_cases hw : n1 < all
        · have hwi : (n1 : Int) < (all : Int) := by omega
          have HW : Hid (frmStep cur = .wait) := Lib.hid (by
            unfold frmStep
            rw [if_neg (by rw [hcl.out]; omega), HH.out, if_pos rfl, if_pos (by rw [hcl.out]; exact hw)])
          go_wp2_with fail
          go_quiet (fail)
          go_wp2
          go_ret2
          exact (HI3.out.fut (below_draws _ _)).wait HW.out
        · have hwi : ¬ (n1 : Int) < (all : Int) := by omega
          have hs1 : ∀ W, (Instr.sliceAt 22 (.slice p1 n1 d1) (some (.int .i64 24)) (some (.int .i64 (all : Int))) none).run Tryd.prog W = .ok (.slice (cut8 p1 d1 24) (all - 24) (d1 - 24)) W := fun W => slice_lh8 W p1 n1 d1 24 all hal1 (by omega)
          have hs2 : ∀ W, (Instr.sliceAt 22 (.slice p1 n1 d1) (some (.int .i64 20)) (some (.int .i64 24)) none).run Tryd.prog W = .ok (.slice (cut8 p1 d1 20) 4 (d1 - 20)) W := fun W => slice_lh8 W p1 n1 d1 20 24 (by omega) (by omega)
          have hr1 : Row8 wr (cut8 p1 d1 24) ((cur.take all).drop 24) := HRC.out.lh (by rw [hcl.out]; omega)
          have hr2 : Row8 wr (cut8 p1 d1 20) ((cur.take 24).drop 20) := HRC.out.lh (by rw [hcl.out]; omega)
          have hl1 : ((cur.take all).drop 24).length = all - 24 := by rw [List.length_drop, List.length_take, hcl.out]; omega
          have hl2 : ((cur.take 24).drop 20).length = 4 := by rw [List.length_drop, List.length_take, hcl.out]; omega
          generalize cut8 p1 d1 24 = q24, cut8 p1 d1 20 = q20 at hs1 hs2 hr1 hr2
          obtain ⟨pl, hpl⟩ : ∃ pl, pl = (cur.take all).drop 24 := ⟨_, rfl⟩
          obtain ⟨sm, hsm⟩ : ∃ sm, sm = (cur.take 24).drop 20 := ⟨_, rfl⟩
          rw [← hpl] at hr1 hl1
          rw [← hsm] at hr2 hl2
          have HR1 := Lib.hid hr1
          have HR2 := Lib.hid hr2
          have HL1 := Lib.hid hl1
          have HL2 := Lib.hid hl2
          have HPL := Lib.hid hpl
          have HSM : Hid (sm = (cur.drop 20).take 4) := Lib.hid (by rw [hsm, List.drop_take])
          clear hr1 hr2 hl1 hl2 hpl hsm
          have hKs : gTop ≤ w.heap.size := by omega
          have HKr : Hid (Laid (wr.drewN k3)) := Lib.hid (HK.out.below (HI3.out.stays.below hBs (fun k hk => by
            rcases hk with rfl | hk
            · exact hBg
            · exact hvb.out k hk)) hgB)
          go_wp2_with fail
          refine (shaDouble_any q24 (all - 24) (d1 - 24) pl _ HKr.out (HR1.out.fut (below_draws wr k3)) HL1.out (by omega) (by omega) (by omega)).mono ?_
          obtain ⟨R, hRe⟩ : ∃ R, R = sha (sha pl) := ⟨_, rfl⟩
          have hRl : R.length = 32 := by rw [hRe, sha_len]
          rw [← hRe]
          have HRe := Lib.hid hRe
          have HRl := Lib.hid hRl
          clear hRe hRl
          rintro e w5 ⟨rfl, hb5⟩
          obtain ⟨Y, hYl, hz32⟩ := zero32Y
          have HI5 := Lib.hid (HI3.out.fut hb5)
          go_upto_region 12 with (first
            | (with_reducible refine wp_store_blk (o := ⟨none, _, _, _, _, _⟩) ?_ 59 (.tmp 10) (.tmp 74) ?_ (w5.heap.size) 59 (Y) ((hCells (R)).toArray) ?_ ?_ (Blk.new w5 _ _) ?_ ?_ ?_ (w5.heap.size) (w5) ?_ ?_ ?_
               · rfl
               · rfl
               · rfl
               · rfl
               · exact (hCells_info' (HRl.out))
               · exact ((hYl.out).trans (hCells_size (HRl.out)).symm)
               · exact (hCells_one _)
               · exact (below_new w5 _)
               · exact (Nat.le_refl _)
               intro w6 hR6 hb6 hg6 hs6))
          have hb6' := below_fut (below_draws wr k3) (below_fut hb5 hb6 (Nat.le_refl _)) (Nat.le_refl _)
          have HI6 := Lib.hid (HI5.out.fut hb6)
          have HR6 : Hid (Row8 w6 (some ⟨w5.heap.size, 0, none⟩) (R.take 4)) := Lib.hid ((hCells_row hR6.out).take 4)
          have HR26 := Lib.hid (HR2.out.fut hb6')
          have hRt : Hid ((R.take 4).length = 4) := Lib.hid (by rw [List.length_take, HRl.out]; rfl)
          obtain ⟨b, hb⟩ : ∃ b, b = decide (R.take 4 = sm) := ⟨_, rfl⟩
          have heq : ∀ k, Calls Tryd.prog 11 #[.slice (some ⟨w5.heap.size, 0, none⟩) 4 32, .slice q20 4 (d1 - 20)] (w6.drewN k) fun e w' => e = .returned (.bool b) ∧ w' = w6.drewN k := fun k => by
            rw [hb]
            exact equal_any _ _ 4 32 4 (d1 - 20) (R.take 4) sm _ (HR6.out.fut (below_draws _ _)) (HR26.out.fut (below_draws _ _)) hRt.out HL2.out
          have HBB := Lib.hid hb
          generalize w5.heap.size = g5 at heq HR6 hR6 ⊢
          have c0 := HI6.out.rd.cell 0
          simp only [List.getElem?_toArray, List.getElem?_cons_zero] at c0
          clear hb hb6 hg6 hs6 hb5 HI5 hR6 hYl HR6 HR26 HKr HI3 HR1 HR2 hz32
          simp only [put_none]
          cases b
          · have c2 := HI6.out.rd.cell 2
            have f0 := HI6.out.rd.frozen 0
            have f2 := HI6.out.rd.frozen 2
            simp only [List.getElem?_toArray, List.getElem?_cons_zero, List.getElem?_cons_succ] at c2
            have HF : Hid (frmStep cur = .fault 92) := Lib.hid (by
              have hno : ¬ R.take 4 = sm := of_decide_eq_false HBB.out.symm
              unfold frmStep
              rw [if_neg (by rw [hcl.out]; omega), HH.out, if_pos rfl, if_neg (by rw [hcl.out]; omega), if_neg (by rw [← HPL.out, ← HRe.out, ← HSM.out]; exact hno)])
            go_quiet ((exact Calls.quiet_of_same (heq _)))
            have HI7 := Lib.hid (HI6.out.fut (below_draws w6 nq))
            clear heq
            go_wp2_with fail
            go_quiet (fail)
            go_wp2
            go_ret2
            exact (HI7.out.fault hglt HF.out).drewN _
          · have HF : Hid (frmStep cur = .frame nm pl (cur.drop all)) := Lib.hid (by
              have hyes : R.take 4 = sm := of_decide_eq_true HBB.out.symm
              unfold frmStep
              rw [if_neg (by rw [hcl.out]; omega), HH.out, if_pos rfl, if_neg (by rw [hcl.out]; omega), if_pos (by rw [← HPL.out, ← HRe.out, ← HSM.out]; exact hyes), ← HPL.out])
            have hrow6 : Hid (Row8 w6 p1 cur ∧ (p1 = none → d1 = 0)) := Lib.hid (by
              obtain ⟨p1', n1', d1', e, _, _, _, h1, h2⟩ := HI6.out.sfx.row
              injection e with e1 e2 e3
              subst e1 e2 e3
              exact ⟨h1, h2⟩)
            go_quiet ((exact Calls.quiet_of_same (heq _)))
            clear heq
            have HI7 := Lib.hid (HI6.out.fut (below_draws w6 nq))
            have hrow7 := hrow6.out.1.fut (below_draws w6 nq)
            go_wp2_with fail
            refine (take_any g p1 n1 d1 all _ _ cur _ HI7.out.rd hrow7 hcl.out hnd hd hrow6.out.2 (by omega) (by omega)).mono ?_
            rintro e w7 ⟨v7, rfl, ho7, hrd7, hst7⟩
            obtain ⟨vs, hvl, hown, hvs⟩ := HI7.out.rows.stays hst7 (fun k hk e => by omega)
            have hbo7 := World.ownsRow.lt ho7
            obtain ⟨pt, ct, rfl, hct, hctm, hrt, hbt⟩ := ho7.row'
            have htl : (cur.take all).length = all := by rw [List.length_take, hcl.out]; omega
            rw [htl] at hct hbo7 ⊢
            have hpt : pt ≠ none := fun e => by
              obtain ⟨_, _, e2, _⟩ := hrt (fun e => by rw [e] at htl; simp at htl; omega)
              rw [e] at e2; cases e2
            have hs3 : ∀ W, (Instr.sliceAt 22 (.slice pt all ct) (some (.int .i64 24)) none none).run Tryd.prog W = .ok (.slice (cut8 pt ct 24) (all - 24) (ct - 24)) W := fun W => slice_cut8 W pt all ct 24 (by omega)
            have hq : Sl w7 (.slice (cut8 pt ct 24) (all - 24) (ct - 24)) pl := ⟨_, _, _, rfl, by rw [HPL.out, List.length_drop, htl], by omega, by omega, by rw [HPL.out]; exact hrt.cut8 (by rw [htl]; exact hct), fun e => absurd (cut8_none e) hpt⟩
            have hqo : ∀ k, (Value.slice (cut8 pt ct 24) (all - 24) (ct - 24)).ownBlock = some k → (w6.drewN nq).heap.size ≤ k ∧ k < w7.heap.size := fun k hk => by
              rw [own_slice, own_cut8] at hk
              exact hbo7 k (by rw [own_slice]; exact hk)
            have HQ := Lib.hid hq
            have HQO := Lib.hid hqo
            generalize cut8 pt ct 24 = q24, ct - 24 = c24 at hs3 HQ HQO
            have hsf7 := (HI7.out.sfx.cut (k := all) (by omega)).stays hst7 (fun k hk e => by
              rw [e, own_slice, own_cut8] at hk
              exact HI7.out.sfx.apart HI7.out.rd (by decide) (by rw [own_slice]; exact hk))
            have HOWN := Lib.hid hown
            have HVS := Lib.hid hvs
            have HST := Lib.hid hst7
            have HSF := Lib.hid hsf7
            have HRD := Lib.hid hrd7
            have HVL := Lib.hid hvl
            have hfl : Hid (fs.length ≤ 50000000000) := Lib.hid (by have := HI7.out.len; omega)
            have hszw : w.heap.size ≤ w7.heap.size := by have := HI7.out.stays.size; have := hst7.size; omega
            have hszH : H ≤ w7.heap.size := by have := (hb6'.size : wr.heap.size ≤ w6.heap.size); have := hst7.size; have : (w6.drewN nq).heap.size = w6.heap.size := rfl; omega
            have hszH6 : H ≤ (w6.drewN nq).heap.size := by have := (hb6'.size : wr.heap.size ≤ w6.heap.size); exact Nat.le_trans hHr this
            clear hq hqo hbo7 hrt hbt hpt htl ho7 hown hvs hst7 hsf7 hrd7 hvl hrow7 hct hctm
            go_wp2_with (first
              | (with_reducible refine wp_build (o := ⟨some 102, _, _, _, _, _⟩) ?_ 24 #[(0, .tmp 95), (1, .tmp 101)] ?_ [(0, .string (strB nm)), (1, .slice q24 (all - 24) c24)] ?_ #[.string (strB nm), .slice q24 (all - 24) c24] built_frm _ _ _ _ ?_
                 · rfl
                 · rfl
                 · rfl)
              | (with_reducible refine wp_rowapp (o := ⟨some 104, _, _, _, _, _⟩) ?_ (.tmp 94) (.tmp 103) 34 24 ?_ _ 2 40 Tryd.underlying34 frm_info ?_ ?_ ?_ H u6 fs.length (frmCells fs vs) ?_ (World.ownsRow.alloc HOWN.out _) w7.heap.size 1 1 [.string (strB nm), .slice q24 (all - 24) c24] ?_ (Blk.new w7 _ _) ?_ ?_ ?_ ?_ ?_
                 · rfl
                 · rfl
                 · rfl
                 · omega
                 · omega
                 · rfl
                 · rfl
                 · rfl
                 · intro u hu; simp only [List.mem_cons, List.not_mem_nil, or_false] at hu; rcases hu with rfl | rfl <;> rfl
                 · have := hfl.out; omega
                 · rw [World.size_alloc]; omega
                 intro l8 w8 hl8 hg8 ho8))
            have hI8 : FeedInv w g B H (.slice q m d) tot l8 w8 (fs ++ [(nm, pl)]) (cur.drop all) (.slice (cut8 p1 d1 all) (n1 - all) (d1 - all)) :=
              FeedInv.step HI7.out hglt HF.out HST.out HRD.out HSF.out (by rw [own_slice, own_slice, own_cut8]) HQ.out hszH6 HQO.out vs HVL.out HOWN.out HVS.out hl8 hg8 ho8
            go_roundw
            case rel => exact ⟨_, _, _, _, _, hI8, by have := hg8.size; rw [World.size_alloc] at this; omega⟩
            case measure => rw [lenAt_blk hI8.rd, lenAt_blk HI.out.rd]; omega
      · have he1 : (er == 0) = false := by simpa using her
        have he2 : (er != 0) = true := by rw [bne, he1]; rfl
        have HF : Hid (frmStep cur = .fault er) := Lib.hid (by
          unfold frmStep
          rw [if_neg (by rw [hcl.out]; omega), HH.out, if_neg her])
        have f0 := HI.out.rd.frozen 0
        have f2 := HI.out.rd.frozen 2
        go_wp2_with fail
        go_quiet (fail)
        go_wp2
        go_ret2
        exact (HI3.out.fault hglt HF.out).drewN _
    · have h24i : ¬ (24 : Int) ≤ (n1 : Int) := by omega
      have HW : Hid (frmStep cur = .wait) := Lib.hid (by unfold frmStep; rw [if_pos (by rw [hcl.out]; omega)])
      go_wp2_with fail
      go_quiet (fail)
      go_wp2
      go_ret2
      exact (HI.out.fut (below_draws _ _)).wait HW.out
end Go.Proofs.YtikjhnbehihbjaaDoor
