/- message.reader: a version's fields, headers, sums, a block: the walks.  -/
import Derived.Test.YtndobjlodpkknaaGreatDoorWMsgF
import Derived.Test.YtndobjlodpkknaaGreatDoorWGK
import Derived.Test.YtndobjlodpkknaaGreatDoorWGH
import Derived.Test.YtndobjlodpkknaaGreatDoorWGA
namespace Go.Proofs.YtndobjlodpkknaaGreatDoor
open Go Go.RowKit
set_option linter.unusedVariables false
structure VSt (T D B g z : Nat) (w W : World) (er : Int) (s : Bs) (cs : List Value) : Prop where
  ty : T ≠ 35
  rd : MRd T D B g W er s
  ms : Blk W z 35 cs.toArray
  st : Stays (fun k => k = g ∨ k = z) w W
theorem VSt.ne {T D B g z : Nat} {w W : World} {er : Int} {s : Bs} {cs : List Value} (h : VSt T D B g z w W er s cs) : z ≠ g := by
  obtain ⟨hT, ⟨_, hg, _⟩, ms, _⟩ := h
  exact fun e => by rw [e] at ms; exact hT (hg.inj ms).1
theorem VSt.call {T D B g z : Nat} {w W W' : World} {er er' : Int} {s r : Bs} {cs : List Value} (h : VSt T D B g z w W er s cs) (hr : MRd T D B g W' er' r) (hs : Stays (· = g) W W') : VSt T D B g z w W' er' r cs :=
  ⟨h.ty, hr, h.ms.stays hs h.ne, h.st.trans hs fun k _ h => .inl h⟩
theorem VSt.fut {T D B g z : Nat} {w W W' : World} {er : Int} {s : Bs} {cs : List Value} (h : VSt T D B g z w W er s cs) (hb : Below W.heap.size W W') : VSt T D B g z w W' er s cs := h.call (h.rd.fut hb) (Stays.of_below hb (Nat.le_refl _) _)
theorem VSt.put {T D B g z : Nat} {w W W' : World} {er : Int} {s : Bs} {cs cs' : List Value} (h : VSt T D B g z w W er s cs) (hD : D ≤ z) (hm : Blk W' z 35 cs'.toArray) (hs : Stays (· = z) W W') : VSt T D B g z w W' er s cs' :=
  ⟨h.ty, h.rd.stays hs (fun k hk => .inr ⟨(show k = z from hk) ▸ hD, _, _, (show k = z from hk) ▸ h.ms, by decide⟩) (fun e => h.ne e.symm), hm, h.st.trans hs fun k _ h => .inr h⟩
theorem ZBlk_len : ZBlk.length = 69 := rfl
theorem BlkO.mono {B B' : Nat} {w : World} {b : TBlk} {cs : List Value} (h : BlkO B w b cs) (hB : B' ≤ B) : BlkO B' w b cs := by obtain ⟨v, h1, h2, h3⟩ := h; exact ⟨v, h1, h2, h3.mono (fun _ _ h => h.mono hB) hB⟩
def hdMsg (dv : Value) : List Value := msgCells (.int .i64 6) (u32 0#32) (u64 0#64) noHash noHash (.slice none 0 0) dv (.slice none 0 0) ZBlk
structure HdI (g z b2 b3 : Nat) (w W : World) (xs : List Hdr) (p : Option Addr) (n c : Nat) : Prop where
  x2 : Blk W b2 80 #[.pointer (some ⟨g, 0, none⟩)]
  x3 : Blk W b3 86 #[.pointer (some ⟨z, 0, none⟩)]
  ms : Blk W z 35 (hdMsg (.slice p n c)).toArray
  ro : RowO HdrE 30 68 w.heap.size W (.slice p n c) xs
  st : Stays (fun k => k = g ∨ k = z) w W
theorem HdI.stays {g z b2 b3 n c : Nat} {w W W' : World} {xs : List Hdr} {p : Option Addr} (h : HdI g z b2 b3 w W xs p n c) (hn : b2 ≠ g ∧ b3 ≠ g ∧ z ≠ g) (hg : g < w.heap.size) (hs : Stays (· = g) W W') : HdI g z b2 b3 w W' xs p n c := by
  obtain ⟨x2, x3, m1, m2, st⟩ := h
  exact ⟨x2.stays hs hn.1, x3.stays hs hn.2.1, m1.stays hs hn.2.2, m2.sep (hdrE_keeps _) hs (Sep.low fun k hk => by have : k = g := hk; omega), st.trans hs fun k _ h => .inl h⟩
theorem HdI.fut {g z b2 b3 n c : Nat} {w W W' : World} {xs : List Hdr} {p : Option Addr} (h : HdI g z b2 b3 w W xs p n c) (hb : Below W.heap.size W W') : HdI g z b2 b3 w W' xs p n c := by
  obtain ⟨x2, x3, m1, m2, st⟩ := h
  have hs : Stays (fun _ => False) W W' := Stays.of_below hb (Nat.le_refl _) _
  exact ⟨x2.fut hb, x3.fut hb, m1.fut hb, m2.sep (hdrE_keeps _) hs (fun _ h => h.elim), st.trans hs fun _ _ h => h.elim⟩
theorem HdI.ne {D B g z b2 b3 n c : Nat} {w W : World} {xs : List Hdr} {p : Option Addr} {er : Int} {s : Bs} (h : HdI g z b2 b3 w W xs p n c) (hr : MRd 84 D B g W er s) : b2 ≠ g ∧ b3 ≠ g ∧ z ≠ g := by
  obtain ⟨_, hg, _⟩ := hr
  obtain ⟨x2, x3, ms, _, _⟩ := h
  refine ⟨fun e => ?_, fun e => ?_, fun e => ?_⟩
  · rw [e] at x2; exact absurd (x2.inj hg).1 (by decide)
  · rw [e] at x3; exact absurd (x3.inj hg).1 (by decide)
  · rw [e] at ms; exact absurd (ms.inj hg).1 (by decide)
end Go.Proofs.YtndobjlodpkknaaGreatDoor
