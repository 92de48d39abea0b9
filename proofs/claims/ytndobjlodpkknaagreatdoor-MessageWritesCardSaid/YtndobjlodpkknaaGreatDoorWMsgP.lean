/- Messages, plain: their payloads, and what payloads say; there and back.  -/
import Derived.Test.YtndobjlodpkknaaGreatDoorWGK
import Derived.Test.YtndobjlodpkknaaGreatDoorWAppZ
import Derived.Test.YtndobjlodpkknaaGreatDoorWMsgA
namespace Go.Proofs.YtndobjlodpkknaaGreatDoor
open Go Go.RowKit
set_option linter.unusedVariables false
structure TMsg where
  k : Int
  nu : BitVec 32
  no : BitVec 64
  pv : Bs
  st : Bs
  hs : List Bs
  hd : List Hdr
  tx : Bs
  bl : TBlk
def noHash : Bs := List.replicate 32 0#8
def noMsg : TMsg := ⟨0, 0#32, 0#64, noHash, noHash, [], [], [], noBlk⟩
def hshB (a : Bs) (l : List Bs) : Bs := cntB l.length ++ (l.map fun h => a ++ h).flatten
def hdsB (l : List Hdr) : Bs := cntB l.length ++ (l.map fun h => h.bytes ++ [0#8]).flatten
def wantB : Bs := [2#8, 0#8, 0#8, 64#8]
def payP (m : TMsg) : Bs × Int :=
  if m.k = 1 then (le32 m.nu ++ (nulls 68 ++ (low m.no 8 ++ nulls 5)), 0)
  else if m.k = 2 then ([], 0)
  else if m.k = 3 ∨ m.k = 4 then (low m.no 8, 0)
  else if m.k = 5 then (if 101 < m.hs.length then ([], 1) else (le32 m.nu ++ (hshB [] m.hs ++ m.st), 0))
  else if m.k = 6 then (if 100 < m.hd.length then ([], 1) else (hdsB m.hd, 0))
  else if m.k = 7 ∨ m.k = 9 then ([0#8] ++ (le32 m.nu ++ m.st), 0)
  else if m.k = 8 then (if 2000 < m.hs.length then ([], 1) else ([0#8] ++ (m.st ++ (m.pv ++ hshB [] m.hs)), 0))
  else if m.k = 10 then (if 199950 < m.tx.length then ([], 1) else ([0#8] ++ (m.st ++ text m.tx), 0))
  else if m.k = 11 ∨ m.k = 13 then (if 1000 < m.hs.length then ([], 1) else (hshB wantB m.hs, 0))
  else if m.k = 12 then blkP m.bl
  else ([], 1)
def msgP (m : TMsg) : Bs × Bs × Int := if (payP m).2 = 0 then (cmdB m.k, (payP m).1, 0) else ([], [], (payP m).2)
def theseZ (want : Bs) : Pz Unit := fun s => if s.length < want.length then .error 50 else if s.take want.length = want then .ok ((), s.drop want.length) else .error 51
def textM (most : Nat) : Pz Bs := (cntZ most).bind takeZ
def oneZ : Pz Unit := fun s => .ok ((), s.drop 1)
def hshZ (most : Nat) (a : Bs) : Pz (List Bs) := partsZ most ((theseZ a).bind fun _ => takeZ 32)
def hdrT : Pz Hdr := (takeZ 80).bind fun b => (theseZ [0#8]).bind fun _ => Pz.ret (hdrOf b)
def hdsZ : Pz (List Hdr) := partsZ 100 hdrT
def bodyBlk : Pz TBlk := fun s => if (blkDecP s).2 = 0 then .ok ((blkDecP s).1, []) else .error (blkDecP s).2
def fieldsZ (k : Nat) : Pz TMsg :=
  if k = 1 then (numZ 4).bind fun nu => (takeZ 68).bind fun _ => (numZ 8).bind fun no => (textM 256).bind fun _ => (takeZ 4).bind fun _ => oneZ.bind fun _ => Pz.ret { noMsg with k := k, nu := nu.setWidth 32, no := no }
  else if k = 3 ∨ k = 4 then (numZ 8).bind fun no => Pz.ret { noMsg with k := k, no := no }
  else if k = 5 then (numZ 4).bind fun nu => (hshZ 101 []).bind fun hs => (takeZ 32).bind fun st => Pz.ret { noMsg with k := k, nu := nu.setWidth 32, hs := hs, st := st }
  else if k = 6 then hdsZ.bind fun hd => Pz.ret { noMsg with k := k, hd := hd }
  else if k = 7 ∨ k = 9 then (theseZ [0#8]).bind fun _ => (numZ 4).bind fun nu => (takeZ 32).bind fun st => Pz.ret { noMsg with k := k, nu := nu.setWidth 32, st := st }
  else if k = 8 then (theseZ [0#8]).bind fun _ => (takeZ 32).bind fun st => (takeZ 32).bind fun pv => (hshZ 2000 []).bind fun hs => Pz.ret { noMsg with k := k, st := st, pv := pv, hs := hs }
  else if k = 10 then (theseZ [0#8]).bind fun _ => (takeZ 32).bind fun st => (textM 199950).bind fun tx => Pz.ret { noMsg with k := k, st := st, tx := tx }
  else if k = 11 ∨ k = 13 then (hshZ 1000 wantB).bind fun hs => Pz.ret { noMsg with k := k, hs := hs }
  else if k = 12 then bodyBlk.bind fun b => Pz.ret { noMsg with k := k, bl := b }
  else Pz.ret { noMsg with k := k }
def endM (x : Except Int (TMsg × Bs)) : TMsg × Bool × Int := match x with
  | .error e => (noMsg, true, e)
  | .ok (m, r) => if r = [] then (m, true, 0) else (noMsg, true, 70)
def msgDecP (cmd s : Bs) : TMsg × Bool × Int := if kindP cmd = 0 then (noMsg, false, 0) else endM (fieldsZ (kindP cmd) s)
def okMsg (m : TMsg) : Prop := m.pv.length = 32 ∧ m.st.length = 32 ∧ (∀ x ∈ m.hs, x.length = 32) ∧ (∀ x ∈ m.hd, Hdr.ok x) ∧ m.bl.h.ok ∧ ∀ t ∈ m.bl.ts, okTx t
theorem kind_le {m : TMsg} (h : (payP m).2 = 0) : 1 ≤ m.k ∧ m.k ≤ 13 := by
  unfold payP at h
  by_cases hk : 1 ≤ m.k ∧ m.k ≤ 13
  · exact hk
  · repeat rw [if_neg (by omega)] at h
    cases h
theorem fz5 : fieldsZ 5 = (numZ 4).bind fun nu => (hshZ 101 []).bind fun hs => (takeZ 32).bind fun st => Pz.ret { noMsg with k := 5, nu := nu.setWidth 32, hs := hs, st := st } := rfl
theorem fz10 : fieldsZ 10 = (theseZ [0#8]).bind fun _ => (takeZ 32).bind fun st => (textM 199950).bind fun tx => Pz.ret { noMsg with k := 10, st := st, tx := tx } := rfl
end Go.Proofs.YtndobjlodpkknaaGreatDoor
