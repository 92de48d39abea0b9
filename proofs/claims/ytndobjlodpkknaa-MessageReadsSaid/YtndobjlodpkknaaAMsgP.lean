/- Messages, plain: their payloads, and what payloads say; there and back.  -/
import Derived.Test.YtndobjlodpkknaaAGK
import Derived.Test.YtndobjlodpkknaaAAppZ
import Derived.Test.YtndobjlodpkknaaAMsgA
namespace Go.Proofs.Ytndobjlodpkknaa
open Go Go.RowKit
set_option linter.unusedVariables false
structure TMsg where
  k : Int
  nu : BitVec 32
  no : BitVec 64
  pv : Bs
  st : Bs
  hs : List Bs
  hd : List Hdr
  tx : Bs
  bl : TBlk
def noHash : Bs := List.replicate 32 0#8
def noMsg : TMsg := ⟨0, 0#32, 0#64, noHash, noHash, [], [], [], noBlk⟩
def wantB : Bs := [2#8, 0#8, 0#8, 64#8]
def theseZ (want : Bs) : Pz Unit := fun s => if s.length < want.length then .error 50 else if s.take want.length = want then .ok ((), s.drop want.length) else .error 51
def textM (most : Nat) : Pz Bs := (cntZ most).bind takeZ
def oneZ : Pz Unit := fun s => .ok ((), s.drop 1)
def hshZ (most : Nat) (a : Bs) : Pz (List Bs) := partsZ most ((theseZ a).bind fun _ => takeZ 32)
def hdrT : Pz Hdr := (takeZ 80).bind fun b => (theseZ [0#8]).bind fun _ => Pz.ret (hdrOf b)
def hdsZ : Pz (List Hdr) := partsZ 100 hdrT
def bodyBlk : Pz TBlk := fun s => if (blkDecP s).2 = 0 then .ok ((blkDecP s).1, []) else .error (blkDecP s).2
def fieldsZ (k : Nat) : Pz TMsg :=
  if k = 1 then (numZ 4).bind fun nu => (takeZ 68).bind fun _ => (numZ 8).bind fun no => (textM 256).bind fun _ => (takeZ 4).bind fun _ => oneZ.bind fun _ => Pz.ret { noMsg with k := k, nu := nu.setWidth 32, no := no }
  else if k = 3 ∨ k = 4 then (numZ 8).bind fun no => Pz.ret { noMsg with k := k, no := no }
  else if k = 5 then (numZ 4).bind fun nu => (hshZ 101 []).bind fun hs => (takeZ 32).bind fun st => Pz.ret { noMsg with k := k, nu := nu.setWidth 32, hs := hs, st := st }
  else if k = 6 then hdsZ.bind fun hd => Pz.ret { noMsg with k := k, hd := hd }
  else if k = 7 ∨ k = 9 then (theseZ [0#8]).bind fun _ => (numZ 4).bind fun nu => (takeZ 32).bind fun st => Pz.ret { noMsg with k := k, nu := nu.setWidth 32, st := st }
  else if k = 8 then (theseZ [0#8]).bind fun _ => (takeZ 32).bind fun st => (takeZ 32).bind fun pv => (hshZ 2000 []).bind fun hs => Pz.ret { noMsg with k := k, st := st, pv := pv, hs := hs }
  else if k = 10 then (theseZ [0#8]).bind fun _ => (takeZ 32).bind fun st => (textM 199950).bind fun tx => Pz.ret { noMsg with k := k, st := st, tx := tx }
  else if k = 11 ∨ k = 13 then (hshZ 1000 wantB).bind fun hs => Pz.ret { noMsg with k := k, hs := hs }
  else if k = 12 then bodyBlk.bind fun b => Pz.ret { noMsg with k := k, bl := b }
  else Pz.ret { noMsg with k := k }
def endM (x : Except Int (TMsg × Bs)) : TMsg × Bool × Int := match x with
  | .error e => (noMsg, true, e)
  | .ok (m, r) => if r = [] then (m, true, 0) else (noMsg, true, 70)
def msgDecP (cmd s : Bs) : TMsg × Bool × Int := if kindP cmd = 0 then (noMsg, false, 0) else endM (fieldsZ (kindP cmd) s)
theorem fz5 : fieldsZ 5 = (numZ 4).bind fun nu => (hshZ 101 []).bind fun hs => (takeZ 32).bind fun st => Pz.ret { noMsg with k := 5, nu := nu.setWidth 32, hs := hs, st := st } := rfl
theorem fz6 : fieldsZ 6 = hdsZ.bind fun hd => Pz.ret { noMsg with k := 6, hd := hd } := rfl
theorem fz7 : fieldsZ 7 = (theseZ [0#8]).bind fun _ => (numZ 4).bind fun nu => (takeZ 32).bind fun st => Pz.ret { noMsg with k := 7, nu := nu.setWidth 32, st := st } := rfl
theorem fz8 : fieldsZ 8 = (theseZ [0#8]).bind fun _ => (takeZ 32).bind fun st => (takeZ 32).bind fun pv => (hshZ 2000 []).bind fun hs => Pz.ret { noMsg with k := 8, st := st, pv := pv, hs := hs } := rfl
theorem fz9 : fieldsZ 9 = (theseZ [0#8]).bind fun _ => (numZ 4).bind fun nu => (takeZ 32).bind fun st => Pz.ret { noMsg with k := 9, nu := nu.setWidth 32, st := st } := rfl
theorem fz10 : fieldsZ 10 = (theseZ [0#8]).bind fun _ => (takeZ 32).bind fun st => (textM 199950).bind fun tx => Pz.ret { noMsg with k := 10, st := st, tx := tx } := rfl
theorem fz11 : fieldsZ 11 = (hshZ 1000 wantB).bind fun hs => Pz.ret { noMsg with k := 11, hs := hs } := rfl
theorem fz12 : fieldsZ 12 = bodyBlk.bind fun b => Pz.ret { noMsg with k := 12, bl := b } := rfl
theorem fz13 : fieldsZ 13 = (hshZ 1000 wantB).bind fun hs => Pz.ret { noMsg with k := 13, hs := hs } := rfl
end Go.Proofs.Ytndobjlodpkknaa
