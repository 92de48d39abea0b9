/- Messages' commands, plain. -/
import Derived.Test.YtjbijcjcejfpcaaGreatDoorZStr
namespace Go.Proofs.YtjbijcjcejfpcaaGreatDoor
set_option linter.unusedVariables false
set_option maxRecDepth 100000
set_option maxHeartbeats 16000000
open Go Go.RowKit
def cmdN:Nat→List (BitVec 8)
 |1=>[118#8,101#8,114#8,115#8,105#8,111#8,110#8]
 |2=>[118#8,101#8,114#8,97#8,99#8,107#8]
 |3=>[112#8,105#8,110#8,103#8]
 |4=>[112#8,111#8,110#8,103#8]
 |5=>[103#8,101#8,116#8,104#8,101#8,97#8,100#8,101#8,114#8,115#8]
 |6=>[104#8,101#8,97#8,100#8,101#8,114#8,115#8]
 |7=>[103#8,101#8,116#8,99#8,102#8,104#8,101#8,97#8,100#8,101#8,114#8,115#8]
 |8=>[99#8,102#8,104#8,101#8,97#8,100#8,101#8,114#8,115#8]
 |9=>[103#8,101#8,116#8,99#8,102#8,105#8,108#8,116#8,101#8,114#8,115#8]
 |10=>[99#8,102#8,105#8,108#8,116#8,101#8,114#8]
 |11=>[103#8,101#8,116#8,100#8,97#8,116#8,97#8]
 |12=>[98#8,108#8,111#8,99#8,107#8]
 |13=>[110#8,111#8,116#8,102#8,111#8,117#8,110#8,100#8]
 |_=>[]
def cmdB (k:Int):List (BitVec 8):=if k<0 then[]else cmdN k.toNat
def kindR (s:List (BitVec 8)):Nat→Nat
 |0=>0
 |k+1=>if s=cmdN (k+1)then k+1 else kindR s k
def kindP (s:List (BitVec 8)):Nat:=kindR s 13
theorem kindR_le (s:List (BitVec 8)):∀n,kindR s n≤n
 |0=>Nat.le_refl _
 |n+1=>by
  have:=kindR_le s n
  unfold kindR
  split<;>omega
theorem kindR_inv (s:List (BitVec 8)):∀n,kindR s n≠0→s=cmdN (kindR s n)
 |0,h=>absurd rfl h
 |n+1,h=>by
  unfold kindR at*
  split
  ·assumption
  ·rename_i h0
   rw[if_neg h0]at h
   exact kindR_inv s n h
theorem kindP_cmd (k:Nat) (h1:1≤k) (h2:k≤13):kindP (cmdN k)=k:=by
 have:k=1∨k=2∨k=3∨k=4∨k=5∨k=6∨k=7∨k=8∨k=9∨k=10∨k=11∨k=12∨k=13:=by omega
 rcases this with rfl|rfl|rfl|rfl|rfl|rfl|rfl|rfl|rfl|rfl|rfl|rfl|rfl<;>decide
theorem kindP_le (s:List (BitVec 8)):kindP s≤13:=kindR_le s 13
theorem kindP_inv {s:List (BitVec 8)} (h:kindP s≠0):s=cmdN (kindP s):=kindR_inv s 13 h
theorem kindP_is {s:List (BitVec 8)} {k:Nat} (h1:1≤k) (h2:k≤13) (h:s=cmdN k):kindP s=k:=by rw[h];exact kindP_cmd k h1 h2
theorem kindP_no {s:List (BitVec 8)} (h:∀k,1≤k→k≤13→s≠cmdN k):kindP s=0:=by
 rcases Nat.eq_zero_or_pos (kindP s)with h0|h0
 ·exact h0
 ·exact absurd (kindP_inv (by omega)) (h _ h0 (kindP_le s))
theorem cmdN_len (k:Nat):(cmdN k).length≤12:=by
 unfold cmdN
 split<;>decide
end Go.Proofs.YtjbijcjcejfpcaaGreatDoor
