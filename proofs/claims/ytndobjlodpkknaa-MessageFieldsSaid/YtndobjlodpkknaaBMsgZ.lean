/- MessageFields: seven messages of fields. -/
import Derived.Test.YtndobjlodpkknaaBMsgB
import Derived.Test.YtndobjlodpkknaaBMsgV
namespace Go.Proofs.Ytndobjlodpkknaa
open Go Go.RowKit
set_option linter.unusedVariables false

def fm1 (nu : BitVec 32) (no : BitVec 64) : TMsg := { noMsg with k := 1, nu := nu, no := no }
def fm2 (no : BitVec 64) : TMsg := { noMsg with k := 3, no := no }
def fm3 (nu : BitVec 32) (st : Bs) (hs : List Bs) : TMsg := { noMsg with k := 5, nu := nu, hs := hs, st := st }
def fm4 (st : Bs) (hs : List Bs) : TMsg := { noMsg with k := 8, st := st, pv := st, hs := hs }
def fm5 (st tx : Bs) : TMsg := { noMsg with k := 10, st := st, tx := tx }
def fm6 (hs : List Bs) : TMsg := { noMsg with k := 11, hs := hs }
def fm7 (nu : BitVec 32) (st : Bs) : TMsg := { noMsg with k := 9, nu := nu, st := st }
def fms (nu : BitVec 32) (no : BitVec 64) (st : Bs) (hs : List Bs) (tx : Bs) : List TMsg := [fm1 nu no, fm2 no, fm3 nu st hs, fm4 st hs, fm5 st tx, fm6 hs, fm7 nu st]
/-- their cells -/
def fcs (nu : BitVec 32) (no : BitVec 64) (st : Bs) (hv bv : Value) : List (List Value) :=
  [msgCells (.int .i64 1) (u32 nu) (u64 no) noHash noHash (.slice none 0 0) (.slice none 0 0) (.slice none 0 0) ZBlk,
   msgCells (.int .i64 3) (u32 0#32) (u64 no) noHash noHash (.slice none 0 0) (.slice none 0 0) (.slice none 0 0) ZBlk,
   msgCells (.int .i64 5) (u32 nu) (u64 0#64) noHash st hv (.slice none 0 0) (.slice none 0 0) ZBlk,
   msgCells (.int .i64 8) (u32 0#32) (u64 0#64) st st hv (.slice none 0 0) (.slice none 0 0) ZBlk,
   msgCells (.int .i64 10) (u32 0#32) (u64 0#64) noHash st (.slice none 0 0) (.slice none 0 0) bv ZBlk,
   msgCells (.int .i64 11) (u32 0#32) (u64 0#64) noHash noHash hv (.slice none 0 0) (.slice none 0 0) ZBlk,
   msgCells (.int .i64 9) (u32 nu) (u64 0#64) noHash st (.slice none 0 0) (.slice none 0 0) (.slice none 0 0) ZBlk]
theorem fms_good (nu : BitVec 32) (no : BitVec 64) (st : Bs) (hs : List Bs) (tx : Bs) (h1 : hs.length ≤ 100) (h2 : tx.length ≤ 300) : ∀ m ∈ fms nu no st hs tx, (payP m).2 = 0 ∧ normP m = m := by
  intro m hm
  unfold fms at hm
  simp only [List.mem_cons, List.not_mem_nil, or_false] at hm
  rcases hm with rfl | rfl | rfl | rfl | rfl | rfl | rfl
  · exact ⟨rfl, rfl⟩
  · exact ⟨rfl, rfl⟩
  · exact ⟨by rw [show payP (fm3 nu st hs) = (le32 nu ++ (hshB [] hs ++ st), 0) from if_neg (show ¬ 101 < hs.length by omega)], rfl⟩
  · exact ⟨by rw [show payP (fm4 st hs) = ([0#8] ++ (st ++ (st ++ hshB [] hs)), 0) from if_neg (show ¬ 2000 < hs.length by omega)], rfl⟩
  · exact ⟨by rw [show payP (fm5 st tx) = ([0#8] ++ (st ++ text tx), 0) from if_neg (show ¬ 199950 < tx.length by omega)], rfl⟩
  · exact ⟨by rw [show payP (fm6 hs) = (hshB wantB hs, 0) from if_neg (show ¬ 1000 < hs.length by omega)], rfl⟩
  · exact ⟨rfl, rfl⟩
theorem zblkC (w : World) : BlkC w noBlk ZBlk := ⟨.slice none 0 0, rfl, noHdr_ok, (RowO.nil (TxO 0) 78 4 0 w).e (fun _ _ h => h.c)⟩
theorem fcs_c {w : World} {nu : BitVec 32} {no : BitVec 64} {st : Bs} {hs : List Bs} {tx : Bs} {hv bv : Value} (hst : st.length = 32) (hh : ESl HashE 32 w hv hs) (hb : Sl w bv tx) (i : Nat) (m : TMsg) (hm : (fms nu no st hs tx)[i]? = some m) : ∃ cs, (fcs nu no st hv bv)[i]? = some cs ∧ MsgC w m cs ∧ cs.length = 139 := by
  have n1 : ESl HashE 32 w (.slice none 0 0) [] := (RowO.nil HashE 29 32 0 w).e (fun _ _ h => h)
  have n2 : ESl HdrE 68 w (.slice none 0 0) [] := (RowO.nil HdrE 33 68 0 w).e (fun _ _ h => h)
  have n3 : Sl w (.slice none 0 0) [] := (Own8.nil w 0).sl
  have n4 := zblkC w
  have key : ∀ (m : TMsg) (cs : List Value), MsgC w m cs → ∃ cs', some cs = some cs' ∧ MsgC w m cs' ∧ cs'.length = 139 := fun m cs h => ⟨cs, rfl, h, h.len⟩
  match i, hm with
  | 0, hm => injection hm with hm; subst hm; exact key _ _ ⟨_, _, _, _, rfl, noHash_len, noHash_len, n1, n2, n3, n4⟩
  | 1, hm => injection hm with hm; subst hm; exact key _ _ ⟨_, _, _, _, rfl, noHash_len, noHash_len, n1, n2, n3, n4⟩
  | 2, hm => injection hm with hm; subst hm; exact key _ _ ⟨_, _, _, _, rfl, noHash_len, hst, hh, n2, n3, n4⟩
  | 3, hm => injection hm with hm; subst hm; exact key _ _ ⟨_, _, _, _, rfl, hst, hst, hh, n2, n3, n4⟩
  | 4, hm => injection hm with hm; subst hm; exact key _ _ ⟨_, _, _, _, rfl, noHash_len, hst, n1, n2, hb, n4⟩
  | 5, hm => injection hm with hm; subst hm; exact key _ _ ⟨_, _, _, _, rfl, noHash_len, noHash_len, hh, n2, n3, n4⟩
  | 6, hm => injection hm with hm; subst hm; exact key _ _ ⟨_, _, _, _, rfl, noHash_len, hst, n1, n2, n3, n4⟩
  | n + 7, hm => cases hm
section
variable (nu : BitVec 32) (no : BitVec 64) (p q : Option Addr) (n c m d : Nat)
theorem built_f1 : Try.prog.built 38 [(0, .int .i64 1), (1, u32 nu), (2, u64 no)] = some (msgCells (.int .i64 1) (u32 nu) (u64 no) noHash noHash (.slice none 0 0) (.slice none 0 0) (.slice none 0 0) ZBlk).toArray := by kernel_rfl
theorem built_f2 : Try.prog.built 38 [(0, .int .i64 3), (2, u64 no)] = some (msgCells (.int .i64 3) (u32 0#32) (u64 no) noHash noHash (.slice none 0 0) (.slice none 0 0) (.slice none 0 0) ZBlk).toArray := by kernel_rfl
theorem built_f6 : Try.prog.built 38 [(0, .int .i64 11), (5, .slice p n c)] = some (msgCells (.int .i64 11) (u32 0#32) (u64 0#64) noHash noHash (.slice p n c) (.slice none 0 0) (.slice none 0 0) ZBlk).toArray := by kernel_rfl
variable {st : Bs} (hst : st.length = 32)
include hst
theorem built_f3 : Try.prog.built 38 [(0, .int .i64 5), (1, u32 nu), (5, .slice p n c), (4, .agg (hCells st).toArray)] = some (msgCells (.int .i64 5) (u32 nu) (u64 0#64) noHash st (.slice p n c) (.slice none 0 0) (.slice none 0 0) ZBlk).toArray := by
  obtain ⟨x, rfl⟩ := of_fn st 32 hst
  kernel_rfl
theorem built_f4 : Try.prog.built 38 [(0, .int .i64 8), (4, .agg (hCells st).toArray), (3, .agg (hCells st).toArray), (5, .slice p n c)] = some (msgCells (.int .i64 8) (u32 0#32) (u64 0#64) st st (.slice p n c) (.slice none 0 0) (.slice none 0 0) ZBlk).toArray := by
  obtain ⟨x, rfl⟩ := of_fn st 32 hst
  kernel_rfl
theorem built_f5 : Try.prog.built 38 [(0, .int .i64 10), (4, .agg (hCells st).toArray), (7, .slice q m d)] = some (msgCells (.int .i64 10) (u32 0#32) (u64 0#64) noHash st (.slice none 0 0) (.slice none 0 0) (.slice q m d) ZBlk).toArray := by
  obtain ⟨x, rfl⟩ := of_fn st 32 hst
  kernel_rfl
theorem built_f7 : Try.prog.built 38 [(0, .int .i64 9), (1, u32 nu), (4, .agg (hCells st).toArray)] = some (msgCells (.int .i64 9) (u32 nu) (u64 0#64) noHash st (.slice none 0 0) (.slice none 0 0) (.slice none 0 0) ZBlk).toArray := by
  obtain ⟨x, rfl⟩ := of_fn st 32 hst
  kernel_rfl
end
theorem msg_infoM : (Try.prog.info? 38).map (fun i => (i.zero, i.size)) = some (some (.agg (msgZ 0).toArray), 139) := by kernel_rfl
end Go.Proofs.Ytndobjlodpkknaa
