/- message.Encode, by kinds: the walks.  -/
import Derived.Test.YtndobjlodpkknaaGreatDoorWMsgT
import Derived.Test.YtndobjlodpkknaaGreatDoorWMsgD
import Derived.Test.YtndobjlodpkknaaGreatDoorWGK
import Derived.Test.YtndobjlodpkknaaGreatDoorWGZ
import Derived.Test.YtndobjlodpkknaaGreatDoorWGB
import Derived.Test.YtndobjlodpkknaaGreatDoorWTreeT
namespace Go.Proofs.YtndobjlodpkknaaGreatDoor
open Go Go.RowKit
set_option linter.unusedVariables false
def YFrm : List Value := [.string ⟨#[]⟩, .slice none 0 0]
theorem yFrm : ∀ w, (zeroValue 37).run Tryz.prog w = .ok (.agg YFrm.toArray) w := zero_ofM (by kernel_rfl)
theorem zWriter : ∀ w, (zeroValue 48).run Tryz.prog w = .ok (.agg #[.slice none 0 0]) w := zero_ofM (by kernel_rfl)
theorem built_frm1 (s : ByteArray) : Tryz.prog.built 37 [(0, .string s)] = some #[.string s, .slice none 0 0] := by kernel_rfl
theorem Own8.mono' {w : World} {B B' : Nat} {v : Value} {ys : Bs} (h : Own8 w B v ys) (hB : B' ≤ B) : Own8 w B' v ys := ownsRow_mono h hB
def MsgEnc (w : World) (x : Bs × Bs × Int) (e : Ending) (w' : World) : Prop := ∃ v, e = .returned (.tuple #[.agg #[.string (strB x.1), v], .int .i64 x.2.2]) ∧ Own8 w' w.heap.size v x.2.1 ∧ Below w.heap.size w w'
theorem strB_full {c : Bs} (h : c ≠ []) : (strB c).toList.isEmpty = false := by
  have e : ((strB c).toList == (strB []).toList) = false := by rw [strB_eq]; exact decide_eq_false h
  have e2 : (strB []).toList = [] := by unfold strB; rw [Lib.strOfNums_toList]; rfl
  rw [e2] at e
  cases hl : (strB c).toList with
  | nil => rw [hl] at e; cases e
  | cons a b => rfl
theorem msgP_ok (m : TMsg) (h : (payP m).2 = 0) : msgP m = (cmdB m.k, (payP m).1, 0) := by unfold msgP; rw [if_pos h]
theorem pay_good (m : TMsg) (hk : 1 ≤ m.k ∧ m.k ≤ 11 ∨ m.k = 13) (ht : tooB m = false) : (payP m).2 = 0 := by
  unfold tooB mostP at ht
  simp only [Bool.or_eq_false_iff, Bool.and_eq_false_iff, decide_eq_false_iff_not] at ht
  obtain ⟨h1, h2, h3⟩ := ht
  unfold payP
  repeat' split
  all_goals (first | rfl | (exfalso; simp_all <;> omega))
theorem lim_hs (m : TMsg) (ht : tooB m = false) : m.hs.length ≤ mostP m := by
  unfold tooB at ht
  simp only [Bool.or_eq_false_iff, decide_eq_false_iff_not] at ht
  omega
theorem lim_hd (m : TMsg) (hk : m.k = 6) (ht : tooB m = false) : m.hd.length ≤ 100 := by
  unfold tooB at ht
  rw [hk] at ht
  simp at ht
  omega
theorem lim_tx (m : TMsg) (hk : m.k = 10) (ht : tooB m = false) : m.tx.length ≤ 199950 := by
  unfold tooB at ht
  rw [hk] at ht
  simp at ht
  omega
section
variable {nu : BitVec 32} {no : BitVec 64} {pv st : Bs} {hs : List Bs} {hd : List Hdr} {tx : Bs} {bl : TBlk}
theorem pay_k5 (ht : tooB ⟨5, nu, no, pv, st, hs, hd, tx, bl⟩ = false) : payP ⟨5, nu, no, pv, st, hs, hd, tx, bl⟩ = (le32 nu ++ (hshB [] hs ++ st), 0) := by
  have h : hs.length ≤ 101 := lim_hs _ ht
  have e : payP ⟨5, nu, no, pv, st, hs, hd, tx, bl⟩ = if 101 < hs.length then ([], 1) else (le32 nu ++ (hshB [] hs ++ st), 0) := rfl
  rw [e, if_neg (by omega)]
theorem pay_k6 (ht : tooB ⟨6, nu, no, pv, st, hs, hd, tx, bl⟩ = false) : payP ⟨6, nu, no, pv, st, hs, hd, tx, bl⟩ = (hdsB hd, 0) := by
  have h : hd.length ≤ 100 := lim_hd _ rfl ht
  have e : payP ⟨6, nu, no, pv, st, hs, hd, tx, bl⟩ = if 100 < hd.length then ([], 1) else (hdsB hd, 0) := rfl
  rw [e, if_neg (by omega)]
theorem pay_k8 (ht : tooB ⟨8, nu, no, pv, st, hs, hd, tx, bl⟩ = false) : payP ⟨8, nu, no, pv, st, hs, hd, tx, bl⟩ = ([0#8] ++ (st ++ (pv ++ hshB [] hs)), 0) := by
  have h : hs.length ≤ 2000 := lim_hs _ ht
  have e : payP ⟨8, nu, no, pv, st, hs, hd, tx, bl⟩ = if 2000 < hs.length then ([], 1) else ([0#8] ++ (st ++ (pv ++ hshB [] hs)), 0) := rfl
  rw [e, if_neg (by omega)]
theorem pay_k10 (ht : tooB ⟨10, nu, no, pv, st, hs, hd, tx, bl⟩ = false) : payP ⟨10, nu, no, pv, st, hs, hd, tx, bl⟩ = ([0#8] ++ (st ++ text tx), 0) := by
  have h : tx.length ≤ 199950 := lim_tx _ rfl ht
  have e : payP ⟨10, nu, no, pv, st, hs, hd, tx, bl⟩ = if 199950 < tx.length then ([], 1) else ([0#8] ++ (st ++ text tx), 0) := rfl
  rw [e, if_neg (by omega)]
theorem pay_k11 (ht : tooB ⟨11, nu, no, pv, st, hs, hd, tx, bl⟩ = false) : payP ⟨11, nu, no, pv, st, hs, hd, tx, bl⟩ = (hshB wantB hs, 0) := by
  have h : hs.length ≤ 1000 := lim_hs _ ht
  have e : payP ⟨11, nu, no, pv, st, hs, hd, tx, bl⟩ = if 1000 < hs.length then ([], 1) else (hshB wantB hs, 0) := rfl
  rw [e, if_neg (by omega)]
theorem pay_k13 (ht : tooB ⟨13, nu, no, pv, st, hs, hd, tx, bl⟩ = false) : payP ⟨13, nu, no, pv, st, hs, hd, tx, bl⟩ = (hshB wantB hs, 0) := by
  have h : hs.length ≤ 1000 := lim_hs _ ht
  have e : payP ⟨13, nu, no, pv, st, hs, hd, tx, bl⟩ = if 1000 < hs.length then ([], 1) else (hshB wantB hs, 0) := rfl
  rw [e, if_neg (by omega)]
end
theorem hshB_le {a : Bs} {l : List Bs} (h32 : ∀ x ∈ l, x.length = 32) (ha : a.length ≤ 4) : (hshB a l).length ≤ 9 + l.length * 36 := by
  unfold hshB
  have h1 := cntB_len l.length
  have h2 := flat_le (fun h => a ++ h) 36 l fun x hx => by have := h32 x hx; rw [List.length_append]; omega
  rw [List.length_append]
  omega
theorem Ahead.nil (g : Nat) (w : World) (v : Value) : Ahead g w none [] v := ⟨Row8.nil _ _, fun h => absurd rfl h⟩
theorem hash_row {w : World} {g o : Nat} {x : Bs} (h : w.rangeAt g o (hCells x)) (hg : g < w.heap.size) : Row8 w (some ⟨g, o, none⟩) x := fun _ =>
  ⟨g, o, rfl, hg, fun i b hb => h i (u8 b) (by unfold hCells; rw [List.getElem?_map, hb]; rfl)⟩
theorem ahead_new {g : Nat} {W : World} {v : Value} {ys bs : Bs} (ho : Own8 W (g + 1) v ys) (hg : g < W.heap.size) : Ahead g (W.alloc (.cells (bs.map u8).toArray 5)) (some ⟨W.heap.size, 0, none⟩) bs v :=
  ⟨hCells_row (Blk.new W 5 _), fun _ x hx => by
    injection hx with hx
    subst hx
    exact ⟨fun e => by have := (World.ownsRow.lt ho _ e).2; simp only at this; omega, by rw [World.size_alloc]; exact Nat.lt_succ_self _, by simp only; omega⟩⟩
theorem ahead_call {g : Nat} {W W' : World} {v : Value} {ys bs : Bs} {b : Nat} (ho : Own8 W (g + 1) v ys) (hg : g < W.heap.size) (hr : Row8 W' (some ⟨b, 0, none⟩) bs) (hb : W.heap.size ≤ b) (hlt : b < W'.heap.size) : Ahead g W' (some ⟨b, 0, none⟩) bs v :=
  ⟨hr, fun _ x hx => by
    injection hx with hx
    subst hx
    exact ⟨fun e => by have := (World.ownsRow.lt ho _ e).2; simp only at this; omega, hlt, by simp only; omega⟩⟩
theorem ahead_own {g : Nat} {W W' : World} {v : Value} {ys bs : Bs} {p : Option Addr} {n c : Nat} (ho : Own8 W (g + 1) v ys) (hg : g < W.heap.size) (h2 : Own8 W' W.heap.size (.slice p n c) bs) : Ahead g W' p bs v := by
  refine ⟨(AheadB.own h2).1, fun h0 x hx => ?_⟩
  rcases h2.2 with ⟨e, h1⟩ | ⟨q, cap, cur, e, hq, hh, _⟩
  · exact absurd (List.eq_nil_of_length_eq_zero h1) h0
  · injection e with e1
    rw [hx] at e1
    injection e1 with e1
    subst e1
    have hlt := (show Blk W' q 5 cur from hh).lt
    exact ⟨fun e => by have := (World.ownsRow.lt ho _ e).2; simp only at this; omega, hlt, by simp only; omega⟩
theorem msgP_12 (nu : BitVec 32) (no : BitVec 64) (pv st : Bs) (hs : List Bs) (hd : List Hdr) (tx : Bs) (bl : TBlk) : msgP ⟨12, nu, no, pv, st, hs, hd, tx, bl⟩ = if (blkP bl).2 = 0 then (cmdN 12, (blkP bl).1, 0) else ([], [], (blkP bl).2) := rfl
theorem built_frm0 : Tryz.prog.built 37 [] = some YFrm.toArray := by kernel_rfl
set_option maxRecDepth 100000 in
set_option maxHeartbeats 8000000 in
theorem enc_k1 (nu : BitVec 32) (no : BitVec 64) (pv st : Bs) (hs : List Bs) (hd : List Hdr) (tx : Bs) (bl : TBlk) (cs : List Value) (w : World) (hc : MsgC w ⟨1, nu, no, pv, st, hs, hd, tx, bl⟩ cs) (ht : tooB ⟨1, nu, no, pv, st, hs, hd, tx, bl⟩ = false) :
    Calls Tryz.prog 4 #[.agg cs.toArray] w (MsgEnc w (msgP ⟨1, nu, no, pv, st, hs, hd, tx, bl⟩)) := by
  have hk0 : cmdB (1) = cmdN 1 := rfl
  obtain ⟨cmd, hcmd⟩ : ∃ c, c = cmdN 1 := ⟨_, rfl⟩
  have HCM : Hid (cmd ≠ []) := Lib.hid (by rw [hcmd]; decide)
  have HMP : Hid (msgP ⟨1, nu, no, pv, st, hs, hd, tx, bl⟩ = (cmd, (payP ⟨1, nu, no, pv, st, hs, hd, tx, bl⟩).1, 0)) := Lib.hid (by rw [hcmd]; exact msgP_ok _ (pay_good _ (show (1 : Int) ≤ 1 ∧ (1 : Int) ≤ 11 ∨ (1 : Int) = 13 by omega) ht))
  have HMP : Hid (msgP ⟨1, nu, no, pv, st, hs, hd, tx, bl⟩ = (cmd, low (nu.setWidth 64) 4 ++ (nulls 68 ++ (low no 8 ++ low 0#64 5)), 0)) := HMP
  have HC := Lib.hid hc
  have htoo := fun W (h : MsgC W ⟨1, nu, no, pv, st, hs, hd, tx, bl⟩ cs) => too_any _ cs W h
  rw [ht] at htoo
  have hcc := fun W => command_any (1) W
  rw [hk0, ← hcmd] at hcc
  obtain ⟨hv, dv, bv, bc, hcs, hpv, hst, hh, hdd, hb, hbl⟩ := hc
  obtain ⟨p1, n1, c1, rfl⟩ := hh.opens
  obtain ⟨p2, n2, c2, rfl⟩ := hdd.opens
  obtain ⟨p3, n3, c3, rfl⟩ := hb.opens
  obtain ⟨zm, hzm⟩ : ∃ z, z = w.heap.size := ⟨_, rfl⟩
  obtain ⟨W1, hW1⟩ : ∃ W, W = w.alloc (.cells cs.toArray 35) := ⟨_, rfl⟩
  obtain ⟨W2, hW2⟩ : ∃ W, W = W1.alloc (.cells YFrm.toArray 37) := ⟨_, rfl⟩
  have z1 : W1.heap.size = zm + 1 := by rw [hW1, World.size_alloc, hzm]
  have k1 : Below w.heap.size w W1 := by rw [hW1]; exact below_new w _
  have k2 : Below W1.heap.size W1 W2 := by rw [hW2]; exact below_new W1 _
  have k02 := below_fut k1 k2 (Nat.le_refl _)
  obtain ⟨z2, hz2⟩ : ∃ z, z = zm + 1 := ⟨_, rfl⟩
  have B1 : Blk W2 zm 35 cs.toArray := (show Blk W1 zm _ _ by rw [hW1, hzm]; exact Blk.new w _ _).fut k2
  have B2 : Blk W2 z2 37 YFrm.toArray := by rw [hW2, hz2, ← z1]; exact Blk.new W1 _ _
  rw [hcs] at B1
  have HPV := Lib.hid hpv
  have HL0 : Hid (([] : Bs).length ≤ 0) := Lib.hid (Nat.le_refl 0)
  have HN1 : Hid (n1 = hs.length) := Lib.hid hh.slen.1.symm
  have HN3 := Lib.hid hb.slen.1
  have HEH := Lib.hid hh
  have HN2 : Hid (hd.length = n2) := Lib.hid hdd.slen.1
  have HDH := Lib.hid hdd
  have HOKS : Hid (∀ x ∈ hd, Hdr.ok x) := Lib.hid HC.out.okMsg.2.2.2.1
  have HTX0 : Hid (tx.length = n3 ∧ Row8 w p3 tx) := Lib.hid (by obtain ⟨p', n', c', e, h1, _, _, h4, _⟩ := hb; injection e with e1 e2 _; rw [e1, e2]; exact ⟨h1, h4⟩)
  have HST := Lib.hid hst
  have a0 := (B1.msg hpv hst).c0
  have HB1 := Lib.hid B1
  have HB2 := Lib.hid B2
  have HK02 := Lib.hid k02
  have HCS := Lib.hid hcs
  have HZZ : Hid (zm = w.heap.size ∧ z2 = zm + 1) := Lib.hid ⟨hzm, hz2⟩
  have hzf := yFrm
  have hbt := fun s => built_frm1 s
  have hzw := zWriter
  clear k1 k2 k02 z1 B1 B2 hcs hpv hst hh hdd hb hbl hcmd hk0 ht
  go_enter Tryz.func4, Tryz.ntmps4
  go_upto_region 1 with fail
  rw [← hW1, ← hW2, ← hzm, ← hz2]
  clear hW1 hW2 hzm hz2
  go_wp2_with fail
  refine (hcc W2).mono ?_
  rintro e w3 ⟨rfl, hb3⟩
  have HB13 := Lib.hid (HB1.out.fut hb3)
  have HB23 := Lib.hid (HB2.out.fut hb3)
  have HW3 := Lib.hid (below_fut HK02.out hb3 (Nat.le_refl _))
  have hbn := below_new w3 (.cells YFrm.toArray 37)
  clear hb3 a0 HB1 HB2 HK02 hcc
  go_upto_region 2 with (first
    | (with_reducible refine wp_build (o := ⟨some 13, _, _, _, _, _⟩) ?_ 37 #[(0, .tmp 12)] ?_ [(0, .string (strB cmd))] ?_ #[.string (strB cmd), .slice none 0 0] hbt (strB cmd) ?_
       · rfl
       · rfl
       · rfl)
    | (with_reducible refine wp_store_blk (o := ⟨none, _, _, _, _, _⟩) ?_ 37 (.tmp 4) (.tmp 13) ?_ (w3.heap.size) 37 (YFrm.toArray) (#[.string (strB cmd), .slice none 0 0]) ?_ ?_ (Blk.new w3 _ _) ?_ ?_ ?_ (w3.heap.size) (w3) ?_ ?_ ?_
       · rfl
       · rfl
       · rfl
       · rfl
       · exact ((by kernel_rfl))
       · exact (rfl)
       · exact ((by rw [List.all_toArray]; rfl))
       · exact (hbn)
       · exact (Nat.le_refl _)
       intro w4 hB4 hb4 hg4 hs4))
  try simp only [put_none]
  have HB14 := Lib.hid (HB13.out.fut hb4)
  have HB24 := Lib.hid (HB23.out.fut hb4)
  have HW4 := Lib.hid (below_fut HW3.out hb4 (Nat.le_refl _))
  have HB44 := Lib.hid hB4.out
  obtain ⟨z4, hz4⟩ : ∃ z, z = w3.heap.size := ⟨_, rfl⟩
  rw [← hz4] at HB44 ⊢
  have HZ4L : Hid (zm < z4 ∧ z2 < z4 ∧ w.heap.size ≤ z4) := Lib.hid (by rw [hz4]; exact ⟨HB13.out.lt, HB23.out.lt, HW3.out.size⟩)
  clear hbn hz4 hB4 hb4 hg4 hs4 HB13 HB23 HW3
  have c4 : w4.cell? ⟨z4, 0, none⟩ = some (.string (strB cmd)) := by have := HB44.out.cell 0; simpa using this
  have heq : (strB cmd).toList.isEmpty = false := strB_full HCM.out
  have hcl := HC.out.len
  have HCL := Lib.hid hcl
  have l1 : w4.rangeAt zm 0 cs := blk_range (by rw [HCS.out]; exact HB14.out)
  have hcc4 := msgC_keeps _ _ _ _ HC.out HW4.out
  have htoo4 := htoo w4 hcc4
  clear hcl hcc4 htoo
  go_wp2_with (first
    | (with_reducible refine wpList_load_midG (op := ⟨some 18, _, _, _, _, _⟩) ?_ 35 (.tmp 1) ?_ (zm) (0) ?_ (cs) _ (l1) Tryz.underlying35 ?_ ?_ ?_
       · rfl
       · rfl
       · rfl
       · rfl
       · exact ((info_Msg HCL.out))))
  refine htoo4.mono ?_
  rintro e wE ⟨rfl, hb5⟩
  have HMB := Lib.hid (HB14.out.fut hb5)
  have HZ2 := Lib.hid (HB24.out.fut hb5)
  have HZ4 := Lib.hid (HB44.out.fut hb5)
  have HWE := Lib.hid (below_fut HW4.out hb5 (Nat.le_refl _))
  have HMC := Lib.hid (msgC_keeps _ _ _ _ HC.out HWE.out)
  obtain ⟨gw, hgw⟩ : ∃ g, g = wE.heap.size := ⟨_, rfl⟩
  have HGE : Hid (wE.heap.size = gw) := Lib.hid hgw.symm
  have HLT : Hid (zm < gw ∧ z2 < gw ∧ z4 < gw ∧ w.heap.size ≤ z2 ∧ w.heap.size ≤ z4) := Lib.hid (by rw [hgw]; have h1 := HMB.out.lt; have h2 := HZ2.out.lt; have h3 := HZ4.out.lt; have h4 := HZZ.out; have h5 := HZ4L.out; omega)
  have hnb := below_new wE (.cells #[.slice none 0 0] 48)
  obtain ⟨w6, hw6⟩ : ∃ W, W = wE.alloc (.cells #[.slice none 0 0] 48) := ⟨_, rfl⟩
  have HW6 : Hid (WrM gw w6 (Value.slice none 0 0) []) := Lib.hid ⟨by rw [hw6, hgw]; exact Blk.new wE _ _, Own8.nil _ _⟩
  have HB6 : Hid (Below gw wE w6) := Lib.hid (by rw [hw6, hgw]; exact hnb)
  have a0 := ((HMB.out.below HB6.out HLT.out.1).msg HPV.out HST.out).c0
  have HE := Lib.hid (HEH.out.fut hashE_c HWE.out)
  have HTX : Hid (tx.length = n3 ∧ Row8 wE p3 tx) := Lib.hid ⟨HTX0.out.1, HTX0.out.2.below HWE.out (Nat.le_refl _)⟩
  have HED := Lib.hid (HDH.out.fut hdrE_c HWE.out)
  clear HEH HTX0 HDH
  clear hnb hb5 htoo4 l1 c4 HB14 HB24 HB44 HW4 HC heq hbt
  go_upto_region 5 with fail
  rw [← hw6, ← hgw]
  clear hw6 hgw hzw
  obtain ⟨a0, a1, a2, ap, aq, a67, a68, a69, ab⟩ := (HMB.out.below HB6.out HLT.out.1).msg HPV.out HST.out
  clear a0 a2 ap aq a67 a68 a69 ab
  have ec := ext32_64 nu
  go_wp2_with fail
  clear ec
  refine (wNum_any (nu.setWidth 64) 4 (by omega) gw w6 (Value.slice none 0 0) ([]) HW6.out (by have := HL0.out; omega)).mono ?_
  rintro e W1 ⟨rfl, v1, hw1, hb1⟩
  obtain ⟨q1, m1, c1, rfl, _⟩ := hw1.own.open
  have HW1 := Lib.hid hw1
  have HB1 := Lib.hid (HB6.out.trans hb1)
  clear a0 hw1 hb1 HW6 HB6 a1
  have HL2 : Hid (([] ++ low (nu.setWidth 64) 4).length ≤ 4) := Lib.hid (by rw [List.length_append, low_len]; have := HL0.out; omega)
  clear HL0
  go_upto_region 8 with fail
  have cg : W1.cell? ⟨gw, 0, none⟩ = some (Value.slice q1 m1 c1) := by have := HW1.out.blk.cell 0; simpa using this
  go_upto_region 9 with (
    with_reducible refine wp_appendZ (o := ⟨some 32, _, _, _, _, _⟩) ?_ (.tmp 31) (.const (.int .i64 68)) ?_ (gw + 1) _ ([] ++ low (nu.setWidth 64) 4) ?_ HW1.out.own 68 ?_ ?_ ?_ HW1.out.lt ?_
    · rfl
    · rfl
    · rfl
    · rfl
    · omega
    · have := HL2.out; omega
    intro vz wz hoz hgz hjz
    obtain ⟨q3, m3, c3, rfl, _⟩ := hoz.open
    have hFz : WF gw wE (Value.slice q1 m1 c1) wz := WF.app ⟨HW1.out.blk, HB1.out⟩ HW1.out.own hgz
    have dz : wz.cell? ⟨gw, 0, none⟩ = some (Value.slice q1 m1 c1) := by have := hFz.blk.cell 0; simpa using this
    have fz := hFz.blk.frozen 0
    have HFZ := Lib.hid hFz
    have HOZ := Lib.hid hoz
    clear hFz hoz hgz hjz)
  have HWz := Lib.hid (WrM.put HFZ.out.blk HOZ.out)
  have HBz := Lib.hid (HFZ.out.bel.trans (below_poke gw wz (Value.slice q3 m3 c3)))
  clear dz fz HFZ HOZ HW1 HB1 cg
  generalize wz.setCell ⟨gw, 0, none⟩ (Value.slice q3 m3 c3) = W3 at *
  have HL4 : Hid (([] ++ low (nu.setWidth 64) 4 ++ nulls 68).length ≤ 72) := Lib.hid (by rw [List.length_append, nulls_len]; have := HL2.out; omega)
  clear HL2
  obtain ⟨a0, a1, a2, ap, aq, a67, a68, a69, ab⟩ := (HMB.out.below HBz.out HLT.out.1).msg HPV.out HST.out
  clear a0 a1 ap aq a67 a68 a69 ab
  go_wp2_with fail
  refine (wNum_any (no) 8 (by omega) gw W3 (Value.slice q3 m3 c3) ([] ++ low (nu.setWidth 64) 4 ++ nulls 68) HWz.out (by have := HL4.out; omega)).mono ?_
  rintro e W5 ⟨rfl, v5, hw5, hb5⟩
  obtain ⟨q5, m5, c5, rfl, _⟩ := hw5.own.open
  have HW5 := Lib.hid hw5
  have HB5 := Lib.hid (HBz.out.trans hb5)
  clear hw5 hb5 HWz HBz a2
  have HL6 : Hid (([] ++ low (nu.setWidth 64) 4 ++ nulls 68 ++ low no 8).length ≤ 80) := Lib.hid (by rw [List.length_append, low_len]; have := HL4.out; omega)
  clear HL4
  obtain ⟨a0, a1, a2, ap, aq, a67, a68, a69, ab⟩ := (HMB.out.below HB5.out HLT.out.1).msg HPV.out HST.out
  clear a0 a1 a2 ap aq a67 a68 a69 ab
  go_wp2_with fail
  refine (wNum_any (0#64) 5 (by omega) gw W5 (Value.slice q5 m5 c5) ([] ++ low (nu.setWidth 64) 4 ++ nulls 68 ++ low no 8) HW5.out (by have := HL6.out; omega)).mono ?_
  rintro e W7 ⟨rfl, v7, hw7, hb7⟩
  obtain ⟨q7, m7, c7, rfl, _⟩ := hw7.own.open
  have HW7 := Lib.hid hw7
  have HB7 := Lib.hid (HB5.out.trans hb7)
  clear hw7 hb7 HW5 HB5 
  have HL8 : Hid (([] ++ low (nu.setWidth 64) 4 ++ nulls 68 ++ low no 8 ++ low 0#64 5).length ≤ 85) := Lib.hid (by rw [List.length_append, low_len]; have := HL6.out; omega)
  clear HL6
  go_upto_region 43 with fail
  have H4 := Lib.hid (HZ4.out.below HB7.out HLT.out.2.2.1)
  have H2 := Lib.hid (HZ2.out.below HB7.out HLT.out.2.1)
  have cg : W7.cell? ⟨gw, 0, none⟩ = some (Value.slice q7 m7 c7) := by have := HW7.out.blk.cell 0; simpa using this
  have f4 := H4.out.frozen 1
  have d4 : W7.cell? ⟨z4, 1, none⟩ = some (.slice none 0 0) := by have := H4.out.cell 1; simpa using this
  have HO := Lib.hid (Own8.mono' HW7.out.own (B' := w.heap.size) (by have := HLT.out; omega))
  have HBW := Lib.hid (HWE.out.trans (HB7.out.mono (by have := HLT.out; omega)))
  go_upto_region 44 with fail
  have hst4 := Stays.set W7 z4 1 (Value.slice q7 m7 c7)
  have H4b : Hid (Blk (W7.setCell ⟨z4, 1, none⟩ (Value.slice q7 m7 c7)) z4 37 #[.string (strB cmd), (Value.slice q7 m7 c7)]) := Lib.hid (by have := H4.out.set 1 (Value.slice q7 m7 c7); simpa using this)
  have H2b := Lib.hid (H2.out.stays hst4 (by have := HZ4L.out; omega))
  have HO4 := Lib.hid (HO.out.sep hst4 (sep_one H4.out (by decide)))
  have HB4 : Hid (Below w.heap.size w (W7.setCell ⟨z4, 1, none⟩ (Value.slice q7 m7 c7))) := Lib.hid (HBW.out.setCell (show w.heap.size ≤ z4 from HLT.out.2.2.2.2) _)
  clear hst4 cg f4 d4 H4 H2 HO HBW HW7 HB7
  generalize W7.setCell ⟨z4, 1, none⟩ (Value.slice q7 m7 c7) = wF at *
  have l4 := blk_range (cs := [.string (strB cmd), (Value.slice q7 m7 c7)]) H4b.out
  have hbr := Below.refl w.heap.size wF
  have hz2w : w.heap.size ≤ z2 := HLT.out.2.2.2.1
  go_wp2_with (first
    | (with_reducible refine wpList_load_mid (op := ⟨some 146, _, _, _, _, _⟩) ?_ 37 (.tmp 4) ?_ (z4) (0) ?_ ([.string (strB cmd), (Value.slice q7 m7 c7)]) _ (l4) Tryz.underlying37 ?_ ?_ ?_
       · rfl
       · rfl
       · rfl
       · rfl
       · exact ((by kernel_rfl)))
    | (with_reducible refine wp_store_blk (o := ⟨none, _, _, _, _, _⟩) ?_ 37 (.tmp 2) (.tmp 146) ?_ (z2) 37 (YFrm.toArray) (#[.string (strB cmd), (Value.slice q7 m7 c7)]) ?_ ?_ (H2b.out) ?_ ?_ ?_ (w.heap.size) (wF) ?_ ?_ ?_
       · rfl
       · rfl
       · rfl
       · rfl
       · exact ((by kernel_rfl))
       · exact (rfl)
       · exact ((by rw [List.all_toArray]; rfl))
       · exact (hbr)
       · exact (hz2w)
       intro wG hBG hbG hgG hsG))
  refine bodyPost_ret (results_cell2 rfl _ _ _ z2 _ [.string (strB cmd), (Value.slice q7 m7 c7)] _ rfl hBG.out Tryz.underlying37 rfl (by kernel_rfl)) rfl ?_
  have hst := Stays.of_grown (S := fun k => k = z2) hgG.out (fun k h => by injection h with h; exact h.symm)
  rw [HMP.out]
  exact ⟨_, rfl, by have h := HO4.out.sep hst (sep_one H2b.out (by decide)); simpa only [List.nil_append, List.append_assoc, List.append_nil] using h, HB4.out.trans hbG⟩
set_option maxRecDepth 100000 in
set_option maxHeartbeats 8000000 in
theorem enc_k2 (nu : BitVec 32) (no : BitVec 64) (pv st : Bs) (hs : List Bs) (hd : List Hdr) (tx : Bs) (bl : TBlk) (cs : List Value) (w : World) (hc : MsgC w ⟨2, nu, no, pv, st, hs, hd, tx, bl⟩ cs) (ht : tooB ⟨2, nu, no, pv, st, hs, hd, tx, bl⟩ = false) :
    Calls Tryz.prog 4 #[.agg cs.toArray] w (MsgEnc w (msgP ⟨2, nu, no, pv, st, hs, hd, tx, bl⟩)) := by
  have hk0 : cmdB (2) = cmdN 2 := rfl
  obtain ⟨cmd, hcmd⟩ : ∃ c, c = cmdN 2 := ⟨_, rfl⟩
  have HCM : Hid (cmd ≠ []) := Lib.hid (by rw [hcmd]; decide)
  have HMP : Hid (msgP ⟨2, nu, no, pv, st, hs, hd, tx, bl⟩ = (cmd, (payP ⟨2, nu, no, pv, st, hs, hd, tx, bl⟩).1, 0)) := Lib.hid (by rw [hcmd]; exact msgP_ok _ (pay_good _ (show (1 : Int) ≤ 2 ∧ (2 : Int) ≤ 11 ∨ (2 : Int) = 13 by omega) ht))
  have HMP : Hid (msgP ⟨2, nu, no, pv, st, hs, hd, tx, bl⟩ = (cmd, [], 0)) := HMP
  have HC := Lib.hid hc
  have htoo := fun W (h : MsgC W ⟨2, nu, no, pv, st, hs, hd, tx, bl⟩ cs) => too_any _ cs W h
  rw [ht] at htoo
  have hcc := fun W => command_any (2) W
  rw [hk0, ← hcmd] at hcc
  obtain ⟨hv, dv, bv, bc, hcs, hpv, hst, hh, hdd, hb, hbl⟩ := hc
  obtain ⟨p1, n1, c1, rfl⟩ := hh.opens
  obtain ⟨p2, n2, c2, rfl⟩ := hdd.opens
  obtain ⟨p3, n3, c3, rfl⟩ := hb.opens
  obtain ⟨zm, hzm⟩ : ∃ z, z = w.heap.size := ⟨_, rfl⟩
  obtain ⟨W1, hW1⟩ : ∃ W, W = w.alloc (.cells cs.toArray 35) := ⟨_, rfl⟩
  obtain ⟨W2, hW2⟩ : ∃ W, W = W1.alloc (.cells YFrm.toArray 37) := ⟨_, rfl⟩
  have z1 : W1.heap.size = zm + 1 := by rw [hW1, World.size_alloc, hzm]
  have k1 : Below w.heap.size w W1 := by rw [hW1]; exact below_new w _
  have k2 : Below W1.heap.size W1 W2 := by rw [hW2]; exact below_new W1 _
  have k02 := below_fut k1 k2 (Nat.le_refl _)
  obtain ⟨z2, hz2⟩ : ∃ z, z = zm + 1 := ⟨_, rfl⟩
  have B1 : Blk W2 zm 35 cs.toArray := (show Blk W1 zm _ _ by rw [hW1, hzm]; exact Blk.new w _ _).fut k2
  have B2 : Blk W2 z2 37 YFrm.toArray := by rw [hW2, hz2, ← z1]; exact Blk.new W1 _ _
  rw [hcs] at B1
  have HPV := Lib.hid hpv
  have HL0 : Hid (([] : Bs).length ≤ 0) := Lib.hid (Nat.le_refl 0)
  have HN1 : Hid (n1 = hs.length) := Lib.hid hh.slen.1.symm
  have HN3 := Lib.hid hb.slen.1
  have HEH := Lib.hid hh
  have HN2 : Hid (hd.length = n2) := Lib.hid hdd.slen.1
  have HDH := Lib.hid hdd
  have HOKS : Hid (∀ x ∈ hd, Hdr.ok x) := Lib.hid HC.out.okMsg.2.2.2.1
  have HTX0 : Hid (tx.length = n3 ∧ Row8 w p3 tx) := Lib.hid (by obtain ⟨p', n', c', e, h1, _, _, h4, _⟩ := hb; injection e with e1 e2 _; rw [e1, e2]; exact ⟨h1, h4⟩)
  have HST := Lib.hid hst
  have a0 := (B1.msg hpv hst).c0
  have HB1 := Lib.hid B1
  have HB2 := Lib.hid B2
  have HK02 := Lib.hid k02
  have HCS := Lib.hid hcs
  have HZZ : Hid (zm = w.heap.size ∧ z2 = zm + 1) := Lib.hid ⟨hzm, hz2⟩
  have hzf := yFrm
  have hbt := fun s => built_frm1 s
  have hzw := zWriter
  clear k1 k2 k02 z1 B1 B2 hcs hpv hst hh hdd hb hbl hcmd hk0 ht
  go_enter Tryz.func4, Tryz.ntmps4
  go_upto_region 1 with fail
  rw [← hW1, ← hW2, ← hzm, ← hz2]
  clear hW1 hW2 hzm hz2
  go_wp2_with fail
  refine (hcc W2).mono ?_
  rintro e w3 ⟨rfl, hb3⟩
  have HB13 := Lib.hid (HB1.out.fut hb3)
  have HB23 := Lib.hid (HB2.out.fut hb3)
  have HW3 := Lib.hid (below_fut HK02.out hb3 (Nat.le_refl _))
  have hbn := below_new w3 (.cells YFrm.toArray 37)
  clear hb3 a0 HB1 HB2 HK02 hcc
  go_upto_region 2 with (first
    | (with_reducible refine wp_build (o := ⟨some 13, _, _, _, _, _⟩) ?_ 37 #[(0, .tmp 12)] ?_ [(0, .string (strB cmd))] ?_ #[.string (strB cmd), .slice none 0 0] hbt (strB cmd) ?_
       · rfl
       · rfl
       · rfl)
    | (with_reducible refine wp_store_blk (o := ⟨none, _, _, _, _, _⟩) ?_ 37 (.tmp 4) (.tmp 13) ?_ (w3.heap.size) 37 (YFrm.toArray) (#[.string (strB cmd), .slice none 0 0]) ?_ ?_ (Blk.new w3 _ _) ?_ ?_ ?_ (w3.heap.size) (w3) ?_ ?_ ?_
       · rfl
       · rfl
       · rfl
       · rfl
       · exact ((by kernel_rfl))
       · exact (rfl)
       · exact ((by rw [List.all_toArray]; rfl))
       · exact (hbn)
       · exact (Nat.le_refl _)
       intro w4 hB4 hb4 hg4 hs4))
  try simp only [put_none]
  have HB14 := Lib.hid (HB13.out.fut hb4)
  have HB24 := Lib.hid (HB23.out.fut hb4)
  have HW4 := Lib.hid (below_fut HW3.out hb4 (Nat.le_refl _))
  have HB44 := Lib.hid hB4.out
  obtain ⟨z4, hz4⟩ : ∃ z, z = w3.heap.size := ⟨_, rfl⟩
  rw [← hz4] at HB44 ⊢
  have HZ4L : Hid (zm < z4 ∧ z2 < z4 ∧ w.heap.size ≤ z4) := Lib.hid (by rw [hz4]; exact ⟨HB13.out.lt, HB23.out.lt, HW3.out.size⟩)
  clear hbn hz4 hB4 hb4 hg4 hs4 HB13 HB23 HW3
  have c4 : w4.cell? ⟨z4, 0, none⟩ = some (.string (strB cmd)) := by have := HB44.out.cell 0; simpa using this
  have heq : (strB cmd).toList.isEmpty = false := strB_full HCM.out
  have hcl := HC.out.len
  have HCL := Lib.hid hcl
  have l1 : w4.rangeAt zm 0 cs := blk_range (by rw [HCS.out]; exact HB14.out)
  have hcc4 := msgC_keeps _ _ _ _ HC.out HW4.out
  have htoo4 := htoo w4 hcc4
  clear hcl hcc4 htoo
  go_wp2_with (first
    | (with_reducible refine wpList_load_midG (op := ⟨some 18, _, _, _, _, _⟩) ?_ 35 (.tmp 1) ?_ (zm) (0) ?_ (cs) _ (l1) Tryz.underlying35 ?_ ?_ ?_
       · rfl
       · rfl
       · rfl
       · rfl
       · exact ((info_Msg HCL.out))))
  refine htoo4.mono ?_
  rintro e wE ⟨rfl, hb5⟩
  have HMB := Lib.hid (HB14.out.fut hb5)
  have HZ2 := Lib.hid (HB24.out.fut hb5)
  have HZ4 := Lib.hid (HB44.out.fut hb5)
  have HWE := Lib.hid (below_fut HW4.out hb5 (Nat.le_refl _))
  have HMC := Lib.hid (msgC_keeps _ _ _ _ HC.out HWE.out)
  obtain ⟨gw, hgw⟩ : ∃ g, g = wE.heap.size := ⟨_, rfl⟩
  have HGE : Hid (wE.heap.size = gw) := Lib.hid hgw.symm
  have HLT : Hid (zm < gw ∧ z2 < gw ∧ z4 < gw ∧ w.heap.size ≤ z2 ∧ w.heap.size ≤ z4) := Lib.hid (by rw [hgw]; have h1 := HMB.out.lt; have h2 := HZ2.out.lt; have h3 := HZ4.out.lt; have h4 := HZZ.out; have h5 := HZ4L.out; omega)
  have hnb := below_new wE (.cells #[.slice none 0 0] 48)
  obtain ⟨w6, hw6⟩ : ∃ W, W = wE.alloc (.cells #[.slice none 0 0] 48) := ⟨_, rfl⟩
  have HW6 : Hid (WrM gw w6 (Value.slice none 0 0) []) := Lib.hid ⟨by rw [hw6, hgw]; exact Blk.new wE _ _, Own8.nil _ _⟩
  have HB6 : Hid (Below gw wE w6) := Lib.hid (by rw [hw6, hgw]; exact hnb)
  have a0 := ((HMB.out.below HB6.out HLT.out.1).msg HPV.out HST.out).c0
  have HE := Lib.hid (HEH.out.fut hashE_c HWE.out)
  have HTX : Hid (tx.length = n3 ∧ Row8 wE p3 tx) := Lib.hid ⟨HTX0.out.1, HTX0.out.2.below HWE.out (Nat.le_refl _)⟩
  have HED := Lib.hid (HDH.out.fut hdrE_c HWE.out)
  clear HEH HTX0 HDH
  clear hnb hb5 htoo4 l1 c4 HB14 HB24 HB44 HW4 HC heq hbt
  go_upto_region 5 with fail
  rw [← hw6, ← hgw]
  clear hw6 hgw hzw
  go_upto_region 43 with fail
  clear a0
  have H4 := Lib.hid (HZ4.out.below HB6.out HLT.out.2.2.1)
  have H2 := Lib.hid (HZ2.out.below HB6.out HLT.out.2.1)
  have cg : w6.cell? ⟨gw, 0, none⟩ = some (Value.slice none 0 0) := by have := HW6.out.blk.cell 0; simpa using this
  have f4 := H4.out.frozen 1
  have d4 : w6.cell? ⟨z4, 1, none⟩ = some (.slice none 0 0) := by have := H4.out.cell 1; simpa using this
  have HO := Lib.hid (Own8.mono' HW6.out.own (B' := w.heap.size) (by have := HLT.out; omega))
  have HBW := Lib.hid (HWE.out.trans (HB6.out.mono (by have := HLT.out; omega)))
  go_upto_region 44 with fail
  have hst4 := Stays.set w6 z4 1 (Value.slice none 0 0)
  have H4b : Hid (Blk (w6.setCell ⟨z4, 1, none⟩ (Value.slice none 0 0)) z4 37 #[.string (strB cmd), (Value.slice none 0 0)]) := Lib.hid (by have := H4.out.set 1 (Value.slice none 0 0); simpa using this)
  have H2b := Lib.hid (H2.out.stays hst4 (by have := HZ4L.out; omega))
  have HO4 := Lib.hid (HO.out.sep hst4 (sep_one H4.out (by decide)))
  have HB4 : Hid (Below w.heap.size w (w6.setCell ⟨z4, 1, none⟩ (Value.slice none 0 0))) := Lib.hid (HBW.out.setCell (show w.heap.size ≤ z4 from HLT.out.2.2.2.2) _)
  clear hst4 cg f4 d4 H4 H2 HO HBW HW6 HB6
  generalize w6.setCell ⟨z4, 1, none⟩ (Value.slice none 0 0) = wF at *
  have l4 := blk_range (cs := [.string (strB cmd), (Value.slice none 0 0)]) H4b.out
  have hbr := Below.refl w.heap.size wF
  have hz2w : w.heap.size ≤ z2 := HLT.out.2.2.2.1
  go_wp2_with (first
    | (with_reducible refine wpList_load_mid (op := ⟨some 146, _, _, _, _, _⟩) ?_ 37 (.tmp 4) ?_ (z4) (0) ?_ ([.string (strB cmd), (Value.slice none 0 0)]) _ (l4) Tryz.underlying37 ?_ ?_ ?_
       · rfl
       · rfl
       · rfl
       · rfl
       · exact ((by kernel_rfl)))
    | (with_reducible refine wp_store_blk (o := ⟨none, _, _, _, _, _⟩) ?_ 37 (.tmp 2) (.tmp 146) ?_ (z2) 37 (YFrm.toArray) (#[.string (strB cmd), (Value.slice none 0 0)]) ?_ ?_ (H2b.out) ?_ ?_ ?_ (w.heap.size) (wF) ?_ ?_ ?_
       · rfl
       · rfl
       · rfl
       · rfl
       · exact ((by kernel_rfl))
       · exact (rfl)
       · exact ((by rw [List.all_toArray]; rfl))
       · exact (hbr)
       · exact (hz2w)
       intro wG hBG hbG hgG hsG))
  refine bodyPost_ret (results_cell2 rfl _ _ _ z2 _ [.string (strB cmd), (Value.slice none 0 0)] _ rfl hBG.out Tryz.underlying37 rfl (by kernel_rfl)) rfl ?_
  have hst := Stays.of_grown (S := fun k => k = z2) hgG.out (fun k h => by injection h with h; exact h.symm)
  rw [HMP.out]
  exact ⟨_, rfl, by have h := HO4.out.sep hst (sep_one H2b.out (by decide)); simpa only [List.nil_append, List.append_assoc, List.append_nil] using h, HB4.out.trans hbG⟩
set_option maxRecDepth 100000 in
set_option maxHeartbeats 8000000 in
theorem enc_k3 (nu : BitVec 32) (no : BitVec 64) (pv st : Bs) (hs : List Bs) (hd : List Hdr) (tx : Bs) (bl : TBlk) (cs : List Value) (w : World) (hc : MsgC w ⟨3, nu, no, pv, st, hs, hd, tx, bl⟩ cs) (ht : tooB ⟨3, nu, no, pv, st, hs, hd, tx, bl⟩ = false) :
    Calls Tryz.prog 4 #[.agg cs.toArray] w (MsgEnc w (msgP ⟨3, nu, no, pv, st, hs, hd, tx, bl⟩)) := by
  have hk0 : cmdB (3) = cmdN 3 := rfl
  obtain ⟨cmd, hcmd⟩ : ∃ c, c = cmdN 3 := ⟨_, rfl⟩
  have HCM : Hid (cmd ≠ []) := Lib.hid (by rw [hcmd]; decide)
  have HMP : Hid (msgP ⟨3, nu, no, pv, st, hs, hd, tx, bl⟩ = (cmd, (payP ⟨3, nu, no, pv, st, hs, hd, tx, bl⟩).1, 0)) := Lib.hid (by rw [hcmd]; exact msgP_ok _ (pay_good _ (show (1 : Int) ≤ 3 ∧ (3 : Int) ≤ 11 ∨ (3 : Int) = 13 by omega) ht))
  have HMP : Hid (msgP ⟨3, nu, no, pv, st, hs, hd, tx, bl⟩ = (cmd, low no 8, 0)) := HMP
  have HC := Lib.hid hc
  have htoo := fun W (h : MsgC W ⟨3, nu, no, pv, st, hs, hd, tx, bl⟩ cs) => too_any _ cs W h
  rw [ht] at htoo
  have hcc := fun W => command_any (3) W
  rw [hk0, ← hcmd] at hcc
  obtain ⟨hv, dv, bv, bc, hcs, hpv, hst, hh, hdd, hb, hbl⟩ := hc
  obtain ⟨p1, n1, c1, rfl⟩ := hh.opens
  obtain ⟨p2, n2, c2, rfl⟩ := hdd.opens
  obtain ⟨p3, n3, c3, rfl⟩ := hb.opens
  obtain ⟨zm, hzm⟩ : ∃ z, z = w.heap.size := ⟨_, rfl⟩
  obtain ⟨W1, hW1⟩ : ∃ W, W = w.alloc (.cells cs.toArray 35) := ⟨_, rfl⟩
  obtain ⟨W2, hW2⟩ : ∃ W, W = W1.alloc (.cells YFrm.toArray 37) := ⟨_, rfl⟩
  have z1 : W1.heap.size = zm + 1 := by rw [hW1, World.size_alloc, hzm]
  have k1 : Below w.heap.size w W1 := by rw [hW1]; exact below_new w _
  have k2 : Below W1.heap.size W1 W2 := by rw [hW2]; exact below_new W1 _
  have k02 := below_fut k1 k2 (Nat.le_refl _)
  obtain ⟨z2, hz2⟩ : ∃ z, z = zm + 1 := ⟨_, rfl⟩
  have B1 : Blk W2 zm 35 cs.toArray := (show Blk W1 zm _ _ by rw [hW1, hzm]; exact Blk.new w _ _).fut k2
  have B2 : Blk W2 z2 37 YFrm.toArray := by rw [hW2, hz2, ← z1]; exact Blk.new W1 _ _
  rw [hcs] at B1
  have HPV := Lib.hid hpv
  have HL0 : Hid (([] : Bs).length ≤ 0) := Lib.hid (Nat.le_refl 0)
  have HN1 : Hid (n1 = hs.length) := Lib.hid hh.slen.1.symm
  have HN3 := Lib.hid hb.slen.1
  have HEH := Lib.hid hh
  have HN2 : Hid (hd.length = n2) := Lib.hid hdd.slen.1
  have HDH := Lib.hid hdd
  have HOKS : Hid (∀ x ∈ hd, Hdr.ok x) := Lib.hid HC.out.okMsg.2.2.2.1
  have HTX0 : Hid (tx.length = n3 ∧ Row8 w p3 tx) := Lib.hid (by obtain ⟨p', n', c', e, h1, _, _, h4, _⟩ := hb; injection e with e1 e2 _; rw [e1, e2]; exact ⟨h1, h4⟩)
  have HST := Lib.hid hst
  have a0 := (B1.msg hpv hst).c0
  have HB1 := Lib.hid B1
  have HB2 := Lib.hid B2
  have HK02 := Lib.hid k02
  have HCS := Lib.hid hcs
  have HZZ : Hid (zm = w.heap.size ∧ z2 = zm + 1) := Lib.hid ⟨hzm, hz2⟩
  have hzf := yFrm
  have hbt := fun s => built_frm1 s
  have hzw := zWriter
  clear k1 k2 k02 z1 B1 B2 hcs hpv hst hh hdd hb hbl hcmd hk0 ht
  go_enter Tryz.func4, Tryz.ntmps4
  go_upto_region 1 with fail
  rw [← hW1, ← hW2, ← hzm, ← hz2]
  clear hW1 hW2 hzm hz2
  go_wp2_with fail
  refine (hcc W2).mono ?_
  rintro e w3 ⟨rfl, hb3⟩
  have HB13 := Lib.hid (HB1.out.fut hb3)
  have HB23 := Lib.hid (HB2.out.fut hb3)
  have HW3 := Lib.hid (below_fut HK02.out hb3 (Nat.le_refl _))
  have hbn := below_new w3 (.cells YFrm.toArray 37)
  clear hb3 a0 HB1 HB2 HK02 hcc
  go_upto_region 2 with (first
    | (with_reducible refine wp_build (o := ⟨some 13, _, _, _, _, _⟩) ?_ 37 #[(0, .tmp 12)] ?_ [(0, .string (strB cmd))] ?_ #[.string (strB cmd), .slice none 0 0] hbt (strB cmd) ?_
       · rfl
       · rfl
       · rfl)
    | (with_reducible refine wp_store_blk (o := ⟨none, _, _, _, _, _⟩) ?_ 37 (.tmp 4) (.tmp 13) ?_ (w3.heap.size) 37 (YFrm.toArray) (#[.string (strB cmd), .slice none 0 0]) ?_ ?_ (Blk.new w3 _ _) ?_ ?_ ?_ (w3.heap.size) (w3) ?_ ?_ ?_
       · rfl
       · rfl
       · rfl
       · rfl
       · exact ((by kernel_rfl))
       · exact (rfl)
       · exact ((by rw [List.all_toArray]; rfl))
       · exact (hbn)
       · exact (Nat.le_refl _)
       intro w4 hB4 hb4 hg4 hs4))
  try simp only [put_none]
  have HB14 := Lib.hid (HB13.out.fut hb4)
  have HB24 := Lib.hid (HB23.out.fut hb4)
  have HW4 := Lib.hid (below_fut HW3.out hb4 (Nat.le_refl _))
  have HB44 := Lib.hid hB4.out
  obtain ⟨z4, hz4⟩ : ∃ z, z = w3.heap.size := ⟨_, rfl⟩
  rw [← hz4] at HB44 ⊢
  have HZ4L : Hid (zm < z4 ∧ z2 < z4 ∧ w.heap.size ≤ z4) := Lib.hid (by rw [hz4]; exact ⟨HB13.out.lt, HB23.out.lt, HW3.out.size⟩)
  clear hbn hz4 hB4 hb4 hg4 hs4 HB13 HB23 HW3
  have c4 : w4.cell? ⟨z4, 0, none⟩ = some (.string (strB cmd)) := by have := HB44.out.cell 0; simpa using this
  have heq : (strB cmd).toList.isEmpty = false := strB_full HCM.out
  have hcl := HC.out.len
  have HCL := Lib.hid hcl
  have l1 : w4.rangeAt zm 0 cs := blk_range (by rw [HCS.out]; exact HB14.out)
  have hcc4 := msgC_keeps _ _ _ _ HC.out HW4.out
  have htoo4 := htoo w4 hcc4
  clear hcl hcc4 htoo
  go_wp2_with (first
    | (with_reducible refine wpList_load_midG (op := ⟨some 18, _, _, _, _, _⟩) ?_ 35 (.tmp 1) ?_ (zm) (0) ?_ (cs) _ (l1) Tryz.underlying35 ?_ ?_ ?_
       · rfl
       · rfl
       · rfl
       · rfl
       · exact ((info_Msg HCL.out))))
  refine htoo4.mono ?_
  rintro e wE ⟨rfl, hb5⟩
  have HMB := Lib.hid (HB14.out.fut hb5)
  have HZ2 := Lib.hid (HB24.out.fut hb5)
  have HZ4 := Lib.hid (HB44.out.fut hb5)
  have HWE := Lib.hid (below_fut HW4.out hb5 (Nat.le_refl _))
  have HMC := Lib.hid (msgC_keeps _ _ _ _ HC.out HWE.out)
  obtain ⟨gw, hgw⟩ : ∃ g, g = wE.heap.size := ⟨_, rfl⟩
  have HGE : Hid (wE.heap.size = gw) := Lib.hid hgw.symm
  have HLT : Hid (zm < gw ∧ z2 < gw ∧ z4 < gw ∧ w.heap.size ≤ z2 ∧ w.heap.size ≤ z4) := Lib.hid (by rw [hgw]; have h1 := HMB.out.lt; have h2 := HZ2.out.lt; have h3 := HZ4.out.lt; have h4 := HZZ.out; have h5 := HZ4L.out; omega)
  have hnb := below_new wE (.cells #[.slice none 0 0] 48)
  obtain ⟨w6, hw6⟩ : ∃ W, W = wE.alloc (.cells #[.slice none 0 0] 48) := ⟨_, rfl⟩
  have HW6 : Hid (WrM gw w6 (Value.slice none 0 0) []) := Lib.hid ⟨by rw [hw6, hgw]; exact Blk.new wE _ _, Own8.nil _ _⟩
  have HB6 : Hid (Below gw wE w6) := Lib.hid (by rw [hw6, hgw]; exact hnb)
  have a0 := ((HMB.out.below HB6.out HLT.out.1).msg HPV.out HST.out).c0
  have HE := Lib.hid (HEH.out.fut hashE_c HWE.out)
  have HTX : Hid (tx.length = n3 ∧ Row8 wE p3 tx) := Lib.hid ⟨HTX0.out.1, HTX0.out.2.below HWE.out (Nat.le_refl _)⟩
  have HED := Lib.hid (HDH.out.fut hdrE_c HWE.out)
  clear HEH HTX0 HDH
  clear hnb hb5 htoo4 l1 c4 HB14 HB24 HB44 HW4 HC heq hbt
  go_upto_region 5 with fail
  rw [← hw6, ← hgw]
  clear hw6 hgw hzw
  obtain ⟨a0, a1, a2, ap, aq, a67, a68, a69, ab⟩ := (HMB.out.below HB6.out HLT.out.1).msg HPV.out HST.out
  clear a0 a1 ap aq a67 a68 a69 ab
  go_wp2_with fail
  refine (wNum_any (no) 8 (by omega) gw w6 (Value.slice none 0 0) ([]) HW6.out (by have := HL0.out; omega)).mono ?_
  rintro e W11 ⟨rfl, v11, hw11, hb11⟩
  obtain ⟨q11, m11, c11, rfl, _⟩ := hw11.own.open
  have HW11 := Lib.hid hw11
  have HB11 := Lib.hid (HB6.out.trans hb11)
  clear a0 hw11 hb11 HW6 HB6 a2
  have HL12 : Hid (([] ++ low no 8).length ≤ 8) := Lib.hid (by rw [List.length_append, low_len]; have := HL0.out; omega)
  clear HL0
  go_upto_region 43 with fail
  have H4 := Lib.hid (HZ4.out.below HB11.out HLT.out.2.2.1)
  have H2 := Lib.hid (HZ2.out.below HB11.out HLT.out.2.1)
  have cg : W11.cell? ⟨gw, 0, none⟩ = some (Value.slice q11 m11 c11) := by have := HW11.out.blk.cell 0; simpa using this
  have f4 := H4.out.frozen 1
  have d4 : W11.cell? ⟨z4, 1, none⟩ = some (.slice none 0 0) := by have := H4.out.cell 1; simpa using this
  have HO := Lib.hid (Own8.mono' HW11.out.own (B' := w.heap.size) (by have := HLT.out; omega))
  have HBW := Lib.hid (HWE.out.trans (HB11.out.mono (by have := HLT.out; omega)))
  go_upto_region 44 with fail
  have hst4 := Stays.set W11 z4 1 (Value.slice q11 m11 c11)
  have H4b : Hid (Blk (W11.setCell ⟨z4, 1, none⟩ (Value.slice q11 m11 c11)) z4 37 #[.string (strB cmd), (Value.slice q11 m11 c11)]) := Lib.hid (by have := H4.out.set 1 (Value.slice q11 m11 c11); simpa using this)
  have H2b := Lib.hid (H2.out.stays hst4 (by have := HZ4L.out; omega))
  have HO4 := Lib.hid (HO.out.sep hst4 (sep_one H4.out (by decide)))
  have HB4 : Hid (Below w.heap.size w (W11.setCell ⟨z4, 1, none⟩ (Value.slice q11 m11 c11))) := Lib.hid (HBW.out.setCell (show w.heap.size ≤ z4 from HLT.out.2.2.2.2) _)
  clear hst4 cg f4 d4 H4 H2 HO HBW HW11 HB11
  generalize W11.setCell ⟨z4, 1, none⟩ (Value.slice q11 m11 c11) = wF at *
  have l4 := blk_range (cs := [.string (strB cmd), (Value.slice q11 m11 c11)]) H4b.out
  have hbr := Below.refl w.heap.size wF
  have hz2w : w.heap.size ≤ z2 := HLT.out.2.2.2.1
  go_wp2_with (first
    | (with_reducible refine wpList_load_mid (op := ⟨some 146, _, _, _, _, _⟩) ?_ 37 (.tmp 4) ?_ (z4) (0) ?_ ([.string (strB cmd), (Value.slice q11 m11 c11)]) _ (l4) Tryz.underlying37 ?_ ?_ ?_
       · rfl
       · rfl
       · rfl
       · rfl
       · exact ((by kernel_rfl)))
    | (with_reducible refine wp_store_blk (o := ⟨none, _, _, _, _, _⟩) ?_ 37 (.tmp 2) (.tmp 146) ?_ (z2) 37 (YFrm.toArray) (#[.string (strB cmd), (Value.slice q11 m11 c11)]) ?_ ?_ (H2b.out) ?_ ?_ ?_ (w.heap.size) (wF) ?_ ?_ ?_
       · rfl
       · rfl
       · rfl
       · rfl
       · exact ((by kernel_rfl))
       · exact (rfl)
       · exact ((by rw [List.all_toArray]; rfl))
       · exact (hbr)
       · exact (hz2w)
       intro wG hBG hbG hgG hsG))
  refine bodyPost_ret (results_cell2 rfl _ _ _ z2 _ [.string (strB cmd), (Value.slice q11 m11 c11)] _ rfl hBG.out Tryz.underlying37 rfl (by kernel_rfl)) rfl ?_
  have hst := Stays.of_grown (S := fun k => k = z2) hgG.out (fun k h => by injection h with h; exact h.symm)
  rw [HMP.out]
  exact ⟨_, rfl, by have h := HO4.out.sep hst (sep_one H2b.out (by decide)); simpa only [List.nil_append, List.append_assoc, List.append_nil] using h, HB4.out.trans hbG⟩
set_option maxRecDepth 100000 in
set_option maxHeartbeats 8000000 in
theorem enc_k4 (nu : BitVec 32) (no : BitVec 64) (pv st : Bs) (hs : List Bs) (hd : List Hdr) (tx : Bs) (bl : TBlk) (cs : List Value) (w : World) (hc : MsgC w ⟨4, nu, no, pv, st, hs, hd, tx, bl⟩ cs) (ht : tooB ⟨4, nu, no, pv, st, hs, hd, tx, bl⟩ = false) :
    Calls Tryz.prog 4 #[.agg cs.toArray] w (MsgEnc w (msgP ⟨4, nu, no, pv, st, hs, hd, tx, bl⟩)) := by
  have hk0 : cmdB (4) = cmdN 4 := rfl
  obtain ⟨cmd, hcmd⟩ : ∃ c, c = cmdN 4 := ⟨_, rfl⟩
  have HCM : Hid (cmd ≠ []) := Lib.hid (by rw [hcmd]; decide)
  have HMP : Hid (msgP ⟨4, nu, no, pv, st, hs, hd, tx, bl⟩ = (cmd, (payP ⟨4, nu, no, pv, st, hs, hd, tx, bl⟩).1, 0)) := Lib.hid (by rw [hcmd]; exact msgP_ok _ (pay_good _ (show (1 : Int) ≤ 4 ∧ (4 : Int) ≤ 11 ∨ (4 : Int) = 13 by omega) ht))
  have HMP : Hid (msgP ⟨4, nu, no, pv, st, hs, hd, tx, bl⟩ = (cmd, low no 8, 0)) := HMP
  have HC := Lib.hid hc
  have htoo := fun W (h : MsgC W ⟨4, nu, no, pv, st, hs, hd, tx, bl⟩ cs) => too_any _ cs W h
  rw [ht] at htoo
  have hcc := fun W => command_any (4) W
  rw [hk0, ← hcmd] at hcc
  obtain ⟨hv, dv, bv, bc, hcs, hpv, hst, hh, hdd, hb, hbl⟩ := hc
  obtain ⟨p1, n1, c1, rfl⟩ := hh.opens
  obtain ⟨p2, n2, c2, rfl⟩ := hdd.opens
  obtain ⟨p3, n3, c3, rfl⟩ := hb.opens
  obtain ⟨zm, hzm⟩ : ∃ z, z = w.heap.size := ⟨_, rfl⟩
  obtain ⟨W1, hW1⟩ : ∃ W, W = w.alloc (.cells cs.toArray 35) := ⟨_, rfl⟩
  obtain ⟨W2, hW2⟩ : ∃ W, W = W1.alloc (.cells YFrm.toArray 37) := ⟨_, rfl⟩
  have z1 : W1.heap.size = zm + 1 := by rw [hW1, World.size_alloc, hzm]
  have k1 : Below w.heap.size w W1 := by rw [hW1]; exact below_new w _
  have k2 : Below W1.heap.size W1 W2 := by rw [hW2]; exact below_new W1 _
  have k02 := below_fut k1 k2 (Nat.le_refl _)
  obtain ⟨z2, hz2⟩ : ∃ z, z = zm + 1 := ⟨_, rfl⟩
  have B1 : Blk W2 zm 35 cs.toArray := (show Blk W1 zm _ _ by rw [hW1, hzm]; exact Blk.new w _ _).fut k2
  have B2 : Blk W2 z2 37 YFrm.toArray := by rw [hW2, hz2, ← z1]; exact Blk.new W1 _ _
  rw [hcs] at B1
  have HPV := Lib.hid hpv
  have HL0 : Hid (([] : Bs).length ≤ 0) := Lib.hid (Nat.le_refl 0)
  have HN1 : Hid (n1 = hs.length) := Lib.hid hh.slen.1.symm
  have HN3 := Lib.hid hb.slen.1
  have HEH := Lib.hid hh
  have HN2 : Hid (hd.length = n2) := Lib.hid hdd.slen.1
  have HDH := Lib.hid hdd
  have HOKS : Hid (∀ x ∈ hd, Hdr.ok x) := Lib.hid HC.out.okMsg.2.2.2.1
  have HTX0 : Hid (tx.length = n3 ∧ Row8 w p3 tx) := Lib.hid (by obtain ⟨p', n', c', e, h1, _, _, h4, _⟩ := hb; injection e with e1 e2 _; rw [e1, e2]; exact ⟨h1, h4⟩)
  have HST := Lib.hid hst
  have a0 := (B1.msg hpv hst).c0
  have HB1 := Lib.hid B1
  have HB2 := Lib.hid B2
  have HK02 := Lib.hid k02
  have HCS := Lib.hid hcs
  have HZZ : Hid (zm = w.heap.size ∧ z2 = zm + 1) := Lib.hid ⟨hzm, hz2⟩
  have hzf := yFrm
  have hbt := fun s => built_frm1 s
  have hzw := zWriter
  clear k1 k2 k02 z1 B1 B2 hcs hpv hst hh hdd hb hbl hcmd hk0 ht
  go_enter Tryz.func4, Tryz.ntmps4
  go_upto_region 1 with fail
  rw [← hW1, ← hW2, ← hzm, ← hz2]
  clear hW1 hW2 hzm hz2
  go_wp2_with fail
  refine (hcc W2).mono ?_
  rintro e w3 ⟨rfl, hb3⟩
  have HB13 := Lib.hid (HB1.out.fut hb3)
  have HB23 := Lib.hid (HB2.out.fut hb3)
  have HW3 := Lib.hid (below_fut HK02.out hb3 (Nat.le_refl _))
  have hbn := below_new w3 (.cells YFrm.toArray 37)
  clear hb3 a0 HB1 HB2 HK02 hcc
  go_upto_region 2 with (first
    | (with_reducible refine wp_build (o := ⟨some 13, _, _, _, _, _⟩) ?_ 37 #[(0, .tmp 12)] ?_ [(0, .string (strB cmd))] ?_ #[.string (strB cmd), .slice none 0 0] hbt (strB cmd) ?_
       · rfl
       · rfl
       · rfl)
    | (with_reducible refine wp_store_blk (o := ⟨none, _, _, _, _, _⟩) ?_ 37 (.tmp 4) (.tmp 13) ?_ (w3.heap.size) 37 (YFrm.toArray) (#[.string (strB cmd), .slice none 0 0]) ?_ ?_ (Blk.new w3 _ _) ?_ ?_ ?_ (w3.heap.size) (w3) ?_ ?_ ?_
       · rfl
       · rfl
       · rfl
       · rfl
       · exact ((by kernel_rfl))
       · exact (rfl)
       · exact ((by rw [List.all_toArray]; rfl))
       · exact (hbn)
       · exact (Nat.le_refl _)
       intro w4 hB4 hb4 hg4 hs4))
  try simp only [put_none]
  have HB14 := Lib.hid (HB13.out.fut hb4)
  have HB24 := Lib.hid (HB23.out.fut hb4)
  have HW4 := Lib.hid (below_fut HW3.out hb4 (Nat.le_refl _))
  have HB44 := Lib.hid hB4.out
  obtain ⟨z4, hz4⟩ : ∃ z, z = w3.heap.size := ⟨_, rfl⟩
  rw [← hz4] at HB44 ⊢
  have HZ4L : Hid (zm < z4 ∧ z2 < z4 ∧ w.heap.size ≤ z4) := Lib.hid (by rw [hz4]; exact ⟨HB13.out.lt, HB23.out.lt, HW3.out.size⟩)
  clear hbn hz4 hB4 hb4 hg4 hs4 HB13 HB23 HW3
  have c4 : w4.cell? ⟨z4, 0, none⟩ = some (.string (strB cmd)) := by have := HB44.out.cell 0; simpa using this
  have heq : (strB cmd).toList.isEmpty = false := strB_full HCM.out
  have hcl := HC.out.len
  have HCL := Lib.hid hcl
  have l1 : w4.rangeAt zm 0 cs := blk_range (by rw [HCS.out]; exact HB14.out)
  have hcc4 := msgC_keeps _ _ _ _ HC.out HW4.out
  have htoo4 := htoo w4 hcc4
  clear hcl hcc4 htoo
  go_wp2_with (first
    | (with_reducible refine wpList_load_midG (op := ⟨some 18, _, _, _, _, _⟩) ?_ 35 (.tmp 1) ?_ (zm) (0) ?_ (cs) _ (l1) Tryz.underlying35 ?_ ?_ ?_
       · rfl
       · rfl
       · rfl
       · rfl
       · exact ((info_Msg HCL.out))))
  refine htoo4.mono ?_
  rintro e wE ⟨rfl, hb5⟩
  have HMB := Lib.hid (HB14.out.fut hb5)
  have HZ2 := Lib.hid (HB24.out.fut hb5)
  have HZ4 := Lib.hid (HB44.out.fut hb5)
  have HWE := Lib.hid (below_fut HW4.out hb5 (Nat.le_refl _))
  have HMC := Lib.hid (msgC_keeps _ _ _ _ HC.out HWE.out)
  obtain ⟨gw, hgw⟩ : ∃ g, g = wE.heap.size := ⟨_, rfl⟩
  have HGE : Hid (wE.heap.size = gw) := Lib.hid hgw.symm
  have HLT : Hid (zm < gw ∧ z2 < gw ∧ z4 < gw ∧ w.heap.size ≤ z2 ∧ w.heap.size ≤ z4) := Lib.hid (by rw [hgw]; have h1 := HMB.out.lt; have h2 := HZ2.out.lt; have h3 := HZ4.out.lt; have h4 := HZZ.out; have h5 := HZ4L.out; omega)
  have hnb := below_new wE (.cells #[.slice none 0 0] 48)
  obtain ⟨w6, hw6⟩ : ∃ W, W = wE.alloc (.cells #[.slice none 0 0] 48) := ⟨_, rfl⟩
  have HW6 : Hid (WrM gw w6 (Value.slice none 0 0) []) := Lib.hid ⟨by rw [hw6, hgw]; exact Blk.new wE _ _, Own8.nil _ _⟩
  have HB6 : Hid (Below gw wE w6) := Lib.hid (by rw [hw6, hgw]; exact hnb)
  have a0 := ((HMB.out.below HB6.out HLT.out.1).msg HPV.out HST.out).c0
  have HE := Lib.hid (HEH.out.fut hashE_c HWE.out)
  have HTX : Hid (tx.length = n3 ∧ Row8 wE p3 tx) := Lib.hid ⟨HTX0.out.1, HTX0.out.2.below HWE.out (Nat.le_refl _)⟩
  have HED := Lib.hid (HDH.out.fut hdrE_c HWE.out)
  clear HEH HTX0 HDH
  clear hnb hb5 htoo4 l1 c4 HB14 HB24 HB44 HW4 HC heq hbt
  go_upto_region 5 with fail
  rw [← hw6, ← hgw]
  clear hw6 hgw hzw
  obtain ⟨a0, a1, a2, ap, aq, a67, a68, a69, ab⟩ := (HMB.out.below HB6.out HLT.out.1).msg HPV.out HST.out
  clear a0 a1 ap aq a67 a68 a69 ab
  go_wp2_with fail
  refine (wNum_any (no) 8 (by omega) gw w6 (Value.slice none 0 0) ([]) HW6.out (by have := HL0.out; omega)).mono ?_
  rintro e W14 ⟨rfl, v14, hw14, hb14⟩
  obtain ⟨q14, m14, c14, rfl, _⟩ := hw14.own.open
  have HW14 := Lib.hid hw14
  have HB14 := Lib.hid (HB6.out.trans hb14)
  clear a0 hw14 hb14 HW6 HB6 a2
  have HL15 : Hid (([] ++ low no 8).length ≤ 8) := Lib.hid (by rw [List.length_append, low_len]; have := HL0.out; omega)
  clear HL0
  go_upto_region 43 with fail
  have H4 := Lib.hid (HZ4.out.below HB14.out HLT.out.2.2.1)
  have H2 := Lib.hid (HZ2.out.below HB14.out HLT.out.2.1)
  have cg : W14.cell? ⟨gw, 0, none⟩ = some (Value.slice q14 m14 c14) := by have := HW14.out.blk.cell 0; simpa using this
  have f4 := H4.out.frozen 1
  have d4 : W14.cell? ⟨z4, 1, none⟩ = some (.slice none 0 0) := by have := H4.out.cell 1; simpa using this
  have HO := Lib.hid (Own8.mono' HW14.out.own (B' := w.heap.size) (by have := HLT.out; omega))
  have HBW := Lib.hid (HWE.out.trans (HB14.out.mono (by have := HLT.out; omega)))
  go_upto_region 44 with fail
  have hst4 := Stays.set W14 z4 1 (Value.slice q14 m14 c14)
  have H4b : Hid (Blk (W14.setCell ⟨z4, 1, none⟩ (Value.slice q14 m14 c14)) z4 37 #[.string (strB cmd), (Value.slice q14 m14 c14)]) := Lib.hid (by have := H4.out.set 1 (Value.slice q14 m14 c14); simpa using this)
  have H2b := Lib.hid (H2.out.stays hst4 (by have := HZ4L.out; omega))
  have HO4 := Lib.hid (HO.out.sep hst4 (sep_one H4.out (by decide)))
  have HB4 : Hid (Below w.heap.size w (W14.setCell ⟨z4, 1, none⟩ (Value.slice q14 m14 c14))) := Lib.hid (HBW.out.setCell (show w.heap.size ≤ z4 from HLT.out.2.2.2.2) _)
  clear hst4 cg f4 d4 H4 H2 HO HBW HW14 HB14
  generalize W14.setCell ⟨z4, 1, none⟩ (Value.slice q14 m14 c14) = wF at *
  have l4 := blk_range (cs := [.string (strB cmd), (Value.slice q14 m14 c14)]) H4b.out
  have hbr := Below.refl w.heap.size wF
  have hz2w : w.heap.size ≤ z2 := HLT.out.2.2.2.1
  go_wp2_with (first
    | (with_reducible refine wpList_load_mid (op := ⟨some 146, _, _, _, _, _⟩) ?_ 37 (.tmp 4) ?_ (z4) (0) ?_ ([.string (strB cmd), (Value.slice q14 m14 c14)]) _ (l4) Tryz.underlying37 ?_ ?_ ?_
       · rfl
       · rfl
       · rfl
       · rfl
       · exact ((by kernel_rfl)))
    | (with_reducible refine wp_store_blk (o := ⟨none, _, _, _, _, _⟩) ?_ 37 (.tmp 2) (.tmp 146) ?_ (z2) 37 (YFrm.toArray) (#[.string (strB cmd), (Value.slice q14 m14 c14)]) ?_ ?_ (H2b.out) ?_ ?_ ?_ (w.heap.size) (wF) ?_ ?_ ?_
       · rfl
       · rfl
       · rfl
       · rfl
       · exact ((by kernel_rfl))
       · exact (rfl)
       · exact ((by rw [List.all_toArray]; rfl))
       · exact (hbr)
       · exact (hz2w)
       intro wG hBG hbG hgG hsG))
  refine bodyPost_ret (results_cell2 rfl _ _ _ z2 _ [.string (strB cmd), (Value.slice q14 m14 c14)] _ rfl hBG.out Tryz.underlying37 rfl (by kernel_rfl)) rfl ?_
  have hst := Stays.of_grown (S := fun k => k = z2) hgG.out (fun k h => by injection h with h; exact h.symm)
  rw [HMP.out]
  exact ⟨_, rfl, by have h := HO4.out.sep hst (sep_one H2b.out (by decide)); simpa only [List.nil_append, List.append_assoc, List.append_nil] using h, HB4.out.trans hbG⟩
set_option maxRecDepth 100000 in
set_option maxHeartbeats 8000000 in
theorem enc_k5 (nu : BitVec 32) (no : BitVec 64) (pv st : Bs) (hs : List Bs) (hd : List Hdr) (tx : Bs) (bl : TBlk) (cs : List Value) (w : World) (hc : MsgC w ⟨5, nu, no, pv, st, hs, hd, tx, bl⟩ cs) (ht : tooB ⟨5, nu, no, pv, st, hs, hd, tx, bl⟩ = false) :
    Calls Tryz.prog 4 #[.agg cs.toArray] w (MsgEnc w (msgP ⟨5, nu, no, pv, st, hs, hd, tx, bl⟩)) := by
  have hk0 : cmdB (5) = cmdN 5 := rfl
  obtain ⟨cmd, hcmd⟩ : ∃ c, c = cmdN 5 := ⟨_, rfl⟩
  have HCM : Hid (cmd ≠ []) := Lib.hid (by rw [hcmd]; decide)
  have HMP : Hid (msgP ⟨5, nu, no, pv, st, hs, hd, tx, bl⟩ = (cmd, (payP ⟨5, nu, no, pv, st, hs, hd, tx, bl⟩).1, 0)) := Lib.hid (by rw [hcmd]; exact msgP_ok _ (pay_good _ (show (1 : Int) ≤ 5 ∧ (5 : Int) ≤ 11 ∨ (5 : Int) = 13 by omega) ht))
  have HMP : Hid (msgP ⟨5, nu, no, pv, st, hs, hd, tx, bl⟩ = (cmd, low (nu.setWidth 64) 4 ++ (hshB [] hs ++ st), 0)) := Lib.hid (HMP.out.trans (by rw [pay_k5 ht]; rfl))
  have hn1 : hs.length ≤ 100000 := by have h : hs.length ≤ 101 := lim_hs _ ht; omega
  have HSL : Hid ((hshB [] hs).length ≤ 100000) := Lib.hid (by have h : hs.length ≤ 101 := lim_hs _ ht; have := hshB_le (a := []) (l := hs) hc.okMsg.2.2.1 (by decide); omega)
  have HC := Lib.hid hc
  have htoo := fun W (h : MsgC W ⟨5, nu, no, pv, st, hs, hd, tx, bl⟩ cs) => too_any _ cs W h
  rw [ht] at htoo
  have hcc := fun W => command_any (5) W
  rw [hk0, ← hcmd] at hcc
  obtain ⟨hv, dv, bv, bc, hcs, hpv, hst, hh, hdd, hb, hbl⟩ := hc
  obtain ⟨p1, n1, c1, rfl⟩ := hh.opens
  obtain ⟨p2, n2, c2, rfl⟩ := hdd.opens
  obtain ⟨p3, n3, c3, rfl⟩ := hb.opens
  obtain ⟨zm, hzm⟩ : ∃ z, z = w.heap.size := ⟨_, rfl⟩
  obtain ⟨W1, hW1⟩ : ∃ W, W = w.alloc (.cells cs.toArray 35) := ⟨_, rfl⟩
  obtain ⟨W2, hW2⟩ : ∃ W, W = W1.alloc (.cells YFrm.toArray 37) := ⟨_, rfl⟩
  have z1 : W1.heap.size = zm + 1 := by rw [hW1, World.size_alloc, hzm]
  have k1 : Below w.heap.size w W1 := by rw [hW1]; exact below_new w _
  have k2 : Below W1.heap.size W1 W2 := by rw [hW2]; exact below_new W1 _
  have k02 := below_fut k1 k2 (Nat.le_refl _)
  obtain ⟨z2, hz2⟩ : ∃ z, z = zm + 1 := ⟨_, rfl⟩
  have B1 : Blk W2 zm 35 cs.toArray := (show Blk W1 zm _ _ by rw [hW1, hzm]; exact Blk.new w _ _).fut k2
  have B2 : Blk W2 z2 37 YFrm.toArray := by rw [hW2, hz2, ← z1]; exact Blk.new W1 _ _
  rw [hcs] at B1
  have HPV := Lib.hid hpv
  have HL0 : Hid (([] : Bs).length ≤ 0) := Lib.hid (Nat.le_refl 0)
  have HN1 : Hid (n1 = hs.length) := Lib.hid hh.slen.1.symm
  have HN3 := Lib.hid hb.slen.1
  have HEH := Lib.hid hh
  have HN2 : Hid (hd.length = n2) := Lib.hid hdd.slen.1
  have HDH := Lib.hid hdd
  have HOKS : Hid (∀ x ∈ hd, Hdr.ok x) := Lib.hid HC.out.okMsg.2.2.2.1
  have HTX0 : Hid (tx.length = n3 ∧ Row8 w p3 tx) := Lib.hid (by obtain ⟨p', n', c', e, h1, _, _, h4, _⟩ := hb; injection e with e1 e2 _; rw [e1, e2]; exact ⟨h1, h4⟩)
  have HST := Lib.hid hst
  have a0 := (B1.msg hpv hst).c0
  have HB1 := Lib.hid B1
  have HB2 := Lib.hid B2
  have HK02 := Lib.hid k02
  have HCS := Lib.hid hcs
  have HZZ : Hid (zm = w.heap.size ∧ z2 = zm + 1) := Lib.hid ⟨hzm, hz2⟩
  have hzf := yFrm
  have hbt := fun s => built_frm1 s
  have hzw := zWriter
  clear k1 k2 k02 z1 B1 B2 hcs hpv hst hh hdd hb hbl hcmd hk0 ht
  go_enter Tryz.func4, Tryz.ntmps4
  go_upto_region 1 with fail
  rw [← hW1, ← hW2, ← hzm, ← hz2]
  clear hW1 hW2 hzm hz2
  go_wp2_with fail
  refine (hcc W2).mono ?_
  rintro e w3 ⟨rfl, hb3⟩
  have HB13 := Lib.hid (HB1.out.fut hb3)
  have HB23 := Lib.hid (HB2.out.fut hb3)
  have HW3 := Lib.hid (below_fut HK02.out hb3 (Nat.le_refl _))
  have hbn := below_new w3 (.cells YFrm.toArray 37)
  clear hb3 a0 HB1 HB2 HK02 hcc
  go_upto_region 2 with (first
    | (with_reducible refine wp_build (o := ⟨some 13, _, _, _, _, _⟩) ?_ 37 #[(0, .tmp 12)] ?_ [(0, .string (strB cmd))] ?_ #[.string (strB cmd), .slice none 0 0] hbt (strB cmd) ?_
       · rfl
       · rfl
       · rfl)
    | (with_reducible refine wp_store_blk (o := ⟨none, _, _, _, _, _⟩) ?_ 37 (.tmp 4) (.tmp 13) ?_ (w3.heap.size) 37 (YFrm.toArray) (#[.string (strB cmd), .slice none 0 0]) ?_ ?_ (Blk.new w3 _ _) ?_ ?_ ?_ (w3.heap.size) (w3) ?_ ?_ ?_
       · rfl
       · rfl
       · rfl
       · rfl
       · exact ((by kernel_rfl))
       · exact (rfl)
       · exact ((by rw [List.all_toArray]; rfl))
       · exact (hbn)
       · exact (Nat.le_refl _)
       intro w4 hB4 hb4 hg4 hs4))
  try simp only [put_none]
  have HB14 := Lib.hid (HB13.out.fut hb4)
  have HB24 := Lib.hid (HB23.out.fut hb4)
  have HW4 := Lib.hid (below_fut HW3.out hb4 (Nat.le_refl _))
  have HB44 := Lib.hid hB4.out
  obtain ⟨z4, hz4⟩ : ∃ z, z = w3.heap.size := ⟨_, rfl⟩
  rw [← hz4] at HB44 ⊢
  have HZ4L : Hid (zm < z4 ∧ z2 < z4 ∧ w.heap.size ≤ z4) := Lib.hid (by rw [hz4]; exact ⟨HB13.out.lt, HB23.out.lt, HW3.out.size⟩)
  clear hbn hz4 hB4 hb4 hg4 hs4 HB13 HB23 HW3
  have c4 : w4.cell? ⟨z4, 0, none⟩ = some (.string (strB cmd)) := by have := HB44.out.cell 0; simpa using this
  have heq : (strB cmd).toList.isEmpty = false := strB_full HCM.out
  have hcl := HC.out.len
  have HCL := Lib.hid hcl
  have l1 : w4.rangeAt zm 0 cs := blk_range (by rw [HCS.out]; exact HB14.out)
  have hcc4 := msgC_keeps _ _ _ _ HC.out HW4.out
  have htoo4 := htoo w4 hcc4
  clear hcl hcc4 htoo
  go_wp2_with (first
    | (with_reducible refine wpList_load_midG (op := ⟨some 18, _, _, _, _, _⟩) ?_ 35 (.tmp 1) ?_ (zm) (0) ?_ (cs) _ (l1) Tryz.underlying35 ?_ ?_ ?_
       · rfl
       · rfl
       · rfl
       · rfl
       · exact ((info_Msg HCL.out))))
  refine htoo4.mono ?_
  rintro e wE ⟨rfl, hb5⟩
  have HMB := Lib.hid (HB14.out.fut hb5)
  have HZ2 := Lib.hid (HB24.out.fut hb5)
  have HZ4 := Lib.hid (HB44.out.fut hb5)
  have HWE := Lib.hid (below_fut HW4.out hb5 (Nat.le_refl _))
  have HMC := Lib.hid (msgC_keeps _ _ _ _ HC.out HWE.out)
  obtain ⟨gw, hgw⟩ : ∃ g, g = wE.heap.size := ⟨_, rfl⟩
  have HGE : Hid (wE.heap.size = gw) := Lib.hid hgw.symm
  have HLT : Hid (zm < gw ∧ z2 < gw ∧ z4 < gw ∧ w.heap.size ≤ z2 ∧ w.heap.size ≤ z4) := Lib.hid (by rw [hgw]; have h1 := HMB.out.lt; have h2 := HZ2.out.lt; have h3 := HZ4.out.lt; have h4 := HZZ.out; have h5 := HZ4L.out; omega)
  have hnb := below_new wE (.cells #[.slice none 0 0] 48)
  obtain ⟨w6, hw6⟩ : ∃ W, W = wE.alloc (.cells #[.slice none 0 0] 48) := ⟨_, rfl⟩
  have HW6 : Hid (WrM gw w6 (Value.slice none 0 0) []) := Lib.hid ⟨by rw [hw6, hgw]; exact Blk.new wE _ _, Own8.nil _ _⟩
  have HB6 : Hid (Below gw wE w6) := Lib.hid (by rw [hw6, hgw]; exact hnb)
  have a0 := ((HMB.out.below HB6.out HLT.out.1).msg HPV.out HST.out).c0
  have HE := Lib.hid (HEH.out.fut hashE_c HWE.out)
  have HTX : Hid (tx.length = n3 ∧ Row8 wE p3 tx) := Lib.hid ⟨HTX0.out.1, HTX0.out.2.below HWE.out (Nat.le_refl _)⟩
  have HED := Lib.hid (HDH.out.fut hdrE_c HWE.out)
  clear HEH HTX0 HDH
  clear hnb hb5 htoo4 l1 c4 HB14 HB24 HB44 HW4 HC heq hbt
  go_upto_region 5 with fail
  rw [← hw6, ← hgw]
  clear hw6 hgw hzw
  obtain ⟨a0, a1, a2, ap, aq, a67, a68, a69, ab⟩ := (HMB.out.below HB6.out HLT.out.1).msg HPV.out HST.out
  clear a0 a2 ap aq a67 a68 a69 ab
  have ec := ext32_64 nu
  go_wp2_with fail
  clear ec
  refine (wNum_any (nu.setWidth 64) 4 (by omega) gw w6 (Value.slice none 0 0) ([]) HW6.out (by have := HL0.out; omega)).mono ?_
  rintro e W17 ⟨rfl, v17, hw17, hb17⟩
  obtain ⟨q17, m17, c17, rfl, _⟩ := hw17.own.open
  have HW17 := Lib.hid hw17
  have HB17 := Lib.hid (HB6.out.trans hb17)
  clear a0 hw17 hb17 HW6 HB6 a1
  have HL18 : Hid (([] ++ low (nu.setWidth 64) 4).length ≤ 4) := Lib.hid (by rw [List.length_append, low_len]; have := HL0.out; omega)
  clear HL0
  obtain ⟨a0, a1, a2, ap, aq, a67, a68, a69, ab⟩ := (HMB.out.below HB17.out HLT.out.1).msg HPV.out HST.out
  clear a0 a1 a2 ap aq a68 a69 ab
  go_wp2_with fail
  refine (wList_any p1 n1 c1 hs none 0 0 [] gw W17 wE (Value.slice q17 m17 c17) ([] ++ low (nu.setWidth 64) 4) HW17.out (by have := HL18.out; omega) (by have := HN1.out; omega) (by decide) HB17.out (Nat.le_of_eq HGE.out) HE.out rfl (Ahead.nil _ _ _)).mono ?_
  rintro e W19 ⟨rfl, v19, hw19, hb19⟩
  obtain ⟨q19, m19, c19, rfl, _⟩ := hw19.own.open
  have HW19 := Lib.hid hw19
  have HB19 := Lib.hid (HB17.out.trans hb19)
  clear hw19 hb19 HW17 HB17 a67
  have HL20 : Hid (([] ++ low (nu.setWidth 64) 4 ++ hshB [] hs).length ≤ 100004) := Lib.hid (by rw [List.length_append]; have := HL18.out; have := HSL.out; omega)
  clear HL18
  have HSR : Hid (Row8 wE (some ⟨zm, 35, none⟩) st) := Lib.hid (hash_row (HMB.out.msg HPV.out HST.out).rs HMB.out.lt)
  have HPR : Hid (Row8 wE (some ⟨zm, 3, none⟩) pv) := Lib.hid (hash_row (HMB.out.msg HPV.out HST.out).rp HMB.out.lt)
  go_upto_region 17 with fail
  have HFx21 : Hid (WF gw wE (Value.slice q19 m19 c19) W19) := Lib.hid ⟨HW19.out.blk, HB19.out⟩
  have HOx21 := Lib.hid HW19.out.own
  clear HW19 HB19
  refine region_plan_tail [qq 0, qq 1, qq 2, qq 3, oo 4, qq 5] 6 (fun W => WF gw wE (Value.slice q19 m19 c19) W) (by kernel_rfl) (by kernel_rfl) (HFx21.out.fut (below_draws W19 1)) ?_
  refine' plan_quiet (s := 147) (A1 := _) [0, 1, 2, 3] [_, _, _, _] _ rfl rfl rfl (fun W hW => ?hq17a) _ (HFx21.out.fut (below_draws W19 1)) (fun _ => ?hr17a)
  case hq17a =>
    simp only [List.getElem_toArray, List.getElem_cons_zero, List.getElem_cons_succ]
    have c0 : ∀ k, (W.drewN k).cell? ⟨gw, 0, none⟩ = some (Value.slice q19 m19 c19) := fun k => by have := hW.blk.cell 0; simpa using this
    iterate 4 (go_big_quiet_step (fail))
    refine wpQuiet_nil ?_
    rfl
  case hr17a =>
  refine plan_one rfl fun k22 => ?_
  have hdr : Below W19.heap.size W19 (W19.drew.drewN k22) := below_drewN (Below.refl _ _).drew k22
  have HFd22 := Lib.hid (HFx21.out.fut hdr)
  have HOd22 := Lib.hid (HOx21.out.fut hdr)
  clear HFx21 HOx21 hdr
  generalize W19.drew.drewN k22 = Wd22 at *
  refine wp_append8 (o := ⟨some 57, _, _, _, _, _⟩) rfl (.tmp 54) (.tmp 56) rfl (gw + 1) _ _ rfl HOd22.out (some ⟨zm, 35, none⟩) 32 32 (st) rfl HST.out ((HSR.out.below HFd22.out.bel (Nat.le_of_eq HGE.out))) (by have := HL20.out; have := HST.out; omega) HFd22.out.size (gw + 1) Wd22 (Below.refl _ _) (Nat.le_refl _) ?_
  intro vz23 W23 ho _ hg hk
  have HF23 := Lib.hid (HFd22.out.app HOd22.out hg)
  obtain ⟨qz23, mz23, dz23, rfl, _⟩ := ho.open
  have HO23 := Lib.hid ho
  clear HFd22 HOd22 ho hg hk
  go_wp2_with fail
  refine planQ_normal (And.intro HF23.out ?_)
  refine' plan_quiet (s := 147) (A1 := _) (r := []) [5] [_] _ rfl rfl rfl (fun W hW => ?hq17b) _ HF23.out (fun _ => ?hr17b)
  case hq17b =>
    simp only [List.getElem_toArray, List.getElem_cons_zero, List.getElem_cons_succ]
    iterate 1 (go_big_quiet_step (fail))
    refine wpQuiet_nil ?_
    rfl
  case hr17b =>
  refine plan_end fun k24 => HeadQ.normal ?_
  have hdr := below_draws W23 k24
  have HFz24 := Lib.hid (HF23.out.fut hdr)
  have HOz24 := Lib.hid (HO23.out.fut hdr)
  clear HF23 HO23 hdr
  generalize W23.drewN k24 = Wz24 at *
  have fz24 := HFz24.out.blk.frozen 0
  have ez24 := HFz24.out.blk.cell 0
  simp only [List.getElem?_toArray, List.getElem?_cons_zero] at ez24
  have HWS := Lib.hid (WrM.put HFz24.out.blk HOz24.out)
  have HBS := Lib.hid (HFz24.out.bel.trans (below_poke gw Wz24 (Value.slice qz23 mz23 dz23)))
  go_upto_region 43 with fail
  have HW25 := HWS
  have HB25 := HBS
  obtain ⟨w25, hw25⟩ : ∃ W, W = Wz24.setCell ⟨gw, 0, none⟩ (Value.slice qz23 mz23 dz23) := ⟨_, rfl⟩
  rw [← hw25] at HW25 HB25 ⊢
  clear HWS HBS hw25 fz24 ez24 HFz24 HOz24
  have H4 := Lib.hid (HZ4.out.below HB25.out HLT.out.2.2.1)
  have H2 := Lib.hid (HZ2.out.below HB25.out HLT.out.2.1)
  have cg : w25.cell? ⟨gw, 0, none⟩ = some (Value.slice qz23 mz23 dz23) := by have := HW25.out.blk.cell 0; simpa using this
  have f4 := H4.out.frozen 1
  have d4 : w25.cell? ⟨z4, 1, none⟩ = some (.slice none 0 0) := by have := H4.out.cell 1; simpa using this
  have HO := Lib.hid (Own8.mono' HW25.out.own (B' := w.heap.size) (by have := HLT.out; omega))
  have HBW := Lib.hid (HWE.out.trans (HB25.out.mono (by have := HLT.out; omega)))
  go_upto_region 44 with fail
  have hst4 := Stays.set w25 z4 1 (Value.slice qz23 mz23 dz23)
  have H4b : Hid (Blk (w25.setCell ⟨z4, 1, none⟩ (Value.slice qz23 mz23 dz23)) z4 37 #[.string (strB cmd), (Value.slice qz23 mz23 dz23)]) := Lib.hid (by have := H4.out.set 1 (Value.slice qz23 mz23 dz23); simpa using this)
  have H2b := Lib.hid (H2.out.stays hst4 (by have := HZ4L.out; omega))
  have HO4 := Lib.hid (HO.out.sep hst4 (sep_one H4.out (by decide)))
  have HB4 : Hid (Below w.heap.size w (w25.setCell ⟨z4, 1, none⟩ (Value.slice qz23 mz23 dz23))) := Lib.hid (HBW.out.setCell (show w.heap.size ≤ z4 from HLT.out.2.2.2.2) _)
  clear hst4 cg f4 d4 H4 H2 HO HBW HW25 HB25
  generalize w25.setCell ⟨z4, 1, none⟩ (Value.slice qz23 mz23 dz23) = wF at *
  have l4 := blk_range (cs := [.string (strB cmd), (Value.slice qz23 mz23 dz23)]) H4b.out
  have hbr := Below.refl w.heap.size wF
  have hz2w : w.heap.size ≤ z2 := HLT.out.2.2.2.1
  go_wp2_with (first
    | (with_reducible refine wpList_load_mid (op := ⟨some 146, _, _, _, _, _⟩) ?_ 37 (.tmp 4) ?_ (z4) (0) ?_ ([.string (strB cmd), (Value.slice qz23 mz23 dz23)]) _ (l4) Tryz.underlying37 ?_ ?_ ?_
       · rfl
       · rfl
       · rfl
       · rfl
       · exact ((by kernel_rfl)))
    | (with_reducible refine wp_store_blk (o := ⟨none, _, _, _, _, _⟩) ?_ 37 (.tmp 2) (.tmp 146) ?_ (z2) 37 (YFrm.toArray) (#[.string (strB cmd), (Value.slice qz23 mz23 dz23)]) ?_ ?_ (H2b.out) ?_ ?_ ?_ (w.heap.size) (wF) ?_ ?_ ?_
       · rfl
       · rfl
       · rfl
       · rfl
       · exact ((by kernel_rfl))
       · exact (rfl)
       · exact ((by rw [List.all_toArray]; rfl))
       · exact (hbr)
       · exact (hz2w)
       intro wG hBG hbG hgG hsG))
  refine bodyPost_ret (results_cell2 rfl _ _ _ z2 _ [.string (strB cmd), (Value.slice qz23 mz23 dz23)] _ rfl hBG.out Tryz.underlying37 rfl (by kernel_rfl)) rfl ?_
  have hst := Stays.of_grown (S := fun k => k = z2) hgG.out (fun k h => by injection h with h; exact h.symm)
  rw [HMP.out]
  exact ⟨_, rfl, by have h := HO4.out.sep hst (sep_one H2b.out (by decide)); simpa only [List.nil_append, List.append_assoc, List.append_nil] using h, HB4.out.trans hbG⟩
set_option maxRecDepth 100000 in
set_option maxHeartbeats 8000000 in
theorem enc_k6 (nu : BitVec 32) (no : BitVec 64) (pv st : Bs) (hs : List Bs) (hd : List Hdr) (tx : Bs) (bl : TBlk) (cs : List Value) (w : World) (hc : MsgC w ⟨6, nu, no, pv, st, hs, hd, tx, bl⟩ cs) (ht : tooB ⟨6, nu, no, pv, st, hs, hd, tx, bl⟩ = false) :
    Calls Tryz.prog 4 #[.agg cs.toArray] w (MsgEnc w (msgP ⟨6, nu, no, pv, st, hs, hd, tx, bl⟩)) := by
  have hk0 : cmdB (6) = cmdN 6 := rfl
  obtain ⟨cmd, hcmd⟩ : ∃ c, c = cmdN 6 := ⟨_, rfl⟩
  have HCM : Hid (cmd ≠ []) := Lib.hid (by rw [hcmd]; decide)
  have HMP : Hid (msgP ⟨6, nu, no, pv, st, hs, hd, tx, bl⟩ = (cmd, (payP ⟨6, nu, no, pv, st, hs, hd, tx, bl⟩).1, 0)) := Lib.hid (by rw [hcmd]; exact msgP_ok _ (pay_good _ (show (1 : Int) ≤ 6 ∧ (6 : Int) ≤ 11 ∨ (6 : Int) = 13 by omega) ht))
  have HMP : Hid (msgP ⟨6, nu, no, pv, st, hs, hd, tx, bl⟩ = (cmd, hdsB hd, 0)) := Lib.hid (HMP.out.trans (by rw [pay_k6 ht]))
  have HHL : Hid (hd.length ≤ 100) := Lib.hid (lim_hd _ rfl ht)
  have HC := Lib.hid hc
  have htoo := fun W (h : MsgC W ⟨6, nu, no, pv, st, hs, hd, tx, bl⟩ cs) => too_any _ cs W h
  rw [ht] at htoo
  have hcc := fun W => command_any (6) W
  rw [hk0, ← hcmd] at hcc
  obtain ⟨hv, dv, bv, bc, hcs, hpv, hst, hh, hdd, hb, hbl⟩ := hc
  obtain ⟨p1, n1, c1, rfl⟩ := hh.opens
  obtain ⟨p2, n2, c2, rfl⟩ := hdd.opens
  obtain ⟨p3, n3, c3, rfl⟩ := hb.opens
  obtain ⟨zm, hzm⟩ : ∃ z, z = w.heap.size := ⟨_, rfl⟩
  obtain ⟨W1, hW1⟩ : ∃ W, W = w.alloc (.cells cs.toArray 35) := ⟨_, rfl⟩
  obtain ⟨W2, hW2⟩ : ∃ W, W = W1.alloc (.cells YFrm.toArray 37) := ⟨_, rfl⟩
  have z1 : W1.heap.size = zm + 1 := by rw [hW1, World.size_alloc, hzm]
  have k1 : Below w.heap.size w W1 := by rw [hW1]; exact below_new w _
  have k2 : Below W1.heap.size W1 W2 := by rw [hW2]; exact below_new W1 _
  have k02 := below_fut k1 k2 (Nat.le_refl _)
  obtain ⟨z2, hz2⟩ : ∃ z, z = zm + 1 := ⟨_, rfl⟩
  have B1 : Blk W2 zm 35 cs.toArray := (show Blk W1 zm _ _ by rw [hW1, hzm]; exact Blk.new w _ _).fut k2
  have B2 : Blk W2 z2 37 YFrm.toArray := by rw [hW2, hz2, ← z1]; exact Blk.new W1 _ _
  rw [hcs] at B1
  have HPV := Lib.hid hpv
  have HL0 : Hid (([] : Bs).length ≤ 0) := Lib.hid (Nat.le_refl 0)
  have HN1 : Hid (n1 = hs.length) := Lib.hid hh.slen.1.symm
  have HN3 := Lib.hid hb.slen.1
  have HEH := Lib.hid hh
  have HN2 : Hid (hd.length = n2) := Lib.hid hdd.slen.1
  have HDH := Lib.hid hdd
  have HOKS : Hid (∀ x ∈ hd, Hdr.ok x) := Lib.hid HC.out.okMsg.2.2.2.1
  have HTX0 : Hid (tx.length = n3 ∧ Row8 w p3 tx) := Lib.hid (by obtain ⟨p', n', c', e, h1, _, _, h4, _⟩ := hb; injection e with e1 e2 _; rw [e1, e2]; exact ⟨h1, h4⟩)
  have HST := Lib.hid hst
  have a0 := (B1.msg hpv hst).c0
  have HB1 := Lib.hid B1
  have HB2 := Lib.hid B2
  have HK02 := Lib.hid k02
  have HCS := Lib.hid hcs
  have HZZ : Hid (zm = w.heap.size ∧ z2 = zm + 1) := Lib.hid ⟨hzm, hz2⟩
  have hzf := yFrm
  have hbt := fun s => built_frm1 s
  have hzw := zWriter
  clear k1 k2 k02 z1 B1 B2 hcs hpv hst hh hdd hb hbl hcmd hk0 ht
  go_enter Tryz.func4, Tryz.ntmps4
  go_upto_region 1 with fail
  rw [← hW1, ← hW2, ← hzm, ← hz2]
  clear hW1 hW2 hzm hz2
  go_wp2_with fail
  refine (hcc W2).mono ?_
  rintro e w3 ⟨rfl, hb3⟩
  have HB13 := Lib.hid (HB1.out.fut hb3)
  have HB23 := Lib.hid (HB2.out.fut hb3)
  have HW3 := Lib.hid (below_fut HK02.out hb3 (Nat.le_refl _))
  have hbn := below_new w3 (.cells YFrm.toArray 37)
  clear hb3 a0 HB1 HB2 HK02 hcc
  go_upto_region 2 with (first
    | (with_reducible refine wp_build (o := ⟨some 13, _, _, _, _, _⟩) ?_ 37 #[(0, .tmp 12)] ?_ [(0, .string (strB cmd))] ?_ #[.string (strB cmd), .slice none 0 0] hbt (strB cmd) ?_
       · rfl
       · rfl
       · rfl)
    | (with_reducible refine wp_store_blk (o := ⟨none, _, _, _, _, _⟩) ?_ 37 (.tmp 4) (.tmp 13) ?_ (w3.heap.size) 37 (YFrm.toArray) (#[.string (strB cmd), .slice none 0 0]) ?_ ?_ (Blk.new w3 _ _) ?_ ?_ ?_ (w3.heap.size) (w3) ?_ ?_ ?_
       · rfl
       · rfl
       · rfl
       · rfl
       · exact ((by kernel_rfl))
       · exact (rfl)
       · exact ((by rw [List.all_toArray]; rfl))
       · exact (hbn)
       · exact (Nat.le_refl _)
       intro w4 hB4 hb4 hg4 hs4))
  try simp only [put_none]
  have HB14 := Lib.hid (HB13.out.fut hb4)
  have HB24 := Lib.hid (HB23.out.fut hb4)
  have HW4 := Lib.hid (below_fut HW3.out hb4 (Nat.le_refl _))
  have HB44 := Lib.hid hB4.out
  obtain ⟨z4, hz4⟩ : ∃ z, z = w3.heap.size := ⟨_, rfl⟩
  rw [← hz4] at HB44 ⊢
  have HZ4L : Hid (zm < z4 ∧ z2 < z4 ∧ w.heap.size ≤ z4) := Lib.hid (by rw [hz4]; exact ⟨HB13.out.lt, HB23.out.lt, HW3.out.size⟩)
  clear hbn hz4 hB4 hb4 hg4 hs4 HB13 HB23 HW3
  have c4 : w4.cell? ⟨z4, 0, none⟩ = some (.string (strB cmd)) := by have := HB44.out.cell 0; simpa using this
  have heq : (strB cmd).toList.isEmpty = false := strB_full HCM.out
  have hcl := HC.out.len
  have HCL := Lib.hid hcl
  have l1 : w4.rangeAt zm 0 cs := blk_range (by rw [HCS.out]; exact HB14.out)
  have hcc4 := msgC_keeps _ _ _ _ HC.out HW4.out
  have htoo4 := htoo w4 hcc4
  clear hcl hcc4 htoo
  go_wp2_with (first
    | (with_reducible refine wpList_load_midG (op := ⟨some 18, _, _, _, _, _⟩) ?_ 35 (.tmp 1) ?_ (zm) (0) ?_ (cs) _ (l1) Tryz.underlying35 ?_ ?_ ?_
       · rfl
       · rfl
       · rfl
       · rfl
       · exact ((info_Msg HCL.out))))
  refine htoo4.mono ?_
  rintro e wE ⟨rfl, hb5⟩
  have HMB := Lib.hid (HB14.out.fut hb5)
  have HZ2 := Lib.hid (HB24.out.fut hb5)
  have HZ4 := Lib.hid (HB44.out.fut hb5)
  have HWE := Lib.hid (below_fut HW4.out hb5 (Nat.le_refl _))
  have HMC := Lib.hid (msgC_keeps _ _ _ _ HC.out HWE.out)
  obtain ⟨gw, hgw⟩ : ∃ g, g = wE.heap.size := ⟨_, rfl⟩
  have HGE : Hid (wE.heap.size = gw) := Lib.hid hgw.symm
  have HLT : Hid (zm < gw ∧ z2 < gw ∧ z4 < gw ∧ w.heap.size ≤ z2 ∧ w.heap.size ≤ z4) := Lib.hid (by rw [hgw]; have h1 := HMB.out.lt; have h2 := HZ2.out.lt; have h3 := HZ4.out.lt; have h4 := HZZ.out; have h5 := HZ4L.out; omega)
  have hnb := below_new wE (.cells #[.slice none 0 0] 48)
  obtain ⟨w6, hw6⟩ : ∃ W, W = wE.alloc (.cells #[.slice none 0 0] 48) := ⟨_, rfl⟩
  have HW6 : Hid (WrM gw w6 (Value.slice none 0 0) []) := Lib.hid ⟨by rw [hw6, hgw]; exact Blk.new wE _ _, Own8.nil _ _⟩
  have HB6 : Hid (Below gw wE w6) := Lib.hid (by rw [hw6, hgw]; exact hnb)
  have a0 := ((HMB.out.below HB6.out HLT.out.1).msg HPV.out HST.out).c0
  have HE := Lib.hid (HEH.out.fut hashE_c HWE.out)
  have HTX : Hid (tx.length = n3 ∧ Row8 wE p3 tx) := Lib.hid ⟨HTX0.out.1, HTX0.out.2.below HWE.out (Nat.le_refl _)⟩
  have HED := Lib.hid (HDH.out.fut hdrE_c HWE.out)
  clear HEH HTX0 HDH
  clear hnb hb5 htoo4 l1 c4 HB14 HB24 HB44 HW4 HC heq hbt
  go_upto_region 5 with fail
  rw [← hw6, ← hgw]
  clear hw6 hgw hzw
  obtain ⟨a0', a1, a2, ap, aq, a67, a68, a69, ab⟩ := (HMB.out.below HB6.out HLT.out.1).msg HPV.out HST.out
  clear a1 a2 ap aq a67 a69 ab a0'
  have hiv : IntKind.u64.wrap (n2 : Int) = (n2 : Int) := by rw [IntKind.wrap_u64]; have := HN2.out; have := HHL.out; omega
  go_wp2_with fail
  refine (cntE_any n2 (by have := HN2.out; have := HHL.out; omega) w6).mono ?_
  rintro e w7 ⟨v7, rfl, ho, hb⟩
  replace ho : Own8 w7 w6.heap.size v7 (cntB n2) := ho
  obtain ⟨q7, m7, c7, rfl, _⟩ := ho.open
  have hg7 := HW6.out.blk.fut hb
  have cg : w7.cell? ⟨gw, 0, none⟩ = some (.slice none 0 0) := by have := hg7.cell 0; simpa using this
  have fg := hg7.frozen 0
  have HW7 := Lib.hid (WrM.put hg7 (Own8.mono' ho HW6.out.lt))
  have HB7 := Lib.hid ((HB6.out.trans (hb.mono (Nat.le_of_lt HW6.out.blk.lt))).trans (below_poke gw w7 (.slice q7 m7 c7)))
  clear ho hb hg7 a0 a68 HW6 HB6
  go_upto_region 20 with fail
  clear cg fg hiv HL0
  generalize w7.setCell ⟨gw, 0, none⟩ (.slice q7 m7 c7) = w7s at *
  obtain ⟨a0, a1, a2, ap, aq, a67, a68, a69, ab⟩ := (HMB.out.below HB7.out HLT.out.1).msg HPV.out HST.out
  clear a0 a1 a2 ap aq a67 a69 ab
  have HI0 : Hid (∃ v, WrM gw w7s v (cntB n2 ++ preL (fun h : Hdr => h.bytes ++ [0#8]) hd 0)) := Lib.hid ⟨_, by rw [show preL (fun h : Hdr => h.bytes ++ [0#8]) hd 0 = [] from rfl, List.append_nil]; exact HW7.out⟩
  have hzh := zeroHdr
  go_wp2_with fail
  go_loopw [70] (fun i wr => ∃ k : Nat, k ≤ n2 ∧ i = .int .i64 k ∧ Hid (∃ v, WrM gw wr v (cntB n2 ++ preL (fun h : Hdr => h.bytes ++ [0#8]) hd k)) ∧ Hid (Below gw wE wr)) (fun i _ => n2 - (intOf i).toNat)
  case atStart => exact ⟨0, by omega, rfl, HI0, HB7⟩
  case round =>
    obtain ⟨k, hk, rfl, HWk, HBk⟩ := hrel
    clear HI0 HB7 HW7
    have hn2 : n2 ≤ 100 := by have := HN2.out; have := HHL.out; omega
    by_cases hkm : k < n2
    · have hlt : (k : Int) < (n2 : Int) := by omega
      obtain ⟨bb, off, cs2, h, rfl, hx, hE, l2⟩ := HED.out.at (HBk.out.mono (Nat.le_of_eq HGE.out)) hkm
      obtain ⟨rfl, hok⟩ := hE
      have HX := Lib.hid hx
      have HOKH := Lib.hid hok
      have hone := Hdr.cells_one h
      have hsz := Hdr.cells_size hok
      have hns : noHdr.cells.toArray.size = h.cells.toArray.size := by rw [hsz]; exact Hdr.cells_size noHdr_ok
      have hbn := below_new wr (.cells noHdr.cells.toArray 30)
      have HPL : Hid ((preL (fun h : Hdr => h.bytes ++ [0#8]) hd k).length ≤ 100 * 81) := Lib.hid (preL_len _ hd k 81 100 (fun x hx => by rw [List.length_append, Hdr.bytes_len (HOKS.out x hx)]; decide) HHL.out)
      have HCL2 : Hid ((cntB n2).length ≤ 9) := Lib.hid (cntB_len n2)
      clear hx hok hsz
      go_upto_region 23 with (first
        | (with_reducible refine wpList_load_mid (op := ⟨some 73, _, _, _, _, _⟩) ?_ 30 (.tmp 72) ?_ (bb) (off + k * 68) ?_ (h.cells) _ (l2) Tryz.underlying30 ?_ ?_ ?_
           · rfl
           · rfl
           · rfl
           · rfl
           · exact (hdr_size HOKH.out))
        | (with_reducible refine wp_store_blk (o := ⟨none, _, _, _, _, _⟩) ?_ 30 (.tmp 7) (.tmp 73) ?_ (wr.heap.size) 30 (noHdr.cells.toArray) (h.cells.toArray) ?_ ?_ (Blk.new wr _ _) ?_ ?_ ?_ (wr.heap.size) (wr) ?_ ?_ ?_
           · rfl
           · rfl
           · rfl
           · rfl
           · exact (by rw [List.size_toArray]; exact hdr_size HOKH.out)
           · exact (hns)
           · exact (hone)
           · exact (hbn)
           · exact (Nat.le_refl _)
           intro w8 hB8 hb8 hg8 hs8))
      try simp only [put_none]
      obtain ⟨v0, hwk⟩ := HWk.out
      obtain ⟨z7, hz7⟩ : ∃ z, z = wr.heap.size := ⟨_, rfl⟩
      have hF00 : WF gw wE v0 w8 ∧ Blk w8 z7 30 h.cells.toArray := ⟨WF.fut ⟨hwk.blk, HBk.out⟩ hb8, by rw [hz7]; exact hB8.out⟩
      have hO00 : Own8 w8 (gw + 1) v0 (cntB n2 ++ preL (fun h : Hdr => h.bytes ++ [0#8]) hd k) := hwk.own.fut hb8
      rw [← hz7]
      obtain ⟨q3, n3x, c3x, rfl, _⟩ := hO00.open
      clear hz7 hbn hone hns hB8 hb8 hg8 hs8 hwk HWk HBk l2 hzh
      refine region_tree_tail (.qs [0, 1, 2] (.two 3 (.two 4 (.o 5 (.o 6 (.qs [7] .done))) 5 (.o 4 (.o 6 (.qs [7] .done)))) 5 (.o 3 (.o 4 (.o 6 (.qs [7] .done)))))) 8 (fun W => WF gw wE (Value.slice q3 n3x c3x) W ∧ Blk W z7 30 h.cells.toArray) (by kernel_rfl) (by kernel_rfl) ⟨hF00.1.fut (below_draws w8 1), hF00.2.fut (below_draws w8 1)⟩ ?_
      have hF0 : WF gw wE (Value.slice q3 n3x c3x) w8.drew ∧ Blk w8.drew z7 30 h.cells.toArray := ⟨hF00.1.fut (below_draws w8 1), hF00.2.fut (below_draws w8 1)⟩
      have hO0 : Own8 w8.drew (gw + 1) (Value.slice q3 n3x c3x) (cntB n2 ++ preL (fun h : Hdr => h.bytes ++ [0#8]) hd k) := hO00.fut (below_draws w8 1)
      refine' treeF_quiet (s := 147) (A1 := _) [0, 1, 2] [_, _, _] _ rfl rfl rfl (fun W hW => ?hq1) _ hF0 (fun _ => ?hr1)
      case hq1 =>
        have e0 : ∀ k, (W.drewN k).cell? ⟨gw, 0, none⟩ = some (Value.slice q3 n3x c3x) := fun k => by have := hW.1.blk.cell 0; simpa using this
        simp only [List.getElem_toArray, List.getElem_cons_zero, List.getElem_cons_succ]
        iterate 2 (go_big_quiet_step (fail))
        refine quiet_load_mid rfl 30 (.tmp 7) rfl z7 0 rfl h.cells _ (fun w hw => ?_) Tryz.underlying30 rfl (hdr_size HOKH.out) ?_
        · obtain ⟨j, rfl⟩ := hw
          exact blk_range (hW.2.fut (below_draws W j))
        simp only [put_some, List.setIfInBounds_toArray, List.set_cons_succ, List.set_cons_zero]
        refine wpQuiet_nil ?_
        rfl
      case hr1 =>
      clear hF00 hO00
      generalize w8.drew = w8 at *
      refine treeF_two rfl rfl (fun kA => ?gA) (fun kA => ?gB)
      case gA =>
        have hd27 := below_draws w8 kA
        have hF27 : WF gw wE (Value.slice q3 n3x c3x) (w8.drewN kA) ∧ Blk (w8.drewN kA) z7 30 h.cells.toArray := ⟨hF0.1.fut hd27, hF0.2.fut hd27⟩
        have hO27 := hO0.fut hd27
        clear hF0 hO0
        clear hd27
        generalize w8.drewN kA = Wt27 at *
        go_wp2_with fail
        refine (hdrEncode_any h HOKH.out Wt27).mono ?_
        rintro e Wt28 ⟨b28, rfl, hB28, hge28, hb28⟩
        have RH28x := ahead_call hO27 hF27.1.size (hdr_row hB28.out) hge28 hB28.out.lt
        have hF28 : WF gw wE (Value.slice q3 n3x c3x) Wt28 ∧ Blk Wt28 z7 30 h.cells.toArray := ⟨hF27.1.fut hb28, hF27.2.fut hb28⟩
        have hO28 := hO27.fut hb28
        clear hF27 hO27
        clear hB28 hge28 hb28
        go_wp2_with fail
        refine planQ_normal (And.intro hF28 ?_)
        refine treeF_two rfl rfl (fun kB => ?gAA) (fun kB => ?gAB)
        case gAA =>
          have hd29 := below_draws Wt28 kB
          have hF29 : WF gw wE (Value.slice q3 n3x c3x) (Wt28.drewN kB) ∧ Blk (Wt28.drewN kB) z7 30 h.cells.toArray := ⟨hF28.1.fut hd29, hF28.2.fut hd29⟩
          have hO29 := hO28.fut hd29
          have RH29 := RH28x.fut hd29
          clear hF28 hO28 RH28x
          clear hd29
          generalize Wt28.drewN kB = Wt29 at *
          refine wp_append8 (o := ⟨some 78, _, _, _, _, _⟩) rfl (.tmp 75) (.tmp 77) rfl (gw + 1) _ _ rfl hO29 (some ⟨b28, 0, none⟩) 80 80 (h.bytes) rfl (Hdr.bytes_len HOKH.out) RH29.1 (by have := HPL.out; have := HCL2.out; have := Hdr.bytes_len HOKH.out; rw [List.length_append]; omega) hF29.1.size (gw + 1) Wt29 (Below.refl _ _) (Nat.le_refl _) ?_
          intro vz30 Wt30 ho _ hg hk
          have hs30 := Stays.of_grown (S := fun k => Value.ownBlock _ = some k) hg fun k h => h
          have hF30 : WF gw wE (Value.slice q3 n3x c3x) Wt30 ∧ Blk Wt30 z7 30 h.cells.toArray := ⟨hF29.1.app hO29 hg, hF29.2.stays hs30 (own_apart hO29 hF29.2 (by decide))⟩
          obtain ⟨qz30, mz30, dz30, rfl, _⟩ := ho.open
          have hO30 := ho
          clear hF29 hO29 RH29 hg hk hs30 ho
          go_wp2_with fail
          refine planQ_normal (And.intro hF30 ?_)
          refine treeF_one rfl fun k31 => ?_
          have hd32 := below_draws Wt30 k31
          have hF32 : WF gw wE (Value.slice q3 n3x c3x) (Wt30.drewN k31) ∧ Blk (Wt30.drewN k31) z7 30 h.cells.toArray := ⟨hF30.1.fut hd32, hF30.2.fut hd32⟩
          have hO32 := hO30.fut hd32
          clear hF30 hO30
          clear hd32
          generalize Wt30.drewN k31 = Wt32 at *
          have hb33 := below_new Wt32 (.cells #[.int .u8 (iv8 0#8)] 5)
          have RL33x : Ahead gw (Wt32.alloc (.cells #[.int .u8 (iv8 0#8)] 5)) (some ⟨Wt32.heap.size, 0, none⟩) [0#8] (Value.slice qz30 mz30 dz30) := ahead_new hO32 hF32.1.size
          obtain ⟨g33, hg33⟩ : ∃ V, V = Wt32.heap.size := ⟨_, rfl⟩
          obtain ⟨Wt33, hW33⟩ : ∃ V, V = Wt32.alloc (.cells #[.int .u8 (iv8 0#8)] 5) := ⟨_, rfl⟩
          rw [← hW33] at hb33 RL33x
          rw [← hg33] at RL33x
          have HWh := Lib.hid hW33
          have HGh := Lib.hid hg33
          clear hW33 hg33
          go_wp2_with fail
          first | rw [show Wt32.alloc (.cells #[.int .u8 (iv8 0#8)] 5) = Wt33 from HWh.out.symm] | rw [show Wt32.alloc (.cells #[.int .u8 0] 5) = Wt33 from HWh.out.symm]
          rw [← HGh.out]
          clear HWh HGh
          have hF33 : WF gw wE (Value.slice q3 n3x c3x) Wt33 ∧ Blk Wt33 z7 30 h.cells.toArray := ⟨hF32.1.fut hb33, hF32.2.fut hb33⟩
          have hO33 := hO32.fut hb33
          clear hF32 hO32
          clear hb33
          refine planQ_normal (And.intro hF33 ?_)
          refine treeF_one rfl fun k34 => ?_
          have hd35 := below_draws Wt33 k34
          have hF35 : WF gw wE (Value.slice q3 n3x c3x) (Wt33.drewN k34) ∧ Blk (Wt33.drewN k34) z7 30 h.cells.toArray := ⟨hF33.1.fut hd35, hF33.2.fut hd35⟩
          have hO35 := hO33.fut hd35
          have RL35 := RL33x.fut hd35
          clear hF33 hO33 RL33x
          clear hd35
          generalize Wt33.drewN k34 = Wt35 at *
          refine wp_append8 (o := ⟨some 80, _, _, _, _, _⟩) rfl (.tmp 78) (.tmp 79) rfl (gw + 1) _ _ rfl hO35 (some ⟨g33, 0, none⟩) 1 1 ([0#8]) rfl rfl RL35.1 (by have := HPL.out; have := HCL2.out; have := Hdr.bytes_len HOKH.out; rw [List.length_append, List.length_append]; simp only [List.length_cons, List.length_nil]; omega) hF35.1.size (gw + 1) Wt35 (Below.refl _ _) (Nat.le_refl _) ?_
          intro vz36 Wt36 ho _ hg hk
          have hs36 := Stays.of_grown (S := fun k => Value.ownBlock _ = some k) hg fun k h => h
          have hF36 : WF gw wE (Value.slice q3 n3x c3x) Wt36 ∧ Blk Wt36 z7 30 h.cells.toArray := ⟨hF35.1.app hO35 hg, hF35.2.stays hs36 (own_apart hO35 hF35.2 (by decide))⟩
          obtain ⟨qz36, mz36, dz36, rfl, _⟩ := ho.open
          have hO36 := ho
          clear hF35 hO35 RL35 hg hk hs36 ho
          go_wp2_with fail
          refine planQ_normal (And.intro hF36 ?_)
          refine' treeF_quiet (s := 147) (A1 := _) [7] [_] _ rfl rfl rfl (fun W hW => ?hq37) _ hF36 (fun _ => ?hr37)
          case hq37 =>
            simp only [List.getElem_toArray, List.getElem_cons_zero, List.getElem_cons_succ]
            iterate 1 (go_big_quiet_step (fail))
            refine wpQuiet_nil ?_
            rfl
          case hr37 =>
          refine treeF_end fun k9 => HeadQ.normal ?_
          have hd39 := below_draws Wt36 k9
          have hF39 : WF gw wE (Value.slice q3 n3x c3x) (Wt36.drewN k9) ∧ Blk (Wt36.drewN k9) z7 30 h.cells.toArray := ⟨hF36.1.fut hd39, hF36.2.fut hd39⟩
          have hO39 := hO36.fut hd39
          clear hF36 hO36
          clear hd39
          generalize Wt36.drewN k9 = Wt39 at *
          have dg : Wt39.cell? ⟨gw, 0, none⟩ = some (Value.slice q3 n3x c3x) := by have := hF39.1.blk.cell 0; simpa using this
          have fg := hF39.1.blk.frozen 0
          have HWE9 := Lib.hid (WrM.put hF39.1.blk hO39)
          have HBE9 := Lib.hid (hF39.1.bel.trans (below_poke gw Wt39 (Value.slice qz36 mz36 dz36)))
          clear hF39 hO39
          go_wp2_with fail
          go_roundw
          case rel => exact ⟨k + 1, by omega, by go_num, Lib.hid ⟨_, by have hh := HWE9.out; rw [preL_succ _ hd k h HX.out, ← List.append_assoc, ← List.append_assoc]; exact hh⟩, HBE9⟩
          case measure => simp [intOf]; omega
        case gAB =>
          have hd40 := below_draws Wt28 kB
          have hF40 : WF gw wE (Value.slice q3 n3x c3x) (Wt28.drewN kB) ∧ Blk (Wt28.drewN kB) z7 30 h.cells.toArray := ⟨hF28.1.fut hd40, hF28.2.fut hd40⟩
          have hO40 := hO28.fut hd40
          have RH40 := RH28x.fut hd40
          clear hF28 hO28 RH28x
          clear hd40
          generalize Wt28.drewN kB = Wt40 at *
          have hb41 := below_new Wt40 (.cells #[.int .u8 (iv8 0#8)] 5)
          have RL41x : Ahead gw (Wt40.alloc (.cells #[.int .u8 (iv8 0#8)] 5)) (some ⟨Wt40.heap.size, 0, none⟩) [0#8] (Value.slice q3 n3x c3x) := ahead_new hO40 hF40.1.size
          obtain ⟨g41, hg41⟩ : ∃ V, V = Wt40.heap.size := ⟨_, rfl⟩
          obtain ⟨Wt41, hW41⟩ : ∃ V, V = Wt40.alloc (.cells #[.int .u8 (iv8 0#8)] 5) := ⟨_, rfl⟩
          rw [← hW41] at hb41 RL41x
          rw [← hg41] at RL41x
          have HWh := Lib.hid hW41
          have HGh := Lib.hid hg41
          clear hW41 hg41
          go_wp2_with fail
          first | rw [show Wt40.alloc (.cells #[.int .u8 (iv8 0#8)] 5) = Wt41 from HWh.out.symm] | rw [show Wt40.alloc (.cells #[.int .u8 0] 5) = Wt41 from HWh.out.symm]
          rw [← HGh.out]
          clear HWh HGh
          have hF41 : WF gw wE (Value.slice q3 n3x c3x) Wt41 ∧ Blk Wt41 z7 30 h.cells.toArray := ⟨hF40.1.fut hb41, hF40.2.fut hb41⟩
          have hO41 := hO40.fut hb41
          have RH41 := RH40.fut hb41
          clear hF40 hO40 RH40
          clear hb41
          refine planQ_normal (And.intro hF41 ?_)
          refine treeF_one rfl fun k42 => ?_
          have hd43 := below_draws Wt41 k42
          have hF43 : WF gw wE (Value.slice q3 n3x c3x) (Wt41.drewN k42) ∧ Blk (Wt41.drewN k42) z7 30 h.cells.toArray := ⟨hF41.1.fut hd43, hF41.2.fut hd43⟩
          have hO43 := hO41.fut hd43
          have RH43 := RH41.fut hd43
          have RL43 := RL41x.fut hd43
          clear hF41 hO41 RH41 RL41x
          clear hd43
          generalize Wt41.drewN k42 = Wt43 at *
          refine wp_append8 (o := ⟨some 78, _, _, _, _, _⟩) rfl (.tmp 75) (.tmp 77) rfl (gw + 1) _ _ rfl hO43 (some ⟨b28, 0, none⟩) 80 80 (h.bytes) rfl (Hdr.bytes_len HOKH.out) RH43.1 (by have := HPL.out; have := HCL2.out; have := Hdr.bytes_len HOKH.out; rw [List.length_append]; omega) hF43.1.size (gw + 1) Wt43 (Below.refl _ _) (Nat.le_refl _) ?_
          intro vz44 Wt44 ho _ hg hk
          have hs44 := Stays.of_grown (S := fun k => Value.ownBlock _ = some k) hg fun k h => h
          have hF44 : WF gw wE (Value.slice q3 n3x c3x) Wt44 ∧ Blk Wt44 z7 30 h.cells.toArray := ⟨hF43.1.app hO43 hg, hF43.2.stays hs44 (own_apart hO43 hF43.2 (by decide))⟩
          obtain ⟨qz44, mz44, dz44, rfl, _⟩ := ho.open
          have hO44 := ho
          have RL44 := RL43.app hg hk
          clear hF43 hO43 RH43 RL43 hg hk hs44 ho
          go_wp2_with fail
          refine planQ_normal (And.intro hF44 ?_)
          refine treeF_one rfl fun k45 => ?_
          have hd46 := below_draws Wt44 k45
          have hF46 : WF gw wE (Value.slice q3 n3x c3x) (Wt44.drewN k45) ∧ Blk (Wt44.drewN k45) z7 30 h.cells.toArray := ⟨hF44.1.fut hd46, hF44.2.fut hd46⟩
          have hO46 := hO44.fut hd46
          have RL46 := RL44.fut hd46
          clear hF44 hO44 RL44
          clear hd46
          generalize Wt44.drewN k45 = Wt46 at *
          refine wp_append8 (o := ⟨some 80, _, _, _, _, _⟩) rfl (.tmp 78) (.tmp 79) rfl (gw + 1) _ _ rfl hO46 (some ⟨g41, 0, none⟩) 1 1 ([0#8]) rfl rfl RL46.1 (by have := HPL.out; have := HCL2.out; have := Hdr.bytes_len HOKH.out; rw [List.length_append, List.length_append]; simp only [List.length_cons, List.length_nil]; omega) hF46.1.size (gw + 1) Wt46 (Below.refl _ _) (Nat.le_refl _) ?_
          intro vz47 Wt47 ho _ hg hk
          have hs47 := Stays.of_grown (S := fun k => Value.ownBlock _ = some k) hg fun k h => h
          have hF47 : WF gw wE (Value.slice q3 n3x c3x) Wt47 ∧ Blk Wt47 z7 30 h.cells.toArray := ⟨hF46.1.app hO46 hg, hF46.2.stays hs47 (own_apart hO46 hF46.2 (by decide))⟩
          obtain ⟨qz47, mz47, dz47, rfl, _⟩ := ho.open
          have hO47 := ho
          clear hF46 hO46 RL46 hg hk hs47 ho
          go_wp2_with fail
          refine planQ_normal (And.intro hF47 ?_)
          refine' treeF_quiet (s := 147) (A1 := _) [7] [_] _ rfl rfl rfl (fun W hW => ?hq48) _ hF47 (fun _ => ?hr48)
          case hq48 =>
            simp only [List.getElem_toArray, List.getElem_cons_zero, List.getElem_cons_succ]
            iterate 1 (go_big_quiet_step (fail))
            refine wpQuiet_nil ?_
            rfl
          case hr48 =>
          refine treeF_end fun k9 => HeadQ.normal ?_
          have hd50 := below_draws Wt47 k9
          have hF50 : WF gw wE (Value.slice q3 n3x c3x) (Wt47.drewN k9) ∧ Blk (Wt47.drewN k9) z7 30 h.cells.toArray := ⟨hF47.1.fut hd50, hF47.2.fut hd50⟩
          have hO50 := hO47.fut hd50
          clear hF47 hO47
          clear hd50
          generalize Wt47.drewN k9 = Wt50 at *
          have dg : Wt50.cell? ⟨gw, 0, none⟩ = some (Value.slice q3 n3x c3x) := by have := hF50.1.blk.cell 0; simpa using this
          have fg := hF50.1.blk.frozen 0
          have HWE9 := Lib.hid (WrM.put hF50.1.blk hO50)
          have HBE9 := Lib.hid (hF50.1.bel.trans (below_poke gw Wt50 (Value.slice qz47 mz47 dz47)))
          clear hF50 hO50
          go_wp2_with fail
          go_roundw
          case rel => exact ⟨k + 1, by omega, by go_num, Lib.hid ⟨_, by have hh := HWE9.out; rw [preL_succ _ hd k h HX.out, ← List.append_assoc, ← List.append_assoc]; exact hh⟩, HBE9⟩
          case measure => simp [intOf]; omega
      case gB =>
        have hd51 := below_draws w8 kA
        have hF51 : WF gw wE (Value.slice q3 n3x c3x) (w8.drewN kA) ∧ Blk (w8.drewN kA) z7 30 h.cells.toArray := ⟨hF0.1.fut hd51, hF0.2.fut hd51⟩
        have hO51 := hO0.fut hd51
        clear hF0 hO0
        clear hd51
        generalize w8.drewN kA = Wt51 at *
        have hb52 := below_new Wt51 (.cells #[.int .u8 (iv8 0#8)] 5)
        have RL52x : Ahead gw (Wt51.alloc (.cells #[.int .u8 (iv8 0#8)] 5)) (some ⟨Wt51.heap.size, 0, none⟩) [0#8] (Value.slice q3 n3x c3x) := ahead_new hO51 hF51.1.size
        obtain ⟨g52, hg52⟩ : ∃ V, V = Wt51.heap.size := ⟨_, rfl⟩
        obtain ⟨Wt52, hW52⟩ : ∃ V, V = Wt51.alloc (.cells #[.int .u8 (iv8 0#8)] 5) := ⟨_, rfl⟩
        rw [← hW52] at hb52 RL52x
        rw [← hg52] at RL52x
        have HWh := Lib.hid hW52
        have HGh := Lib.hid hg52
        clear hW52 hg52
        go_wp2_with fail
        first | rw [show Wt51.alloc (.cells #[.int .u8 (iv8 0#8)] 5) = Wt52 from HWh.out.symm] | rw [show Wt51.alloc (.cells #[.int .u8 0] 5) = Wt52 from HWh.out.symm]
        rw [← HGh.out]
        clear HWh HGh
        have hF52 : WF gw wE (Value.slice q3 n3x c3x) Wt52 ∧ Blk Wt52 z7 30 h.cells.toArray := ⟨hF51.1.fut hb52, hF51.2.fut hb52⟩
        have hO52 := hO51.fut hb52
        clear hF51 hO51
        clear hb52
        refine planQ_normal (And.intro hF52 ?_)
        refine treeF_one rfl fun k53 => ?_
        have hd54 := below_draws Wt52 k53
        have hF54 : WF gw wE (Value.slice q3 n3x c3x) (Wt52.drewN k53) ∧ Blk (Wt52.drewN k53) z7 30 h.cells.toArray := ⟨hF52.1.fut hd54, hF52.2.fut hd54⟩
        have hO54 := hO52.fut hd54
        have RL54 := RL52x.fut hd54
        clear hF52 hO52 RL52x
        clear hd54
        generalize Wt52.drewN k53 = Wt54 at *
        go_wp2_with fail
        refine (hdrEncode_any h HOKH.out Wt54).mono ?_
        rintro e Wt55 ⟨b55, rfl, hB55, hge55, hb55⟩
        have RH55x := ahead_call hO54 hF54.1.size (hdr_row hB55.out) hge55 hB55.out.lt
        have hF55 : WF gw wE (Value.slice q3 n3x c3x) Wt55 ∧ Blk Wt55 z7 30 h.cells.toArray := ⟨hF54.1.fut hb55, hF54.2.fut hb55⟩
        have hO55 := hO54.fut hb55
        have RL55 := RL54.fut hb55
        clear hF54 hO54 RL54
        clear hB55 hge55 hb55
        go_wp2_with fail
        refine planQ_normal (And.intro hF55 ?_)
        refine treeF_one rfl fun k56 => ?_
        have hd57 := below_draws Wt55 k56
        have hF57 : WF gw wE (Value.slice q3 n3x c3x) (Wt55.drewN k56) ∧ Blk (Wt55.drewN k56) z7 30 h.cells.toArray := ⟨hF55.1.fut hd57, hF55.2.fut hd57⟩
        have hO57 := hO55.fut hd57
        have RL57 := RL55.fut hd57
        have RH57 := RH55x.fut hd57
        clear hF55 hO55 RL55 RH55x
        clear hd57
        generalize Wt55.drewN k56 = Wt57 at *
        refine wp_append8 (o := ⟨some 78, _, _, _, _, _⟩) rfl (.tmp 75) (.tmp 77) rfl (gw + 1) _ _ rfl hO57 (some ⟨b55, 0, none⟩) 80 80 (h.bytes) rfl (Hdr.bytes_len HOKH.out) RH57.1 (by have := HPL.out; have := HCL2.out; have := Hdr.bytes_len HOKH.out; rw [List.length_append]; omega) hF57.1.size (gw + 1) Wt57 (Below.refl _ _) (Nat.le_refl _) ?_
        intro vz58 Wt58 ho _ hg hk
        have hs58 := Stays.of_grown (S := fun k => Value.ownBlock _ = some k) hg fun k h => h
        have hF58 : WF gw wE (Value.slice q3 n3x c3x) Wt58 ∧ Blk Wt58 z7 30 h.cells.toArray := ⟨hF57.1.app hO57 hg, hF57.2.stays hs58 (own_apart hO57 hF57.2 (by decide))⟩
        obtain ⟨qz58, mz58, dz58, rfl, _⟩ := ho.open
        have hO58 := ho
        have RL58 := RL57.app hg hk
        clear hF57 hO57 RH57 RL57 hg hk hs58 ho
        go_wp2_with fail
        refine planQ_normal (And.intro hF58 ?_)
        refine treeF_one rfl fun k59 => ?_
        have hd60 := below_draws Wt58 k59
        have hF60 : WF gw wE (Value.slice q3 n3x c3x) (Wt58.drewN k59) ∧ Blk (Wt58.drewN k59) z7 30 h.cells.toArray := ⟨hF58.1.fut hd60, hF58.2.fut hd60⟩
        have hO60 := hO58.fut hd60
        have RL60 := RL58.fut hd60
        clear hF58 hO58 RL58
        clear hd60
        generalize Wt58.drewN k59 = Wt60 at *
        refine wp_append8 (o := ⟨some 80, _, _, _, _, _⟩) rfl (.tmp 78) (.tmp 79) rfl (gw + 1) _ _ rfl hO60 (some ⟨g52, 0, none⟩) 1 1 ([0#8]) rfl rfl RL60.1 (by have := HPL.out; have := HCL2.out; have := Hdr.bytes_len HOKH.out; rw [List.length_append, List.length_append]; simp only [List.length_cons, List.length_nil]; omega) hF60.1.size (gw + 1) Wt60 (Below.refl _ _) (Nat.le_refl _) ?_
        intro vz61 Wt61 ho _ hg hk
        have hs61 := Stays.of_grown (S := fun k => Value.ownBlock _ = some k) hg fun k h => h
        have hF61 : WF gw wE (Value.slice q3 n3x c3x) Wt61 ∧ Blk Wt61 z7 30 h.cells.toArray := ⟨hF60.1.app hO60 hg, hF60.2.stays hs61 (own_apart hO60 hF60.2 (by decide))⟩
        obtain ⟨qz61, mz61, dz61, rfl, _⟩ := ho.open
        have hO61 := ho
        clear hF60 hO60 RL60 hg hk hs61 ho
        go_wp2_with fail
        refine planQ_normal (And.intro hF61 ?_)
        refine' treeF_quiet (s := 147) (A1 := _) [7] [_] _ rfl rfl rfl (fun W hW => ?hq62) _ hF61 (fun _ => ?hr62)
        case hq62 =>
          simp only [List.getElem_toArray, List.getElem_cons_zero, List.getElem_cons_succ]
          iterate 1 (go_big_quiet_step (fail))
          refine wpQuiet_nil ?_
          rfl
        case hr62 =>
        refine treeF_end fun k9 => HeadQ.normal ?_
        have hd64 := below_draws Wt61 k9
        have hF64 : WF gw wE (Value.slice q3 n3x c3x) (Wt61.drewN k9) ∧ Blk (Wt61.drewN k9) z7 30 h.cells.toArray := ⟨hF61.1.fut hd64, hF61.2.fut hd64⟩
        have hO64 := hO61.fut hd64
        clear hF61 hO61
        clear hd64
        generalize Wt61.drewN k9 = Wt64 at *
        have dg : Wt64.cell? ⟨gw, 0, none⟩ = some (Value.slice q3 n3x c3x) := by have := hF64.1.blk.cell 0; simpa using this
        have fg := hF64.1.blk.frozen 0
        have HWE9 := Lib.hid (WrM.put hF64.1.blk hO64)
        have HBE9 := Lib.hid (hF64.1.bel.trans (below_poke gw Wt64 (Value.slice qz61 mz61 dz61)))
        clear hF64 hO64
        go_wp2_with fail
        go_roundw
        case rel => exact ⟨k + 1, by omega, by go_num, Lib.hid ⟨_, by have hh := HWE9.out; rw [preL_succ _ hd k h HX.out, ← List.append_assoc, ← List.append_assoc]; exact hh⟩, HBE9⟩
        case measure => simp [intOf]; omega
    · obtain rfl : k = n2 := by omega
      have hge : ¬ (k : Int) < (k : Int) := by omega
      obtain ⟨v1, hw1⟩ := HWk.out
      obtain ⟨q1, m1, c1', rfl, _⟩ := hw1.own.open
      have HW9 : Hid (WrM gw wr (Value.slice q1 m1 c1') (cntB k ++ (hd.map fun h => h.bytes ++ [0#8]).flatten)) := Lib.hid (by rw [← preL_all (fun h : Hdr => h.bytes ++ [0#8]) hd k (by have := HN2.out; omega)]; exact hw1)
      have HMP2 : Hid (msgP ⟨6, nu, no, pv, st, hs, hd, tx, bl⟩ = (cmd, cntB k ++ (hd.map fun h => h.bytes ++ [0#8]).flatten, 0)) := Lib.hid (by rw [HMP.out]; unfold hdsB; rw [HN2.out])
      clear HMP hw1 HWk a68 hzh
      go_upto_region 43 with fail
      have H4 := Lib.hid (HZ4.out.below HBk.out HLT.out.2.2.1)
      have H2 := Lib.hid (HZ2.out.below HBk.out HLT.out.2.1)
      have cg : wr.cell? ⟨gw, 0, none⟩ = some (Value.slice q1 m1 c1') := by have := HW9.out.blk.cell 0; simpa using this
      have f4 := H4.out.frozen 1
      have d4 : wr.cell? ⟨z4, 1, none⟩ = some (.slice none 0 0) := by have := H4.out.cell 1; simpa using this
      have HO := Lib.hid (Own8.mono' HW9.out.own (B' := w.heap.size) (by have := HLT.out; omega))
      have HBW := Lib.hid (HWE.out.trans (HBk.out.mono (by have := HLT.out; omega)))
      go_upto_region 44 with fail
      have hst4 := Stays.set wr z4 1 (Value.slice q1 m1 c1')
      have H4b : Hid (Blk (wr.setCell ⟨z4, 1, none⟩ (Value.slice q1 m1 c1')) z4 37 #[.string (strB cmd), (Value.slice q1 m1 c1')]) := Lib.hid (by have := H4.out.set 1 (Value.slice q1 m1 c1'); simpa using this)
      have H2b := Lib.hid (H2.out.stays hst4 (by have := HZ4L.out; omega))
      have HO4 := Lib.hid (HO.out.sep hst4 (sep_one H4.out (by decide)))
      have HB4 : Hid (Below w.heap.size w (wr.setCell ⟨z4, 1, none⟩ (Value.slice q1 m1 c1'))) := Lib.hid (HBW.out.setCell (show w.heap.size ≤ z4 from HLT.out.2.2.2.2) _)
      clear hst4 cg f4 d4 H4 H2 HO HBW HW9 HBk
      generalize wr.setCell ⟨z4, 1, none⟩ (Value.slice q1 m1 c1') = wF at *
      have l4 := blk_range (cs := [.string (strB cmd), (Value.slice q1 m1 c1')]) H4b.out
      have hbr := Below.refl w.heap.size wF
      have hz2w : w.heap.size ≤ z2 := HLT.out.2.2.2.1
      go_wp2_with (first
        | (with_reducible refine wpList_load_mid (op := ⟨some 146, _, _, _, _, _⟩) ?_ 37 (.tmp 4) ?_ (z4) (0) ?_ ([.string (strB cmd), (Value.slice q1 m1 c1')]) _ (l4) Tryz.underlying37 ?_ ?_ ?_
           · rfl
           · rfl
           · rfl
           · rfl
           · exact ((by kernel_rfl)))
        | (with_reducible refine wp_store_blk (o := ⟨none, _, _, _, _, _⟩) ?_ 37 (.tmp 2) (.tmp 146) ?_ (z2) 37 (YFrm.toArray) (#[.string (strB cmd), (Value.slice q1 m1 c1')]) ?_ ?_ (H2b.out) ?_ ?_ ?_ (w.heap.size) (wF) ?_ ?_ ?_
           · rfl
           · rfl
           · rfl
           · rfl
           · exact ((by kernel_rfl))
           · exact (rfl)
           · exact ((by rw [List.all_toArray]; rfl))
           · exact (hbr)
           · exact (hz2w)
           intro wG hBG hbG hgG hsG))
      refine bodyPost_ret (results_cell2 rfl _ _ _ z2 _ [.string (strB cmd), (Value.slice q1 m1 c1')] _ rfl hBG.out Tryz.underlying37 rfl (by kernel_rfl)) rfl ?_
      have hst := Stays.of_grown (S := fun k => k = z2) hgG.out (fun k h => by injection h with h; exact h.symm)
      rw [HMP2.out]
      exact ⟨_, rfl, by have h := HO4.out.sep hst (sep_one H2b.out (by decide)); simpa only [List.nil_append, List.append_assoc, List.append_nil] using h, HB4.out.trans hbG⟩
set_option maxRecDepth 100000 in
set_option maxHeartbeats 8000000 in
theorem enc_k7 (nu : BitVec 32) (no : BitVec 64) (pv st : Bs) (hs : List Bs) (hd : List Hdr) (tx : Bs) (bl : TBlk) (cs : List Value) (w : World) (hc : MsgC w ⟨7, nu, no, pv, st, hs, hd, tx, bl⟩ cs) (ht : tooB ⟨7, nu, no, pv, st, hs, hd, tx, bl⟩ = false) :
    Calls Tryz.prog 4 #[.agg cs.toArray] w (MsgEnc w (msgP ⟨7, nu, no, pv, st, hs, hd, tx, bl⟩)) := by
  have hk0 : cmdB (7) = cmdN 7 := rfl
  obtain ⟨cmd, hcmd⟩ : ∃ c, c = cmdN 7 := ⟨_, rfl⟩
  have HCM : Hid (cmd ≠ []) := Lib.hid (by rw [hcmd]; decide)
  have HMP : Hid (msgP ⟨7, nu, no, pv, st, hs, hd, tx, bl⟩ = (cmd, (payP ⟨7, nu, no, pv, st, hs, hd, tx, bl⟩).1, 0)) := Lib.hid (by rw [hcmd]; exact msgP_ok _ (pay_good _ (show (1 : Int) ≤ 7 ∧ (7 : Int) ≤ 11 ∨ (7 : Int) = 13 by omega) ht))
  have HMP : Hid (msgP ⟨7, nu, no, pv, st, hs, hd, tx, bl⟩ = (cmd, [0#8] ++ (low (nu.setWidth 64) 4 ++ st), 0)) := HMP
  have HC := Lib.hid hc
  have htoo := fun W (h : MsgC W ⟨7, nu, no, pv, st, hs, hd, tx, bl⟩ cs) => too_any _ cs W h
  rw [ht] at htoo
  have hcc := fun W => command_any (7) W
  rw [hk0, ← hcmd] at hcc
  obtain ⟨hv, dv, bv, bc, hcs, hpv, hst, hh, hdd, hb, hbl⟩ := hc
  obtain ⟨p1, n1, c1, rfl⟩ := hh.opens
  obtain ⟨p2, n2, c2, rfl⟩ := hdd.opens
  obtain ⟨p3, n3, c3, rfl⟩ := hb.opens
  obtain ⟨zm, hzm⟩ : ∃ z, z = w.heap.size := ⟨_, rfl⟩
  obtain ⟨W1, hW1⟩ : ∃ W, W = w.alloc (.cells cs.toArray 35) := ⟨_, rfl⟩
  obtain ⟨W2, hW2⟩ : ∃ W, W = W1.alloc (.cells YFrm.toArray 37) := ⟨_, rfl⟩
  have z1 : W1.heap.size = zm + 1 := by rw [hW1, World.size_alloc, hzm]
  have k1 : Below w.heap.size w W1 := by rw [hW1]; exact below_new w _
  have k2 : Below W1.heap.size W1 W2 := by rw [hW2]; exact below_new W1 _
  have k02 := below_fut k1 k2 (Nat.le_refl _)
  obtain ⟨z2, hz2⟩ : ∃ z, z = zm + 1 := ⟨_, rfl⟩
  have B1 : Blk W2 zm 35 cs.toArray := (show Blk W1 zm _ _ by rw [hW1, hzm]; exact Blk.new w _ _).fut k2
  have B2 : Blk W2 z2 37 YFrm.toArray := by rw [hW2, hz2, ← z1]; exact Blk.new W1 _ _
  rw [hcs] at B1
  have HPV := Lib.hid hpv
  have HL0 : Hid (([] : Bs).length ≤ 0) := Lib.hid (Nat.le_refl 0)
  have HN1 : Hid (n1 = hs.length) := Lib.hid hh.slen.1.symm
  have HN3 := Lib.hid hb.slen.1
  have HEH := Lib.hid hh
  have HN2 : Hid (hd.length = n2) := Lib.hid hdd.slen.1
  have HDH := Lib.hid hdd
  have HOKS : Hid (∀ x ∈ hd, Hdr.ok x) := Lib.hid HC.out.okMsg.2.2.2.1
  have HTX0 : Hid (tx.length = n3 ∧ Row8 w p3 tx) := Lib.hid (by obtain ⟨p', n', c', e, h1, _, _, h4, _⟩ := hb; injection e with e1 e2 _; rw [e1, e2]; exact ⟨h1, h4⟩)
  have HST := Lib.hid hst
  have a0 := (B1.msg hpv hst).c0
  have HB1 := Lib.hid B1
  have HB2 := Lib.hid B2
  have HK02 := Lib.hid k02
  have HCS := Lib.hid hcs
  have HZZ : Hid (zm = w.heap.size ∧ z2 = zm + 1) := Lib.hid ⟨hzm, hz2⟩
  have hzf := yFrm
  have hbt := fun s => built_frm1 s
  have hzw := zWriter
  clear k1 k2 k02 z1 B1 B2 hcs hpv hst hh hdd hb hbl hcmd hk0 ht
  go_enter Tryz.func4, Tryz.ntmps4
  go_upto_region 1 with fail
  rw [← hW1, ← hW2, ← hzm, ← hz2]
  clear hW1 hW2 hzm hz2
  go_wp2_with fail
  refine (hcc W2).mono ?_
  rintro e w3 ⟨rfl, hb3⟩
  have HB13 := Lib.hid (HB1.out.fut hb3)
  have HB23 := Lib.hid (HB2.out.fut hb3)
  have HW3 := Lib.hid (below_fut HK02.out hb3 (Nat.le_refl _))
  have hbn := below_new w3 (.cells YFrm.toArray 37)
  clear hb3 a0 HB1 HB2 HK02 hcc
  go_upto_region 2 with (first
    | (with_reducible refine wp_build (o := ⟨some 13, _, _, _, _, _⟩) ?_ 37 #[(0, .tmp 12)] ?_ [(0, .string (strB cmd))] ?_ #[.string (strB cmd), .slice none 0 0] hbt (strB cmd) ?_
       · rfl
       · rfl
       · rfl)
    | (with_reducible refine wp_store_blk (o := ⟨none, _, _, _, _, _⟩) ?_ 37 (.tmp 4) (.tmp 13) ?_ (w3.heap.size) 37 (YFrm.toArray) (#[.string (strB cmd), .slice none 0 0]) ?_ ?_ (Blk.new w3 _ _) ?_ ?_ ?_ (w3.heap.size) (w3) ?_ ?_ ?_
       · rfl
       · rfl
       · rfl
       · rfl
       · exact ((by kernel_rfl))
       · exact (rfl)
       · exact ((by rw [List.all_toArray]; rfl))
       · exact (hbn)
       · exact (Nat.le_refl _)
       intro w4 hB4 hb4 hg4 hs4))
  try simp only [put_none]
  have HB14 := Lib.hid (HB13.out.fut hb4)
  have HB24 := Lib.hid (HB23.out.fut hb4)
  have HW4 := Lib.hid (below_fut HW3.out hb4 (Nat.le_refl _))
  have HB44 := Lib.hid hB4.out
  obtain ⟨z4, hz4⟩ : ∃ z, z = w3.heap.size := ⟨_, rfl⟩
  rw [← hz4] at HB44 ⊢
  have HZ4L : Hid (zm < z4 ∧ z2 < z4 ∧ w.heap.size ≤ z4) := Lib.hid (by rw [hz4]; exact ⟨HB13.out.lt, HB23.out.lt, HW3.out.size⟩)
  clear hbn hz4 hB4 hb4 hg4 hs4 HB13 HB23 HW3
  have c4 : w4.cell? ⟨z4, 0, none⟩ = some (.string (strB cmd)) := by have := HB44.out.cell 0; simpa using this
  have heq : (strB cmd).toList.isEmpty = false := strB_full HCM.out
  have hcl := HC.out.len
  have HCL := Lib.hid hcl
  have l1 : w4.rangeAt zm 0 cs := blk_range (by rw [HCS.out]; exact HB14.out)
  have hcc4 := msgC_keeps _ _ _ _ HC.out HW4.out
  have htoo4 := htoo w4 hcc4
  clear hcl hcc4 htoo
  go_wp2_with (first
    | (with_reducible refine wpList_load_midG (op := ⟨some 18, _, _, _, _, _⟩) ?_ 35 (.tmp 1) ?_ (zm) (0) ?_ (cs) _ (l1) Tryz.underlying35 ?_ ?_ ?_
       · rfl
       · rfl
       · rfl
       · rfl
       · exact ((info_Msg HCL.out))))
  refine htoo4.mono ?_
  rintro e wE ⟨rfl, hb5⟩
  have HMB := Lib.hid (HB14.out.fut hb5)
  have HZ2 := Lib.hid (HB24.out.fut hb5)
  have HZ4 := Lib.hid (HB44.out.fut hb5)
  have HWE := Lib.hid (below_fut HW4.out hb5 (Nat.le_refl _))
  have HMC := Lib.hid (msgC_keeps _ _ _ _ HC.out HWE.out)
  obtain ⟨gw, hgw⟩ : ∃ g, g = wE.heap.size := ⟨_, rfl⟩
  have HGE : Hid (wE.heap.size = gw) := Lib.hid hgw.symm
  have HLT : Hid (zm < gw ∧ z2 < gw ∧ z4 < gw ∧ w.heap.size ≤ z2 ∧ w.heap.size ≤ z4) := Lib.hid (by rw [hgw]; have h1 := HMB.out.lt; have h2 := HZ2.out.lt; have h3 := HZ4.out.lt; have h4 := HZZ.out; have h5 := HZ4L.out; omega)
  have hnb := below_new wE (.cells #[.slice none 0 0] 48)
  obtain ⟨w6, hw6⟩ : ∃ W, W = wE.alloc (.cells #[.slice none 0 0] 48) := ⟨_, rfl⟩
  have HW6 : Hid (WrM gw w6 (Value.slice none 0 0) []) := Lib.hid ⟨by rw [hw6, hgw]; exact Blk.new wE _ _, Own8.nil _ _⟩
  have HB6 : Hid (Below gw wE w6) := Lib.hid (by rw [hw6, hgw]; exact hnb)
  have a0 := ((HMB.out.below HB6.out HLT.out.1).msg HPV.out HST.out).c0
  have HE := Lib.hid (HEH.out.fut hashE_c HWE.out)
  have HTX : Hid (tx.length = n3 ∧ Row8 wE p3 tx) := Lib.hid ⟨HTX0.out.1, HTX0.out.2.below HWE.out (Nat.le_refl _)⟩
  have HED := Lib.hid (HDH.out.fut hdrE_c HWE.out)
  clear HEH HTX0 HDH
  clear hnb hb5 htoo4 l1 c4 HB14 HB24 HB44 HW4 HC heq hbt
  go_upto_region 5 with fail
  rw [← hw6, ← hgw]
  clear hw6 hgw hzw
  go_upto_region 27 with fail
  clear a0
  have cg : w6.cell? ⟨gw, 0, none⟩ = some (Value.slice none 0 0) := by have := HW6.out.blk.cell 0; simpa using this
  have fg := HW6.out.blk.frozen 0
  have hnb := below_new w6 (.cells #[.int .u8 (iv8 0#8)] 5)
  have hol := own_lit w6 (gw + 1) 1 [0#8] HW6.out.lt rfl (by unfold maxLen; omega)
  obtain ⟨V66, hV66⟩ : ∃ V, V = w6.alloc (.cells #[.int .u8 (iv8 0#8)] 5) := ⟨_, rfl⟩
  obtain ⟨g66, hg66⟩ : ∃ V, V = w6.heap.size := ⟨_, rfl⟩
  have HO66 : Hid (Own8 V66 (gw + 1) (.slice (some ⟨g66, 0, none⟩) 1 1) [0#8]) := Lib.hid (by rw [hV66, hg66]; exact hol)
  have HG66 : Hid (Blk V66 gw 48 #[(Value.slice none 0 0)]) := Lib.hid (by rw [hV66]; exact HW6.out.blk.fut hnb)
  have HC66 : Hid (Below gw wE V66) := Lib.hid (by rw [hV66]; exact HB6.out.trans (hnb.mono (by have := HW6.out.lt; omega)))
  have cg2 : V66.cell? ⟨gw, 0, none⟩ = some (Value.slice none 0 0) := by have := HG66.out.cell 0; simpa using this
  have fg2 := HG66.out.frozen 0
  have hV2 : w6.alloc (.cells #[.int .u8 0] 5) = V66 := hV66.symm
  have hg2 : w6.heap.size = g66 := hg66.symm
  clear hnb hol hV66 hg66 cg fg
  go_upto_region 28 with fail
  have HW66b := Lib.hid (WrM.put HG66.out HO66.out)
  have HB66b := Lib.hid (HC66.out.trans (below_poke gw V66 (.slice (some ⟨g66, 0, none⟩) 1 1)))
  clear cg2 fg2 hV2 hg2 HO66 HG66 HC66 HW6 HB6
  generalize V66.setCell ⟨gw, 0, none⟩ (.slice (some ⟨g66, 0, none⟩) 1 1) = W66 at *
  have HL1 : Hid (([0#8] : Bs).length ≤ 1) := Lib.hid (by decide)
  clear HL0
  obtain ⟨a0, a1, a2, ap, aq, a67, a68, a69, ab⟩ := (HMB.out.below HB66b.out HLT.out.1).msg HPV.out HST.out
  clear a0 a2 ap aq a67 a68 a69 ab
  have ec := ext32_64 nu
  go_wp2_with fail
  clear ec
  refine (wNum_any (nu.setWidth 64) 4 (by omega) gw W66 (Value.slice (some ⟨g66, 0, none⟩) 1 1) ([0#8]) HW66b.out (by have := HL1.out; omega)).mono ?_
  rintro e W67 ⟨rfl, v67, hw67, hb67⟩
  obtain ⟨q67, m67, c67, rfl, _⟩ := hw67.own.open
  have HW67 := Lib.hid hw67
  have HB67 := Lib.hid (HB66b.out.trans hb67)
  clear hw67 hb67 HW66b HB66b a1
  have HL68 : Hid (([0#8] ++ low (nu.setWidth 64) 4).length ≤ 5) := Lib.hid (by rw [List.length_append, low_len]; have := HL1.out; omega)
  clear HL1
  have HSR : Hid (Row8 wE (some ⟨zm, 35, none⟩) st) := Lib.hid (hash_row (HMB.out.msg HPV.out HST.out).rs HMB.out.lt)
  have HPR : Hid (Row8 wE (some ⟨zm, 3, none⟩) pv) := Lib.hid (hash_row (HMB.out.msg HPV.out HST.out).rp HMB.out.lt)
  go_upto_region 29 with fail
  have HFx69 : Hid (WF gw wE (Value.slice q67 m67 c67) W67) := Lib.hid ⟨HW67.out.blk, HB67.out⟩
  have HOx69 := Lib.hid HW67.out.own
  clear HW67 HB67
  refine region_plan_tail [qq 0, qq 1, qq 2, qq 3, oo 4, qq 5] 6 (fun W => WF gw wE (Value.slice q67 m67 c67) W) (by kernel_rfl) (by kernel_rfl) (HFx69.out.fut (below_draws W67 1)) ?_
  refine' plan_quiet (s := 147) (A1 := _) [0, 1, 2, 3] [_, _, _, _] _ rfl rfl rfl (fun W hW => ?hq29a) _ (HFx69.out.fut (below_draws W67 1)) (fun _ => ?hr29a)
  case hq29a =>
    simp only [List.getElem_toArray, List.getElem_cons_zero, List.getElem_cons_succ]
    have c0 : ∀ k, (W.drewN k).cell? ⟨gw, 0, none⟩ = some (Value.slice q67 m67 c67) := fun k => by have := hW.blk.cell 0; simpa using this
    iterate 4 (go_big_quiet_step (fail))
    refine wpQuiet_nil ?_
    rfl
  case hr29a =>
  refine plan_one rfl fun k70 => ?_
  have hdr : Below W67.heap.size W67 (W67.drew.drewN k70) := below_drewN (Below.refl _ _).drew k70
  have HFd70 := Lib.hid (HFx69.out.fut hdr)
  have HOd70 := Lib.hid (HOx69.out.fut hdr)
  clear HFx69 HOx69 hdr
  generalize W67.drew.drewN k70 = Wd70 at *
  refine wp_append8 (o := ⟨some 96, _, _, _, _, _⟩) rfl (.tmp 93) (.tmp 95) rfl (gw + 1) _ _ rfl HOd70.out (some ⟨zm, 35, none⟩) 32 32 (st) rfl HST.out ((HSR.out.below HFd70.out.bel (Nat.le_of_eq HGE.out))) (by have := HL68.out; have := HST.out; omega) HFd70.out.size (gw + 1) Wd70 (Below.refl _ _) (Nat.le_refl _) ?_
  intro vz71 W71 ho _ hg hk
  have HF71 := Lib.hid (HFd70.out.app HOd70.out hg)
  obtain ⟨qz71, mz71, dz71, rfl, _⟩ := ho.open
  have HO71 := Lib.hid ho
  clear HFd70 HOd70 ho hg hk
  go_wp2_with fail
  refine planQ_normal (And.intro HF71.out ?_)
  refine' plan_quiet (s := 147) (A1 := _) (r := []) [5] [_] _ rfl rfl rfl (fun W hW => ?hq29b) _ HF71.out (fun _ => ?hr29b)
  case hq29b =>
    simp only [List.getElem_toArray, List.getElem_cons_zero, List.getElem_cons_succ]
    iterate 1 (go_big_quiet_step (fail))
    refine wpQuiet_nil ?_
    rfl
  case hr29b =>
  refine plan_end fun k72 => HeadQ.normal ?_
  have hdr := below_draws W71 k72
  have HFz72 := Lib.hid (HF71.out.fut hdr)
  have HOz72 := Lib.hid (HO71.out.fut hdr)
  clear HF71 HO71 hdr
  generalize W71.drewN k72 = Wz72 at *
  have fz72 := HFz72.out.blk.frozen 0
  have ez72 := HFz72.out.blk.cell 0
  simp only [List.getElem?_toArray, List.getElem?_cons_zero] at ez72
  have HWS := Lib.hid (WrM.put HFz72.out.blk HOz72.out)
  have HBS := Lib.hid (HFz72.out.bel.trans (below_poke gw Wz72 (Value.slice qz71 mz71 dz71)))
  go_upto_region 43 with fail
  have HW73 := HWS
  have HB73 := HBS
  obtain ⟨w73, hw73⟩ : ∃ W, W = Wz72.setCell ⟨gw, 0, none⟩ (Value.slice qz71 mz71 dz71) := ⟨_, rfl⟩
  rw [← hw73] at HW73 HB73 ⊢
  clear HWS HBS hw73 fz72 ez72 HFz72 HOz72
  have H4 := Lib.hid (HZ4.out.below HB73.out HLT.out.2.2.1)
  have H2 := Lib.hid (HZ2.out.below HB73.out HLT.out.2.1)
  have cg : w73.cell? ⟨gw, 0, none⟩ = some (Value.slice qz71 mz71 dz71) := by have := HW73.out.blk.cell 0; simpa using this
  have f4 := H4.out.frozen 1
  have d4 : w73.cell? ⟨z4, 1, none⟩ = some (.slice none 0 0) := by have := H4.out.cell 1; simpa using this
  have HO := Lib.hid (Own8.mono' HW73.out.own (B' := w.heap.size) (by have := HLT.out; omega))
  have HBW := Lib.hid (HWE.out.trans (HB73.out.mono (by have := HLT.out; omega)))
  go_upto_region 44 with fail
  have hst4 := Stays.set w73 z4 1 (Value.slice qz71 mz71 dz71)
  have H4b : Hid (Blk (w73.setCell ⟨z4, 1, none⟩ (Value.slice qz71 mz71 dz71)) z4 37 #[.string (strB cmd), (Value.slice qz71 mz71 dz71)]) := Lib.hid (by have := H4.out.set 1 (Value.slice qz71 mz71 dz71); simpa using this)
  have H2b := Lib.hid (H2.out.stays hst4 (by have := HZ4L.out; omega))
  have HO4 := Lib.hid (HO.out.sep hst4 (sep_one H4.out (by decide)))
  have HB4 : Hid (Below w.heap.size w (w73.setCell ⟨z4, 1, none⟩ (Value.slice qz71 mz71 dz71))) := Lib.hid (HBW.out.setCell (show w.heap.size ≤ z4 from HLT.out.2.2.2.2) _)
  clear hst4 cg f4 d4 H4 H2 HO HBW HW73 HB73
  generalize w73.setCell ⟨z4, 1, none⟩ (Value.slice qz71 mz71 dz71) = wF at *
  have l4 := blk_range (cs := [.string (strB cmd), (Value.slice qz71 mz71 dz71)]) H4b.out
  have hbr := Below.refl w.heap.size wF
  have hz2w : w.heap.size ≤ z2 := HLT.out.2.2.2.1
  go_wp2_with (first
    | (with_reducible refine wpList_load_mid (op := ⟨some 146, _, _, _, _, _⟩) ?_ 37 (.tmp 4) ?_ (z4) (0) ?_ ([.string (strB cmd), (Value.slice qz71 mz71 dz71)]) _ (l4) Tryz.underlying37 ?_ ?_ ?_
       · rfl
       · rfl
       · rfl
       · rfl
       · exact ((by kernel_rfl)))
    | (with_reducible refine wp_store_blk (o := ⟨none, _, _, _, _, _⟩) ?_ 37 (.tmp 2) (.tmp 146) ?_ (z2) 37 (YFrm.toArray) (#[.string (strB cmd), (Value.slice qz71 mz71 dz71)]) ?_ ?_ (H2b.out) ?_ ?_ ?_ (w.heap.size) (wF) ?_ ?_ ?_
       · rfl
       · rfl
       · rfl
       · rfl
       · exact ((by kernel_rfl))
       · exact (rfl)
       · exact ((by rw [List.all_toArray]; rfl))
       · exact (hbr)
       · exact (hz2w)
       intro wG hBG hbG hgG hsG))
  refine bodyPost_ret (results_cell2 rfl _ _ _ z2 _ [.string (strB cmd), (Value.slice qz71 mz71 dz71)] _ rfl hBG.out Tryz.underlying37 rfl (by kernel_rfl)) rfl ?_
  have hst := Stays.of_grown (S := fun k => k = z2) hgG.out (fun k h => by injection h with h; exact h.symm)
  rw [HMP.out]
  exact ⟨_, rfl, by have h := HO4.out.sep hst (sep_one H2b.out (by decide)); simpa only [List.nil_append, List.append_assoc, List.append_nil] using h, HB4.out.trans hbG⟩
set_option maxRecDepth 100000 in
set_option maxHeartbeats 8000000 in
theorem enc_k9 (nu : BitVec 32) (no : BitVec 64) (pv st : Bs) (hs : List Bs) (hd : List Hdr) (tx : Bs) (bl : TBlk) (cs : List Value) (w : World) (hc : MsgC w ⟨9, nu, no, pv, st, hs, hd, tx, bl⟩ cs) (ht : tooB ⟨9, nu, no, pv, st, hs, hd, tx, bl⟩ = false) :
    Calls Tryz.prog 4 #[.agg cs.toArray] w (MsgEnc w (msgP ⟨9, nu, no, pv, st, hs, hd, tx, bl⟩)) := by
  have hk0 : cmdB (9) = cmdN 9 := rfl
  obtain ⟨cmd, hcmd⟩ : ∃ c, c = cmdN 9 := ⟨_, rfl⟩
  have HCM : Hid (cmd ≠ []) := Lib.hid (by rw [hcmd]; decide)
  have HMP : Hid (msgP ⟨9, nu, no, pv, st, hs, hd, tx, bl⟩ = (cmd, (payP ⟨9, nu, no, pv, st, hs, hd, tx, bl⟩).1, 0)) := Lib.hid (by rw [hcmd]; exact msgP_ok _ (pay_good _ (show (1 : Int) ≤ 9 ∧ (9 : Int) ≤ 11 ∨ (9 : Int) = 13 by omega) ht))
  have HMP : Hid (msgP ⟨9, nu, no, pv, st, hs, hd, tx, bl⟩ = (cmd, [0#8] ++ (low (nu.setWidth 64) 4 ++ st), 0)) := HMP
  have HC := Lib.hid hc
  have htoo := fun W (h : MsgC W ⟨9, nu, no, pv, st, hs, hd, tx, bl⟩ cs) => too_any _ cs W h
  rw [ht] at htoo
  have hcc := fun W => command_any (9) W
  rw [hk0, ← hcmd] at hcc
  obtain ⟨hv, dv, bv, bc, hcs, hpv, hst, hh, hdd, hb, hbl⟩ := hc
  obtain ⟨p1, n1, c1, rfl⟩ := hh.opens
  obtain ⟨p2, n2, c2, rfl⟩ := hdd.opens
  obtain ⟨p3, n3, c3, rfl⟩ := hb.opens
  obtain ⟨zm, hzm⟩ : ∃ z, z = w.heap.size := ⟨_, rfl⟩
  obtain ⟨W1, hW1⟩ : ∃ W, W = w.alloc (.cells cs.toArray 35) := ⟨_, rfl⟩
  obtain ⟨W2, hW2⟩ : ∃ W, W = W1.alloc (.cells YFrm.toArray 37) := ⟨_, rfl⟩
  have z1 : W1.heap.size = zm + 1 := by rw [hW1, World.size_alloc, hzm]
  have k1 : Below w.heap.size w W1 := by rw [hW1]; exact below_new w _
  have k2 : Below W1.heap.size W1 W2 := by rw [hW2]; exact below_new W1 _
  have k02 := below_fut k1 k2 (Nat.le_refl _)
  obtain ⟨z2, hz2⟩ : ∃ z, z = zm + 1 := ⟨_, rfl⟩
  have B1 : Blk W2 zm 35 cs.toArray := (show Blk W1 zm _ _ by rw [hW1, hzm]; exact Blk.new w _ _).fut k2
  have B2 : Blk W2 z2 37 YFrm.toArray := by rw [hW2, hz2, ← z1]; exact Blk.new W1 _ _
  rw [hcs] at B1
  have HPV := Lib.hid hpv
  have HL0 : Hid (([] : Bs).length ≤ 0) := Lib.hid (Nat.le_refl 0)
  have HN1 : Hid (n1 = hs.length) := Lib.hid hh.slen.1.symm
  have HN3 := Lib.hid hb.slen.1
  have HEH := Lib.hid hh
  have HN2 : Hid (hd.length = n2) := Lib.hid hdd.slen.1
  have HDH := Lib.hid hdd
  have HOKS : Hid (∀ x ∈ hd, Hdr.ok x) := Lib.hid HC.out.okMsg.2.2.2.1
  have HTX0 : Hid (tx.length = n3 ∧ Row8 w p3 tx) := Lib.hid (by obtain ⟨p', n', c', e, h1, _, _, h4, _⟩ := hb; injection e with e1 e2 _; rw [e1, e2]; exact ⟨h1, h4⟩)
  have HST := Lib.hid hst
  have a0 := (B1.msg hpv hst).c0
  have HB1 := Lib.hid B1
  have HB2 := Lib.hid B2
  have HK02 := Lib.hid k02
  have HCS := Lib.hid hcs
  have HZZ : Hid (zm = w.heap.size ∧ z2 = zm + 1) := Lib.hid ⟨hzm, hz2⟩
  have hzf := yFrm
  have hbt := fun s => built_frm1 s
  have hzw := zWriter
  clear k1 k2 k02 z1 B1 B2 hcs hpv hst hh hdd hb hbl hcmd hk0 ht
  go_enter Tryz.func4, Tryz.ntmps4
  go_upto_region 1 with fail
  rw [← hW1, ← hW2, ← hzm, ← hz2]
  clear hW1 hW2 hzm hz2
  go_wp2_with fail
  refine (hcc W2).mono ?_
  rintro e w3 ⟨rfl, hb3⟩
  have HB13 := Lib.hid (HB1.out.fut hb3)
  have HB23 := Lib.hid (HB2.out.fut hb3)
  have HW3 := Lib.hid (below_fut HK02.out hb3 (Nat.le_refl _))
  have hbn := below_new w3 (.cells YFrm.toArray 37)
  clear hb3 a0 HB1 HB2 HK02 hcc
  go_upto_region 2 with (first
    | (with_reducible refine wp_build (o := ⟨some 13, _, _, _, _, _⟩) ?_ 37 #[(0, .tmp 12)] ?_ [(0, .string (strB cmd))] ?_ #[.string (strB cmd), .slice none 0 0] hbt (strB cmd) ?_
       · rfl
       · rfl
       · rfl)
    | (with_reducible refine wp_store_blk (o := ⟨none, _, _, _, _, _⟩) ?_ 37 (.tmp 4) (.tmp 13) ?_ (w3.heap.size) 37 (YFrm.toArray) (#[.string (strB cmd), .slice none 0 0]) ?_ ?_ (Blk.new w3 _ _) ?_ ?_ ?_ (w3.heap.size) (w3) ?_ ?_ ?_
       · rfl
       · rfl
       · rfl
       · rfl
       · exact ((by kernel_rfl))
       · exact (rfl)
       · exact ((by rw [List.all_toArray]; rfl))
       · exact (hbn)
       · exact (Nat.le_refl _)
       intro w4 hB4 hb4 hg4 hs4))
  try simp only [put_none]
  have HB14 := Lib.hid (HB13.out.fut hb4)
  have HB24 := Lib.hid (HB23.out.fut hb4)
  have HW4 := Lib.hid (below_fut HW3.out hb4 (Nat.le_refl _))
  have HB44 := Lib.hid hB4.out
  obtain ⟨z4, hz4⟩ : ∃ z, z = w3.heap.size := ⟨_, rfl⟩
  rw [← hz4] at HB44 ⊢
  have HZ4L : Hid (zm < z4 ∧ z2 < z4 ∧ w.heap.size ≤ z4) := Lib.hid (by rw [hz4]; exact ⟨HB13.out.lt, HB23.out.lt, HW3.out.size⟩)
  clear hbn hz4 hB4 hb4 hg4 hs4 HB13 HB23 HW3
  have c4 : w4.cell? ⟨z4, 0, none⟩ = some (.string (strB cmd)) := by have := HB44.out.cell 0; simpa using this
  have heq : (strB cmd).toList.isEmpty = false := strB_full HCM.out
  have hcl := HC.out.len
  have HCL := Lib.hid hcl
  have l1 : w4.rangeAt zm 0 cs := blk_range (by rw [HCS.out]; exact HB14.out)
  have hcc4 := msgC_keeps _ _ _ _ HC.out HW4.out
  have htoo4 := htoo w4 hcc4
  clear hcl hcc4 htoo
  go_wp2_with (first
    | (with_reducible refine wpList_load_midG (op := ⟨some 18, _, _, _, _, _⟩) ?_ 35 (.tmp 1) ?_ (zm) (0) ?_ (cs) _ (l1) Tryz.underlying35 ?_ ?_ ?_
       · rfl
       · rfl
       · rfl
       · rfl
       · exact ((info_Msg HCL.out))))
  refine htoo4.mono ?_
  rintro e wE ⟨rfl, hb5⟩
  have HMB := Lib.hid (HB14.out.fut hb5)
  have HZ2 := Lib.hid (HB24.out.fut hb5)
  have HZ4 := Lib.hid (HB44.out.fut hb5)
  have HWE := Lib.hid (below_fut HW4.out hb5 (Nat.le_refl _))
  have HMC := Lib.hid (msgC_keeps _ _ _ _ HC.out HWE.out)
  obtain ⟨gw, hgw⟩ : ∃ g, g = wE.heap.size := ⟨_, rfl⟩
  have HGE : Hid (wE.heap.size = gw) := Lib.hid hgw.symm
  have HLT : Hid (zm < gw ∧ z2 < gw ∧ z4 < gw ∧ w.heap.size ≤ z2 ∧ w.heap.size ≤ z4) := Lib.hid (by rw [hgw]; have h1 := HMB.out.lt; have h2 := HZ2.out.lt; have h3 := HZ4.out.lt; have h4 := HZZ.out; have h5 := HZ4L.out; omega)
  have hnb := below_new wE (.cells #[.slice none 0 0] 48)
  obtain ⟨w6, hw6⟩ : ∃ W, W = wE.alloc (.cells #[.slice none 0 0] 48) := ⟨_, rfl⟩
  have HW6 : Hid (WrM gw w6 (Value.slice none 0 0) []) := Lib.hid ⟨by rw [hw6, hgw]; exact Blk.new wE _ _, Own8.nil _ _⟩
  have HB6 : Hid (Below gw wE w6) := Lib.hid (by rw [hw6, hgw]; exact hnb)
  have a0 := ((HMB.out.below HB6.out HLT.out.1).msg HPV.out HST.out).c0
  have HE := Lib.hid (HEH.out.fut hashE_c HWE.out)
  have HTX : Hid (tx.length = n3 ∧ Row8 wE p3 tx) := Lib.hid ⟨HTX0.out.1, HTX0.out.2.below HWE.out (Nat.le_refl _)⟩
  have HED := Lib.hid (HDH.out.fut hdrE_c HWE.out)
  clear HEH HTX0 HDH
  clear hnb hb5 htoo4 l1 c4 HB14 HB24 HB44 HW4 HC heq hbt
  go_upto_region 5 with fail
  rw [← hw6, ← hgw]
  clear hw6 hgw hzw
  go_upto_region 27 with fail
  clear a0
  have cg : w6.cell? ⟨gw, 0, none⟩ = some (Value.slice none 0 0) := by have := HW6.out.blk.cell 0; simpa using this
  have fg := HW6.out.blk.frozen 0
  have hnb := below_new w6 (.cells #[.int .u8 (iv8 0#8)] 5)
  have hol := own_lit w6 (gw + 1) 1 [0#8] HW6.out.lt rfl (by unfold maxLen; omega)
  obtain ⟨V75, hV75⟩ : ∃ V, V = w6.alloc (.cells #[.int .u8 (iv8 0#8)] 5) := ⟨_, rfl⟩
  obtain ⟨g75, hg75⟩ : ∃ V, V = w6.heap.size := ⟨_, rfl⟩
  have HO75 : Hid (Own8 V75 (gw + 1) (.slice (some ⟨g75, 0, none⟩) 1 1) [0#8]) := Lib.hid (by rw [hV75, hg75]; exact hol)
  have HG75 : Hid (Blk V75 gw 48 #[(Value.slice none 0 0)]) := Lib.hid (by rw [hV75]; exact HW6.out.blk.fut hnb)
  have HC75 : Hid (Below gw wE V75) := Lib.hid (by rw [hV75]; exact HB6.out.trans (hnb.mono (by have := HW6.out.lt; omega)))
  have cg2 : V75.cell? ⟨gw, 0, none⟩ = some (Value.slice none 0 0) := by have := HG75.out.cell 0; simpa using this
  have fg2 := HG75.out.frozen 0
  have hV2 : w6.alloc (.cells #[.int .u8 0] 5) = V75 := hV75.symm
  have hg2 : w6.heap.size = g75 := hg75.symm
  clear hnb hol hV75 hg75 cg fg
  go_upto_region 28 with fail
  have HW75b := Lib.hid (WrM.put HG75.out HO75.out)
  have HB75b := Lib.hid (HC75.out.trans (below_poke gw V75 (.slice (some ⟨g75, 0, none⟩) 1 1)))
  clear cg2 fg2 hV2 hg2 HO75 HG75 HC75 HW6 HB6
  generalize V75.setCell ⟨gw, 0, none⟩ (.slice (some ⟨g75, 0, none⟩) 1 1) = W75 at *
  have HL1 : Hid (([0#8] : Bs).length ≤ 1) := Lib.hid (by decide)
  clear HL0
  obtain ⟨a0, a1, a2, ap, aq, a67, a68, a69, ab⟩ := (HMB.out.below HB75b.out HLT.out.1).msg HPV.out HST.out
  clear a0 a2 ap aq a67 a68 a69 ab
  have ec := ext32_64 nu
  go_wp2_with fail
  clear ec
  refine (wNum_any (nu.setWidth 64) 4 (by omega) gw W75 (Value.slice (some ⟨g75, 0, none⟩) 1 1) ([0#8]) HW75b.out (by have := HL1.out; omega)).mono ?_
  rintro e W76 ⟨rfl, v76, hw76, hb76⟩
  obtain ⟨q76, m76, c76, rfl, _⟩ := hw76.own.open
  have HW76 := Lib.hid hw76
  have HB76 := Lib.hid (HB75b.out.trans hb76)
  clear hw76 hb76 HW75b HB75b a1
  have HL77 : Hid (([0#8] ++ low (nu.setWidth 64) 4).length ≤ 5) := Lib.hid (by rw [List.length_append, low_len]; have := HL1.out; omega)
  clear HL1
  have HSR : Hid (Row8 wE (some ⟨zm, 35, none⟩) st) := Lib.hid (hash_row (HMB.out.msg HPV.out HST.out).rs HMB.out.lt)
  have HPR : Hid (Row8 wE (some ⟨zm, 3, none⟩) pv) := Lib.hid (hash_row (HMB.out.msg HPV.out HST.out).rp HMB.out.lt)
  go_upto_region 29 with fail
  have HFx78 : Hid (WF gw wE (Value.slice q76 m76 c76) W76) := Lib.hid ⟨HW76.out.blk, HB76.out⟩
  have HOx78 := Lib.hid HW76.out.own
  clear HW76 HB76
  refine region_plan_tail [qq 0, qq 1, qq 2, qq 3, oo 4, qq 5] 6 (fun W => WF gw wE (Value.slice q76 m76 c76) W) (by kernel_rfl) (by kernel_rfl) (HFx78.out.fut (below_draws W76 1)) ?_
  refine' plan_quiet (s := 147) (A1 := _) [0, 1, 2, 3] [_, _, _, _] _ rfl rfl rfl (fun W hW => ?hq29a) _ (HFx78.out.fut (below_draws W76 1)) (fun _ => ?hr29a)
  case hq29a =>
    simp only [List.getElem_toArray, List.getElem_cons_zero, List.getElem_cons_succ]
    have c0 : ∀ k, (W.drewN k).cell? ⟨gw, 0, none⟩ = some (Value.slice q76 m76 c76) := fun k => by have := hW.blk.cell 0; simpa using this
    iterate 4 (go_big_quiet_step (fail))
    refine wpQuiet_nil ?_
    rfl
  case hr29a =>
  refine plan_one rfl fun k79 => ?_
  have hdr : Below W76.heap.size W76 (W76.drew.drewN k79) := below_drewN (Below.refl _ _).drew k79
  have HFd79 := Lib.hid (HFx78.out.fut hdr)
  have HOd79 := Lib.hid (HOx78.out.fut hdr)
  clear HFx78 HOx78 hdr
  generalize W76.drew.drewN k79 = Wd79 at *
  refine wp_append8 (o := ⟨some 96, _, _, _, _, _⟩) rfl (.tmp 93) (.tmp 95) rfl (gw + 1) _ _ rfl HOd79.out (some ⟨zm, 35, none⟩) 32 32 (st) rfl HST.out ((HSR.out.below HFd79.out.bel (Nat.le_of_eq HGE.out))) (by have := HL77.out; have := HST.out; omega) HFd79.out.size (gw + 1) Wd79 (Below.refl _ _) (Nat.le_refl _) ?_
  intro vz80 W80 ho _ hg hk
  have HF80 := Lib.hid (HFd79.out.app HOd79.out hg)
  obtain ⟨qz80, mz80, dz80, rfl, _⟩ := ho.open
  have HO80 := Lib.hid ho
  clear HFd79 HOd79 ho hg hk
  go_wp2_with fail
  refine planQ_normal (And.intro HF80.out ?_)
  refine' plan_quiet (s := 147) (A1 := _) (r := []) [5] [_] _ rfl rfl rfl (fun W hW => ?hq29b) _ HF80.out (fun _ => ?hr29b)
  case hq29b =>
    simp only [List.getElem_toArray, List.getElem_cons_zero, List.getElem_cons_succ]
    iterate 1 (go_big_quiet_step (fail))
    refine wpQuiet_nil ?_
    rfl
  case hr29b =>
  refine plan_end fun k81 => HeadQ.normal ?_
  have hdr := below_draws W80 k81
  have HFz81 := Lib.hid (HF80.out.fut hdr)
  have HOz81 := Lib.hid (HO80.out.fut hdr)
  clear HF80 HO80 hdr
  generalize W80.drewN k81 = Wz81 at *
  have fz81 := HFz81.out.blk.frozen 0
  have ez81 := HFz81.out.blk.cell 0
  simp only [List.getElem?_toArray, List.getElem?_cons_zero] at ez81
  have HWS := Lib.hid (WrM.put HFz81.out.blk HOz81.out)
  have HBS := Lib.hid (HFz81.out.bel.trans (below_poke gw Wz81 (Value.slice qz80 mz80 dz80)))
  go_upto_region 43 with fail
  have HW82 := HWS
  have HB82 := HBS
  obtain ⟨w82, hw82⟩ : ∃ W, W = Wz81.setCell ⟨gw, 0, none⟩ (Value.slice qz80 mz80 dz80) := ⟨_, rfl⟩
  rw [← hw82] at HW82 HB82 ⊢
  clear HWS HBS hw82 fz81 ez81 HFz81 HOz81
  have H4 := Lib.hid (HZ4.out.below HB82.out HLT.out.2.2.1)
  have H2 := Lib.hid (HZ2.out.below HB82.out HLT.out.2.1)
  have cg : w82.cell? ⟨gw, 0, none⟩ = some (Value.slice qz80 mz80 dz80) := by have := HW82.out.blk.cell 0; simpa using this
  have f4 := H4.out.frozen 1
  have d4 : w82.cell? ⟨z4, 1, none⟩ = some (.slice none 0 0) := by have := H4.out.cell 1; simpa using this
  have HO := Lib.hid (Own8.mono' HW82.out.own (B' := w.heap.size) (by have := HLT.out; omega))
  have HBW := Lib.hid (HWE.out.trans (HB82.out.mono (by have := HLT.out; omega)))
  go_upto_region 44 with fail
  have hst4 := Stays.set w82 z4 1 (Value.slice qz80 mz80 dz80)
  have H4b : Hid (Blk (w82.setCell ⟨z4, 1, none⟩ (Value.slice qz80 mz80 dz80)) z4 37 #[.string (strB cmd), (Value.slice qz80 mz80 dz80)]) := Lib.hid (by have := H4.out.set 1 (Value.slice qz80 mz80 dz80); simpa using this)
  have H2b := Lib.hid (H2.out.stays hst4 (by have := HZ4L.out; omega))
  have HO4 := Lib.hid (HO.out.sep hst4 (sep_one H4.out (by decide)))
  have HB4 : Hid (Below w.heap.size w (w82.setCell ⟨z4, 1, none⟩ (Value.slice qz80 mz80 dz80))) := Lib.hid (HBW.out.setCell (show w.heap.size ≤ z4 from HLT.out.2.2.2.2) _)
  clear hst4 cg f4 d4 H4 H2 HO HBW HW82 HB82
  generalize w82.setCell ⟨z4, 1, none⟩ (Value.slice qz80 mz80 dz80) = wF at *
  have l4 := blk_range (cs := [.string (strB cmd), (Value.slice qz80 mz80 dz80)]) H4b.out
  have hbr := Below.refl w.heap.size wF
  have hz2w : w.heap.size ≤ z2 := HLT.out.2.2.2.1
  go_wp2_with (first
    | (with_reducible refine wpList_load_mid (op := ⟨some 146, _, _, _, _, _⟩) ?_ 37 (.tmp 4) ?_ (z4) (0) ?_ ([.string (strB cmd), (Value.slice qz80 mz80 dz80)]) _ (l4) Tryz.underlying37 ?_ ?_ ?_
       · rfl
       · rfl
       · rfl
       · rfl
       · exact ((by kernel_rfl)))
    | (with_reducible refine wp_store_blk (o := ⟨none, _, _, _, _, _⟩) ?_ 37 (.tmp 2) (.tmp 146) ?_ (z2) 37 (YFrm.toArray) (#[.string (strB cmd), (Value.slice qz80 mz80 dz80)]) ?_ ?_ (H2b.out) ?_ ?_ ?_ (w.heap.size) (wF) ?_ ?_ ?_
       · rfl
       · rfl
       · rfl
       · rfl
       · exact ((by kernel_rfl))
       · exact (rfl)
       · exact ((by rw [List.all_toArray]; rfl))
       · exact (hbr)
       · exact (hz2w)
       intro wG hBG hbG hgG hsG))
  refine bodyPost_ret (results_cell2 rfl _ _ _ z2 _ [.string (strB cmd), (Value.slice qz80 mz80 dz80)] _ rfl hBG.out Tryz.underlying37 rfl (by kernel_rfl)) rfl ?_
  have hst := Stays.of_grown (S := fun k => k = z2) hgG.out (fun k h => by injection h with h; exact h.symm)
  rw [HMP.out]
  exact ⟨_, rfl, by have h := HO4.out.sep hst (sep_one H2b.out (by decide)); simpa only [List.nil_append, List.append_assoc, List.append_nil] using h, HB4.out.trans hbG⟩
set_option maxRecDepth 100000 in
set_option maxHeartbeats 8000000 in
theorem enc_k8 (nu : BitVec 32) (no : BitVec 64) (pv st : Bs) (hs : List Bs) (hd : List Hdr) (tx : Bs) (bl : TBlk) (cs : List Value) (w : World) (hc : MsgC w ⟨8, nu, no, pv, st, hs, hd, tx, bl⟩ cs) (ht : tooB ⟨8, nu, no, pv, st, hs, hd, tx, bl⟩ = false) :
    Calls Tryz.prog 4 #[.agg cs.toArray] w (MsgEnc w (msgP ⟨8, nu, no, pv, st, hs, hd, tx, bl⟩)) := by
  have hk0 : cmdB (8) = cmdN 8 := rfl
  obtain ⟨cmd, hcmd⟩ : ∃ c, c = cmdN 8 := ⟨_, rfl⟩
  have HCM : Hid (cmd ≠ []) := Lib.hid (by rw [hcmd]; decide)
  have HMP : Hid (msgP ⟨8, nu, no, pv, st, hs, hd, tx, bl⟩ = (cmd, (payP ⟨8, nu, no, pv, st, hs, hd, tx, bl⟩).1, 0)) := Lib.hid (by rw [hcmd]; exact msgP_ok _ (pay_good _ (show (1 : Int) ≤ 8 ∧ (8 : Int) ≤ 11 ∨ (8 : Int) = 13 by omega) ht))
  have HMP : Hid (msgP ⟨8, nu, no, pv, st, hs, hd, tx, bl⟩ = (cmd, [0#8] ++ (st ++ (pv ++ hshB [] hs)), 0)) := Lib.hid (HMP.out.trans (by rw [pay_k8 ht]))
  have hn1 : hs.length ≤ 100000 := by have h : hs.length ≤ 2000 := lim_hs _ ht; omega
  have HSL : Hid ((hshB [] hs).length ≤ 100000) := Lib.hid (by have h : hs.length ≤ 2000 := lim_hs _ ht; have := hshB_le (a := []) (l := hs) hc.okMsg.2.2.1 (by decide); omega)
  have HC := Lib.hid hc
  have htoo := fun W (h : MsgC W ⟨8, nu, no, pv, st, hs, hd, tx, bl⟩ cs) => too_any _ cs W h
  rw [ht] at htoo
  have hcc := fun W => command_any (8) W
  rw [hk0, ← hcmd] at hcc
  obtain ⟨hv, dv, bv, bc, hcs, hpv, hst, hh, hdd, hb, hbl⟩ := hc
  obtain ⟨p1, n1, c1, rfl⟩ := hh.opens
  obtain ⟨p2, n2, c2, rfl⟩ := hdd.opens
  obtain ⟨p3, n3, c3, rfl⟩ := hb.opens
  obtain ⟨zm, hzm⟩ : ∃ z, z = w.heap.size := ⟨_, rfl⟩
  obtain ⟨W1, hW1⟩ : ∃ W, W = w.alloc (.cells cs.toArray 35) := ⟨_, rfl⟩
  obtain ⟨W2, hW2⟩ : ∃ W, W = W1.alloc (.cells YFrm.toArray 37) := ⟨_, rfl⟩
  have z1 : W1.heap.size = zm + 1 := by rw [hW1, World.size_alloc, hzm]
  have k1 : Below w.heap.size w W1 := by rw [hW1]; exact below_new w _
  have k2 : Below W1.heap.size W1 W2 := by rw [hW2]; exact below_new W1 _
  have k02 := below_fut k1 k2 (Nat.le_refl _)
  obtain ⟨z2, hz2⟩ : ∃ z, z = zm + 1 := ⟨_, rfl⟩
  have B1 : Blk W2 zm 35 cs.toArray := (show Blk W1 zm _ _ by rw [hW1, hzm]; exact Blk.new w _ _).fut k2
  have B2 : Blk W2 z2 37 YFrm.toArray := by rw [hW2, hz2, ← z1]; exact Blk.new W1 _ _
  rw [hcs] at B1
  have HPV := Lib.hid hpv
  have HL0 : Hid (([] : Bs).length ≤ 0) := Lib.hid (Nat.le_refl 0)
  have HN1 : Hid (n1 = hs.length) := Lib.hid hh.slen.1.symm
  have HN3 := Lib.hid hb.slen.1
  have HEH := Lib.hid hh
  have HN2 : Hid (hd.length = n2) := Lib.hid hdd.slen.1
  have HDH := Lib.hid hdd
  have HOKS : Hid (∀ x ∈ hd, Hdr.ok x) := Lib.hid HC.out.okMsg.2.2.2.1
  have HTX0 : Hid (tx.length = n3 ∧ Row8 w p3 tx) := Lib.hid (by obtain ⟨p', n', c', e, h1, _, _, h4, _⟩ := hb; injection e with e1 e2 _; rw [e1, e2]; exact ⟨h1, h4⟩)
  have HST := Lib.hid hst
  have a0 := (B1.msg hpv hst).c0
  have HB1 := Lib.hid B1
  have HB2 := Lib.hid B2
  have HK02 := Lib.hid k02
  have HCS := Lib.hid hcs
  have HZZ : Hid (zm = w.heap.size ∧ z2 = zm + 1) := Lib.hid ⟨hzm, hz2⟩
  have hzf := yFrm
  have hbt := fun s => built_frm1 s
  have hzw := zWriter
  clear k1 k2 k02 z1 B1 B2 hcs hpv hst hh hdd hb hbl hcmd hk0 ht
  go_enter Tryz.func4, Tryz.ntmps4
  go_upto_region 1 with fail
  rw [← hW1, ← hW2, ← hzm, ← hz2]
  clear hW1 hW2 hzm hz2
  go_wp2_with fail
  refine (hcc W2).mono ?_
  rintro e w3 ⟨rfl, hb3⟩
  have HB13 := Lib.hid (HB1.out.fut hb3)
  have HB23 := Lib.hid (HB2.out.fut hb3)
  have HW3 := Lib.hid (below_fut HK02.out hb3 (Nat.le_refl _))
  have hbn := below_new w3 (.cells YFrm.toArray 37)
  clear hb3 a0 HB1 HB2 HK02 hcc
  go_upto_region 2 with (first
    | (with_reducible refine wp_build (o := ⟨some 13, _, _, _, _, _⟩) ?_ 37 #[(0, .tmp 12)] ?_ [(0, .string (strB cmd))] ?_ #[.string (strB cmd), .slice none 0 0] hbt (strB cmd) ?_
       · rfl
       · rfl
       · rfl)
    | (with_reducible refine wp_store_blk (o := ⟨none, _, _, _, _, _⟩) ?_ 37 (.tmp 4) (.tmp 13) ?_ (w3.heap.size) 37 (YFrm.toArray) (#[.string (strB cmd), .slice none 0 0]) ?_ ?_ (Blk.new w3 _ _) ?_ ?_ ?_ (w3.heap.size) (w3) ?_ ?_ ?_
       · rfl
       · rfl
       · rfl
       · rfl
       · exact ((by kernel_rfl))
       · exact (rfl)
       · exact ((by rw [List.all_toArray]; rfl))
       · exact (hbn)
       · exact (Nat.le_refl _)
       intro w4 hB4 hb4 hg4 hs4))
  try simp only [put_none]
  have HB14 := Lib.hid (HB13.out.fut hb4)
  have HB24 := Lib.hid (HB23.out.fut hb4)
  have HW4 := Lib.hid (below_fut HW3.out hb4 (Nat.le_refl _))
  have HB44 := Lib.hid hB4.out
  obtain ⟨z4, hz4⟩ : ∃ z, z = w3.heap.size := ⟨_, rfl⟩
  rw [← hz4] at HB44 ⊢
  have HZ4L : Hid (zm < z4 ∧ z2 < z4 ∧ w.heap.size ≤ z4) := Lib.hid (by rw [hz4]; exact ⟨HB13.out.lt, HB23.out.lt, HW3.out.size⟩)
  clear hbn hz4 hB4 hb4 hg4 hs4 HB13 HB23 HW3
  have c4 : w4.cell? ⟨z4, 0, none⟩ = some (.string (strB cmd)) := by have := HB44.out.cell 0; simpa using this
  have heq : (strB cmd).toList.isEmpty = false := strB_full HCM.out
  have hcl := HC.out.len
  have HCL := Lib.hid hcl
  have l1 : w4.rangeAt zm 0 cs := blk_range (by rw [HCS.out]; exact HB14.out)
  have hcc4 := msgC_keeps _ _ _ _ HC.out HW4.out
  have htoo4 := htoo w4 hcc4
  clear hcl hcc4 htoo
  go_wp2_with (first
    | (with_reducible refine wpList_load_midG (op := ⟨some 18, _, _, _, _, _⟩) ?_ 35 (.tmp 1) ?_ (zm) (0) ?_ (cs) _ (l1) Tryz.underlying35 ?_ ?_ ?_
       · rfl
       · rfl
       · rfl
       · rfl
       · exact ((info_Msg HCL.out))))
  refine htoo4.mono ?_
  rintro e wE ⟨rfl, hb5⟩
  have HMB := Lib.hid (HB14.out.fut hb5)
  have HZ2 := Lib.hid (HB24.out.fut hb5)
  have HZ4 := Lib.hid (HB44.out.fut hb5)
  have HWE := Lib.hid (below_fut HW4.out hb5 (Nat.le_refl _))
  have HMC := Lib.hid (msgC_keeps _ _ _ _ HC.out HWE.out)
  obtain ⟨gw, hgw⟩ : ∃ g, g = wE.heap.size := ⟨_, rfl⟩
  have HGE : Hid (wE.heap.size = gw) := Lib.hid hgw.symm
  have HLT : Hid (zm < gw ∧ z2 < gw ∧ z4 < gw ∧ w.heap.size ≤ z2 ∧ w.heap.size ≤ z4) := Lib.hid (by rw [hgw]; have h1 := HMB.out.lt; have h2 := HZ2.out.lt; have h3 := HZ4.out.lt; have h4 := HZZ.out; have h5 := HZ4L.out; omega)
  have hnb := below_new wE (.cells #[.slice none 0 0] 48)
  obtain ⟨w6, hw6⟩ : ∃ W, W = wE.alloc (.cells #[.slice none 0 0] 48) := ⟨_, rfl⟩
  have HW6 : Hid (WrM gw w6 (Value.slice none 0 0) []) := Lib.hid ⟨by rw [hw6, hgw]; exact Blk.new wE _ _, Own8.nil _ _⟩
  have HB6 : Hid (Below gw wE w6) := Lib.hid (by rw [hw6, hgw]; exact hnb)
  have a0 := ((HMB.out.below HB6.out HLT.out.1).msg HPV.out HST.out).c0
  have HE := Lib.hid (HEH.out.fut hashE_c HWE.out)
  have HTX : Hid (tx.length = n3 ∧ Row8 wE p3 tx) := Lib.hid ⟨HTX0.out.1, HTX0.out.2.below HWE.out (Nat.le_refl _)⟩
  have HED := Lib.hid (HDH.out.fut hdrE_c HWE.out)
  clear HEH HTX0 HDH
  clear hnb hb5 htoo4 l1 c4 HB14 HB24 HB44 HW4 HC heq hbt
  go_upto_region 5 with fail
  rw [← hw6, ← hgw]
  clear hw6 hgw hzw
  have HSR : Hid (Row8 wE (some ⟨zm, 35, none⟩) st) := Lib.hid (hash_row (HMB.out.msg HPV.out HST.out).rs HMB.out.lt)
  have HPR : Hid (Row8 wE (some ⟨zm, 3, none⟩) pv) := Lib.hid (hash_row (HMB.out.msg HPV.out HST.out).rp HMB.out.lt)
  go_upto_region 31 with fail
  clear a0
  have HFx84 : Hid (WF gw wE (Value.slice none 0 0) w6) := Lib.hid ⟨HW6.out.blk, HB6.out⟩
  have HOx84 := Lib.hid HW6.out.own
  clear HW6 HB6
  refine region_plan_tail [qq 1, qq 2, qq 4, qq 5, oo 0, oo 3, oo 6, qq 7] 8 (fun W => WF gw wE (Value.slice none 0 0) W) (by kernel_rfl) (by kernel_rfl) (HFx84.out.fut (below_draws w6 1)) ?_
  refine' plan_quiet (s := 147) (A1 := _) [1, 2, 4, 5] [_, _, _, _] _ rfl rfl rfl (fun W hW => ?hqk8a) _ (HFx84.out.fut (below_draws w6 1)) (fun _ => ?hrk8a)
  case hqk8a =>
    simp only [List.getElem_toArray, List.getElem_cons_zero, List.getElem_cons_succ]
    iterate 4 (go_big_quiet_step (fail))
    refine wpQuiet_nil ?_
    rfl
  case hrk8a =>
  refine plan_one rfl fun k85 => ?_
  have hdr : Below w6.heap.size w6 (w6.drew.drewN k85) := below_drewN (Below.refl _ _).drew k85
  have HFd85 := Lib.hid (HFx84.out.fut hdr)
  clear HFx84 HOx84 hdr
  generalize w6.drew.drewN k85 = Wd85 at *
  have hnb := below_new Wd85 (.cells #[.int .u8 (iv8 0#8)] 5)
  have HFe85 := Lib.hid (HFd85.out.fut hnb)
  have HOe85 := Lib.hid (own_lit Wd85 (gw + 1) 1 [0#8] HFd85.out.size rfl (by unfold maxLen; omega))
  go_wp2_with fail
  obtain ⟨V85, hV85⟩ : ∃ V, V = Wd85.alloc (.cells #[.int .u8 (iv8 0#8)] 5) := ⟨_, rfl⟩
  have HFf85 : Hid (WF gw wE (Value.slice none 0 0) V85) := Lib.hid (by rw [hV85]; exact HFe85.out)
  have HOf85 : Hid (Own8 V85 (gw + 1) (.slice (some ⟨Wd85.heap.size, 0, none⟩) 1 1) [0#8]) := Lib.hid (by rw [hV85]; exact HOe85.out)
  have hV2 : Wd85.alloc (.cells #[.int .u8 0] 5) = V85 := hV85.symm
  simp only [hV2]
  generalize Wd85.heap.size = g85 at *
  clear hV2 hV85 hnb HFe85 HOe85 HFd85
  refine planQ_normal (And.intro HFf85.out ?_)
  refine plan_one rfl fun k86 => ?_
  have hdr : Below V85.heap.size V85 (V85.drewN k86) := below_draws V85 k86
  have HFd86 := Lib.hid (HFf85.out.fut hdr)
  have HOd86 := Lib.hid (HOf85.out.fut hdr)
  clear HFf85 HOf85 hdr
  generalize V85.drewN k86 = Wd86 at *
  refine wp_append8 (o := ⟨some 103, _, _, _, _, _⟩) rfl (.tmp 100) (.tmp 102) rfl (gw + 1) _ _ rfl HOd86.out (some ⟨zm, 35, none⟩) 32 32 (st) rfl HST.out ((HSR.out.below HFd86.out.bel (Nat.le_of_eq HGE.out))) (by simp only [List.length_cons, List.length_nil]; have := HST.out; omega) HFd86.out.size (gw + 1) Wd86 (Below.refl _ _) (Nat.le_refl _) ?_
  intro vz87 W87 ho _ hg hk
  have HF87 := Lib.hid (HFd86.out.app HOd86.out hg)
  obtain ⟨qz87, mz87, dz87, rfl, _⟩ := ho.open
  have HO87 := Lib.hid ho
  clear HFd86 HOd86 ho hg hk
  go_wp2_with fail
  refine planQ_normal (And.intro HF87.out ?_)
  refine plan_one rfl fun k88 => ?_
  have hdr : Below W87.heap.size W87 (W87.drewN k88) := below_draws W87 k88
  have HFd88 := Lib.hid (HF87.out.fut hdr)
  have HOd88 := Lib.hid (HO87.out.fut hdr)
  clear HF87 HO87 hdr
  generalize W87.drewN k88 = Wd88 at *
  refine wp_append8 (o := ⟨some 106, _, _, _, _, _⟩) rfl (.tmp 103) (.tmp 105) rfl (gw + 1) _ _ rfl HOd88.out (some ⟨zm, 3, none⟩) 32 32 (pv) rfl HPV.out ((HPR.out.below HFd88.out.bel (Nat.le_of_eq HGE.out))) (by rw [List.length_append]; simp only [List.length_cons, List.length_nil]; have := HST.out; have := HPV.out; omega) HFd88.out.size (gw + 1) Wd88 (Below.refl _ _) (Nat.le_refl _) ?_
  intro vz89 W89 ho _ hg hk
  have HF89 := Lib.hid (HFd88.out.app HOd88.out hg)
  obtain ⟨qz89, mz89, dz89, rfl, _⟩ := ho.open
  have HO89 := Lib.hid ho
  clear HFd88 HOd88 ho hg hk
  go_wp2_with fail
  refine planQ_normal (And.intro HF89.out ?_)
  refine' plan_quiet (s := 147) (A1 := _) (r := []) [7] [_] _ rfl rfl rfl (fun W hW => ?hqk8b) _ HF89.out (fun _ => ?hrk8b)
  case hqk8b =>
    simp only [List.getElem_toArray, List.getElem_cons_zero, List.getElem_cons_succ]
    iterate 1 (go_big_quiet_step (fail))
    refine wpQuiet_nil ?_
    rfl
  case hrk8b =>
  refine plan_end fun k90 => HeadQ.normal ?_
  have hdr := below_draws W89 k90
  have HFz90 := Lib.hid (HF89.out.fut hdr)
  have HOz90 := Lib.hid (HO89.out.fut hdr)
  clear HF89 HO89 hdr
  generalize W89.drewN k90 = Wz90 at *
  have fz90 := HFz90.out.blk.frozen 0
  have ez90 := HFz90.out.blk.cell 0
  simp only [List.getElem?_toArray, List.getElem?_cons_zero] at ez90
  have HWS := Lib.hid (WrM.put HFz90.out.blk HOz90.out)
  have HBS := Lib.hid (HFz90.out.bel.trans (below_poke gw Wz90 (Value.slice qz89 mz89 dz89)))
  go_upto_region 32 with fail
  have HW91 := HWS
  have HB91 := HBS
  obtain ⟨w91, hw91⟩ : ∃ W, W = Wz90.setCell ⟨gw, 0, none⟩ (Value.slice qz89 mz89 dz89) := ⟨_, rfl⟩
  rw [← hw91] at HW91 HB91 ⊢
  clear HWS HBS hw91 fz90 ez90 HFz90 HOz90
  have HLr : Hid (([0#8] ++ st ++ pv).length ≤ 65) := Lib.hid (by rw [List.length_append, List.length_append, HST.out, HPV.out]; decide)
  clear HL0
  obtain ⟨a0, a1, a2, ap, aq, a67, a68, a69, ab⟩ := (HMB.out.below HB91.out HLT.out.1).msg HPV.out HST.out
  clear a0 a1 a2 ap aq a68 a69 ab
  go_wp2_with fail
  refine (wList_any p1 n1 c1 hs none 0 0 [] gw w91 wE (Value.slice qz89 mz89 dz89) ([0#8] ++ st ++ pv) HW91.out (by have := HLr.out; omega) (by have := HN1.out; omega) (by decide) HB91.out (Nat.le_of_eq HGE.out) HE.out rfl (Ahead.nil _ _ _)).mono ?_
  rintro e W92 ⟨rfl, v92, hw92, hb92⟩
  obtain ⟨q92, m92, c92, rfl, _⟩ := hw92.own.open
  have HW92 := Lib.hid hw92
  have HB92 := Lib.hid (HB91.out.trans hb92)
  clear hw92 hb92 HW91 HB91 a67
  have HL93 : Hid (([0#8] ++ st ++ pv ++ hshB [] hs).length ≤ 100065) := Lib.hid (by rw [List.length_append]; have := HLr.out; have := HSL.out; omega)
  clear HLr
  go_upto_region 43 with fail
  have H4 := Lib.hid (HZ4.out.below HB92.out HLT.out.2.2.1)
  have H2 := Lib.hid (HZ2.out.below HB92.out HLT.out.2.1)
  have cg : W92.cell? ⟨gw, 0, none⟩ = some (Value.slice q92 m92 c92) := by have := HW92.out.blk.cell 0; simpa using this
  have f4 := H4.out.frozen 1
  have d4 : W92.cell? ⟨z4, 1, none⟩ = some (.slice none 0 0) := by have := H4.out.cell 1; simpa using this
  have HO := Lib.hid (Own8.mono' HW92.out.own (B' := w.heap.size) (by have := HLT.out; omega))
  have HBW := Lib.hid (HWE.out.trans (HB92.out.mono (by have := HLT.out; omega)))
  go_upto_region 44 with fail
  have hst4 := Stays.set W92 z4 1 (Value.slice q92 m92 c92)
  have H4b : Hid (Blk (W92.setCell ⟨z4, 1, none⟩ (Value.slice q92 m92 c92)) z4 37 #[.string (strB cmd), (Value.slice q92 m92 c92)]) := Lib.hid (by have := H4.out.set 1 (Value.slice q92 m92 c92); simpa using this)
  have H2b := Lib.hid (H2.out.stays hst4 (by have := HZ4L.out; omega))
  have HO4 := Lib.hid (HO.out.sep hst4 (sep_one H4.out (by decide)))
  have HB4 : Hid (Below w.heap.size w (W92.setCell ⟨z4, 1, none⟩ (Value.slice q92 m92 c92))) := Lib.hid (HBW.out.setCell (show w.heap.size ≤ z4 from HLT.out.2.2.2.2) _)
  clear hst4 cg f4 d4 H4 H2 HO HBW HW92 HB92
  generalize W92.setCell ⟨z4, 1, none⟩ (Value.slice q92 m92 c92) = wF at *
  have l4 := blk_range (cs := [.string (strB cmd), (Value.slice q92 m92 c92)]) H4b.out
  have hbr := Below.refl w.heap.size wF
  have hz2w : w.heap.size ≤ z2 := HLT.out.2.2.2.1
  go_wp2_with (first
    | (with_reducible refine wpList_load_mid (op := ⟨some 146, _, _, _, _, _⟩) ?_ 37 (.tmp 4) ?_ (z4) (0) ?_ ([.string (strB cmd), (Value.slice q92 m92 c92)]) _ (l4) Tryz.underlying37 ?_ ?_ ?_
       · rfl
       · rfl
       · rfl
       · rfl
       · exact ((by kernel_rfl)))
    | (with_reducible refine wp_store_blk (o := ⟨none, _, _, _, _, _⟩) ?_ 37 (.tmp 2) (.tmp 146) ?_ (z2) 37 (YFrm.toArray) (#[.string (strB cmd), (Value.slice q92 m92 c92)]) ?_ ?_ (H2b.out) ?_ ?_ ?_ (w.heap.size) (wF) ?_ ?_ ?_
       · rfl
       · rfl
       · rfl
       · rfl
       · exact ((by kernel_rfl))
       · exact (rfl)
       · exact ((by rw [List.all_toArray]; rfl))
       · exact (hbr)
       · exact (hz2w)
       intro wG hBG hbG hgG hsG))
  refine bodyPost_ret (results_cell2 rfl _ _ _ z2 _ [.string (strB cmd), (Value.slice q92 m92 c92)] _ rfl hBG.out Tryz.underlying37 rfl (by kernel_rfl)) rfl ?_
  have hst := Stays.of_grown (S := fun k => k = z2) hgG.out (fun k h => by injection h with h; exact h.symm)
  rw [HMP.out]
  exact ⟨_, rfl, by have h := HO4.out.sep hst (sep_one H2b.out (by decide)); simpa only [List.nil_append, List.append_assoc, List.append_nil] using h, HB4.out.trans hbG⟩
set_option maxRecDepth 100000 in
set_option maxHeartbeats 8000000 in
theorem enc_k10 (nu : BitVec 32) (no : BitVec 64) (pv st : Bs) (hs : List Bs) (hd : List Hdr) (tx : Bs) (bl : TBlk) (cs : List Value) (w : World) (hc : MsgC w ⟨10, nu, no, pv, st, hs, hd, tx, bl⟩ cs) (ht : tooB ⟨10, nu, no, pv, st, hs, hd, tx, bl⟩ = false) :
    Calls Tryz.prog 4 #[.agg cs.toArray] w (MsgEnc w (msgP ⟨10, nu, no, pv, st, hs, hd, tx, bl⟩)) := by
  have hk0 : cmdB (10) = cmdN 10 := rfl
  obtain ⟨cmd, hcmd⟩ : ∃ c, c = cmdN 10 := ⟨_, rfl⟩
  have HCM : Hid (cmd ≠ []) := Lib.hid (by rw [hcmd]; decide)
  have HMP : Hid (msgP ⟨10, nu, no, pv, st, hs, hd, tx, bl⟩ = (cmd, (payP ⟨10, nu, no, pv, st, hs, hd, tx, bl⟩).1, 0)) := Lib.hid (by rw [hcmd]; exact msgP_ok _ (pay_good _ (show (1 : Int) ≤ 10 ∧ (10 : Int) ≤ 11 ∨ (10 : Int) = 13 by omega) ht))
  have HMP : Hid (msgP ⟨10, nu, no, pv, st, hs, hd, tx, bl⟩ = (cmd, [0#8] ++ (st ++ text tx), 0)) := Lib.hid (HMP.out.trans (by rw [pay_k10 ht]))
  have HTXB : Hid (tx.length ≤ 199950) := Lib.hid (lim_tx _ rfl ht)
  have HTXL : Hid ((text tx).length ≤ 199960) := Lib.hid (by have h : tx.length ≤ 199950 := lim_tx _ rfl ht; have h1 : (enc (BitVec.ofNat 64 tx.length)).length ≤ 9 := cntB_len tx.length; unfold text; rw [List.length_append]; omega)
  have HC := Lib.hid hc
  have htoo := fun W (h : MsgC W ⟨10, nu, no, pv, st, hs, hd, tx, bl⟩ cs) => too_any _ cs W h
  rw [ht] at htoo
  have hcc := fun W => command_any (10) W
  rw [hk0, ← hcmd] at hcc
  obtain ⟨hv, dv, bv, bc, hcs, hpv, hst, hh, hdd, hb, hbl⟩ := hc
  obtain ⟨p1, n1, c1, rfl⟩ := hh.opens
  obtain ⟨p2, n2, c2, rfl⟩ := hdd.opens
  obtain ⟨p3, n3, c3, rfl⟩ := hb.opens
  obtain ⟨zm, hzm⟩ : ∃ z, z = w.heap.size := ⟨_, rfl⟩
  obtain ⟨W1, hW1⟩ : ∃ W, W = w.alloc (.cells cs.toArray 35) := ⟨_, rfl⟩
  obtain ⟨W2, hW2⟩ : ∃ W, W = W1.alloc (.cells YFrm.toArray 37) := ⟨_, rfl⟩
  have z1 : W1.heap.size = zm + 1 := by rw [hW1, World.size_alloc, hzm]
  have k1 : Below w.heap.size w W1 := by rw [hW1]; exact below_new w _
  have k2 : Below W1.heap.size W1 W2 := by rw [hW2]; exact below_new W1 _
  have k02 := below_fut k1 k2 (Nat.le_refl _)
  obtain ⟨z2, hz2⟩ : ∃ z, z = zm + 1 := ⟨_, rfl⟩
  have B1 : Blk W2 zm 35 cs.toArray := (show Blk W1 zm _ _ by rw [hW1, hzm]; exact Blk.new w _ _).fut k2
  have B2 : Blk W2 z2 37 YFrm.toArray := by rw [hW2, hz2, ← z1]; exact Blk.new W1 _ _
  rw [hcs] at B1
  have HPV := Lib.hid hpv
  have HL0 : Hid (([] : Bs).length ≤ 0) := Lib.hid (Nat.le_refl 0)
  have HN1 : Hid (n1 = hs.length) := Lib.hid hh.slen.1.symm
  have HN3 := Lib.hid hb.slen.1
  have HEH := Lib.hid hh
  have HN2 : Hid (hd.length = n2) := Lib.hid hdd.slen.1
  have HDH := Lib.hid hdd
  have HOKS : Hid (∀ x ∈ hd, Hdr.ok x) := Lib.hid HC.out.okMsg.2.2.2.1
  have HTX0 : Hid (tx.length = n3 ∧ Row8 w p3 tx) := Lib.hid (by obtain ⟨p', n', c', e, h1, _, _, h4, _⟩ := hb; injection e with e1 e2 _; rw [e1, e2]; exact ⟨h1, h4⟩)
  have HST := Lib.hid hst
  have a0 := (B1.msg hpv hst).c0
  have HB1 := Lib.hid B1
  have HB2 := Lib.hid B2
  have HK02 := Lib.hid k02
  have HCS := Lib.hid hcs
  have HZZ : Hid (zm = w.heap.size ∧ z2 = zm + 1) := Lib.hid ⟨hzm, hz2⟩
  have hzf := yFrm
  have hbt := fun s => built_frm1 s
  have hzw := zWriter
  clear k1 k2 k02 z1 B1 B2 hcs hpv hst hh hdd hb hbl hcmd hk0 ht
  go_enter Tryz.func4, Tryz.ntmps4
  go_upto_region 1 with fail
  rw [← hW1, ← hW2, ← hzm, ← hz2]
  clear hW1 hW2 hzm hz2
  go_wp2_with fail
  refine (hcc W2).mono ?_
  rintro e w3 ⟨rfl, hb3⟩
  have HB13 := Lib.hid (HB1.out.fut hb3)
  have HB23 := Lib.hid (HB2.out.fut hb3)
  have HW3 := Lib.hid (below_fut HK02.out hb3 (Nat.le_refl _))
  have hbn := below_new w3 (.cells YFrm.toArray 37)
  clear hb3 a0 HB1 HB2 HK02 hcc
  go_upto_region 2 with (first
    | (with_reducible refine wp_build (o := ⟨some 13, _, _, _, _, _⟩) ?_ 37 #[(0, .tmp 12)] ?_ [(0, .string (strB cmd))] ?_ #[.string (strB cmd), .slice none 0 0] hbt (strB cmd) ?_
       · rfl
       · rfl
       · rfl)
    | (with_reducible refine wp_store_blk (o := ⟨none, _, _, _, _, _⟩) ?_ 37 (.tmp 4) (.tmp 13) ?_ (w3.heap.size) 37 (YFrm.toArray) (#[.string (strB cmd), .slice none 0 0]) ?_ ?_ (Blk.new w3 _ _) ?_ ?_ ?_ (w3.heap.size) (w3) ?_ ?_ ?_
       · rfl
       · rfl
       · rfl
       · rfl
       · exact ((by kernel_rfl))
       · exact (rfl)
       · exact ((by rw [List.all_toArray]; rfl))
       · exact (hbn)
       · exact (Nat.le_refl _)
       intro w4 hB4 hb4 hg4 hs4))
  try simp only [put_none]
  have HB14 := Lib.hid (HB13.out.fut hb4)
  have HB24 := Lib.hid (HB23.out.fut hb4)
  have HW4 := Lib.hid (below_fut HW3.out hb4 (Nat.le_refl _))
  have HB44 := Lib.hid hB4.out
  obtain ⟨z4, hz4⟩ : ∃ z, z = w3.heap.size := ⟨_, rfl⟩
  rw [← hz4] at HB44 ⊢
  have HZ4L : Hid (zm < z4 ∧ z2 < z4 ∧ w.heap.size ≤ z4) := Lib.hid (by rw [hz4]; exact ⟨HB13.out.lt, HB23.out.lt, HW3.out.size⟩)
  clear hbn hz4 hB4 hb4 hg4 hs4 HB13 HB23 HW3
  have c4 : w4.cell? ⟨z4, 0, none⟩ = some (.string (strB cmd)) := by have := HB44.out.cell 0; simpa using this
  have heq : (strB cmd).toList.isEmpty = false := strB_full HCM.out
  have hcl := HC.out.len
  have HCL := Lib.hid hcl
  have l1 : w4.rangeAt zm 0 cs := blk_range (by rw [HCS.out]; exact HB14.out)
  have hcc4 := msgC_keeps _ _ _ _ HC.out HW4.out
  have htoo4 := htoo w4 hcc4
  clear hcl hcc4 htoo
  go_wp2_with (first
    | (with_reducible refine wpList_load_midG (op := ⟨some 18, _, _, _, _, _⟩) ?_ 35 (.tmp 1) ?_ (zm) (0) ?_ (cs) _ (l1) Tryz.underlying35 ?_ ?_ ?_
       · rfl
       · rfl
       · rfl
       · rfl
       · exact ((info_Msg HCL.out))))
  refine htoo4.mono ?_
  rintro e wE ⟨rfl, hb5⟩
  have HMB := Lib.hid (HB14.out.fut hb5)
  have HZ2 := Lib.hid (HB24.out.fut hb5)
  have HZ4 := Lib.hid (HB44.out.fut hb5)
  have HWE := Lib.hid (below_fut HW4.out hb5 (Nat.le_refl _))
  have HMC := Lib.hid (msgC_keeps _ _ _ _ HC.out HWE.out)
  obtain ⟨gw, hgw⟩ : ∃ g, g = wE.heap.size := ⟨_, rfl⟩
  have HGE : Hid (wE.heap.size = gw) := Lib.hid hgw.symm
  have HLT : Hid (zm < gw ∧ z2 < gw ∧ z4 < gw ∧ w.heap.size ≤ z2 ∧ w.heap.size ≤ z4) := Lib.hid (by rw [hgw]; have h1 := HMB.out.lt; have h2 := HZ2.out.lt; have h3 := HZ4.out.lt; have h4 := HZZ.out; have h5 := HZ4L.out; omega)
  have hnb := below_new wE (.cells #[.slice none 0 0] 48)
  obtain ⟨w6, hw6⟩ : ∃ W, W = wE.alloc (.cells #[.slice none 0 0] 48) := ⟨_, rfl⟩
  have HW6 : Hid (WrM gw w6 (Value.slice none 0 0) []) := Lib.hid ⟨by rw [hw6, hgw]; exact Blk.new wE _ _, Own8.nil _ _⟩
  have HB6 : Hid (Below gw wE w6) := Lib.hid (by rw [hw6, hgw]; exact hnb)
  have a0 := ((HMB.out.below HB6.out HLT.out.1).msg HPV.out HST.out).c0
  have HE := Lib.hid (HEH.out.fut hashE_c HWE.out)
  have HTX : Hid (tx.length = n3 ∧ Row8 wE p3 tx) := Lib.hid ⟨HTX0.out.1, HTX0.out.2.below HWE.out (Nat.le_refl _)⟩
  have HED := Lib.hid (HDH.out.fut hdrE_c HWE.out)
  clear HEH HTX0 HDH
  clear hnb hb5 htoo4 l1 c4 HB14 HB24 HB44 HW4 HC heq hbt
  go_upto_region 5 with fail
  rw [← hw6, ← hgw]
  clear hw6 hgw hzw
  have HSR : Hid (Row8 wE (some ⟨zm, 35, none⟩) st) := Lib.hid (hash_row (HMB.out.msg HPV.out HST.out).rs HMB.out.lt)
  have HPR : Hid (Row8 wE (some ⟨zm, 3, none⟩) pv) := Lib.hid (hash_row (HMB.out.msg HPV.out HST.out).rp HMB.out.lt)
  go_upto_region 34 with fail
  clear a0
  have HFx95 : Hid (WF gw wE (Value.slice none 0 0) w6) := Lib.hid ⟨HW6.out.blk, HB6.out⟩
  have HOx95 := Lib.hid HW6.out.own
  clear HW6 HB6
  refine region_plan_tail [qq 1, qq 2, qq 4, qq 5, oo 0, oo 3, oo 6, oo 7, qq 8] 9 (fun W => WF gw wE (Value.slice none 0 0) W) (by kernel_rfl) (by kernel_rfl) (HFx95.out.fut (below_draws w6 1)) ?_
  refine' plan_quiet (s := 147) (A1 := _) [1, 2, 4, 5] [_, _, _, _] _ rfl rfl rfl (fun W hW => ?hqka) _ (HFx95.out.fut (below_draws w6 1)) (fun _ => ?hrka)
  case hqka =>
    simp only [List.getElem_toArray, List.getElem_cons_zero, List.getElem_cons_succ]
    obtain ⟨a0, a1, a2, ap, aq, a67, a68, a69, ab⟩ := (HMB.out.below hW.bel HLT.out.1).msg HPV.out HST.out
    have c69 : ∀ k, (W.drewN k).cell? ⟨zm, 69, none⟩ = some (.slice p3 n3 c3) := fun k => by simpa using a69
    clear a0 a1 a2 ap aq a67 a68 a69 ab
    iterate 4 (go_big_quiet_step (fail))
    refine wpQuiet_nil ?_
    rfl
  case hrka =>
  refine plan_one rfl fun k96 => ?_
  have hdr : Below w6.heap.size w6 (w6.drew.drewN k96) := below_drewN (Below.refl _ _).drew k96
  have HFd96 := Lib.hid (HFx95.out.fut hdr)
  clear HFx95 HOx95 hdr
  generalize w6.drew.drewN k96 = Wd96 at *
  have hnb := below_new Wd96 (.cells #[.int .u8 (iv8 0#8)] 5)
  have HFe96 := Lib.hid (HFd96.out.fut hnb)
  have HOe96 := Lib.hid (own_lit Wd96 (gw + 1) 1 [0#8] HFd96.out.size rfl (by unfold maxLen; omega))
  go_wp2_with fail
  obtain ⟨V96, hV96⟩ : ∃ V, V = Wd96.alloc (.cells #[.int .u8 (iv8 0#8)] 5) := ⟨_, rfl⟩
  have HFf96 : Hid (WF gw wE (Value.slice none 0 0) V96) := Lib.hid (by rw [hV96]; exact HFe96.out)
  have HOf96 : Hid (Own8 V96 (gw + 1) (.slice (some ⟨Wd96.heap.size, 0, none⟩) 1 1) [0#8]) := Lib.hid (by rw [hV96]; exact HOe96.out)
  have hV2 : Wd96.alloc (.cells #[.int .u8 0] 5) = V96 := hV96.symm
  simp only [hV2]
  generalize Wd96.heap.size = g96 at *
  clear hV2 hV96 hnb HFe96 HOe96 HFd96
  refine planQ_normal (And.intro HFf96.out ?_)
  refine plan_one rfl fun k97 => ?_
  have hdr : Below V96.heap.size V96 (V96.drewN k97) := below_draws V96 k97
  have HFd97 := Lib.hid (HFf96.out.fut hdr)
  have HOd97 := Lib.hid (HOf96.out.fut hdr)
  clear HFf96 HOf96 hdr
  generalize V96.drewN k97 = Wd97 at *
  refine wp_append8 (o := ⟨some 116, _, _, _, _, _⟩) rfl (.tmp 113) (.tmp 115) rfl (gw + 1) _ _ rfl HOd97.out (some ⟨zm, 35, none⟩) 32 32 (st) rfl HST.out ((HSR.out.below HFd97.out.bel (Nat.le_of_eq HGE.out))) (by simp only [List.length_cons, List.length_nil]; have := HST.out; omega) HFd97.out.size (gw + 1) Wd97 (Below.refl _ _) (Nat.le_refl _) ?_
  intro vz98 W98 ho _ hg hk
  have HF98 := Lib.hid (HFd97.out.app HOd97.out hg)
  obtain ⟨qz98, mz98, dz98, rfl, _⟩ := ho.open
  have HO98 := Lib.hid ho
  clear HFd97 HOd97 ho hg hk
  go_wp2_with fail
  refine planQ_normal (And.intro HF98.out ?_)
  refine plan_one rfl fun k99 => ?_
  have hdr : Below W98.heap.size W98 (W98.drewN k99) := below_draws W98 k99
  have HFd99 := Lib.hid (HF98.out.fut hdr)
  have HOd99 := Lib.hid (HO98.out.fut hdr)
  clear HF98 HO98 hdr
  generalize W98.drewN k99 = Wd99 at *
  go_wp2_with fail
  refine (text_any p3 n3 c3 tx Wd99 (HTX.out.2.below HFd99.out.bel (Nat.le_of_eq HGE.out)) HTX.out.1 (by have := HTXB.out; have := HTX.out.1; omega)).mono ?_
  rintro e W100 ⟨vz100, rfl, ho, hb⟩
  replace ho : Own8 W100 Wd99.heap.size vz100 (text tx) := ho
  obtain ⟨pz100, nz100, cz100, rfl, hn100, hnc100, hcm100, hr100⟩ := ho.open
  have HR100 := Lib.hid hr100
  have HF100 := Lib.hid (HFd99.out.fut hb)
  have HO100 := Lib.hid (HOd99.out.fut hb)
  clear HFd99 HOd99 ho hb hr100
  go_wp2_with fail
  refine planQ_normal (And.intro HF100.out ?_)
  refine plan_one rfl fun k101 => ?_
  have hdr : Below W100.heap.size W100 (W100.drewN k101) := below_draws W100 k101
  have HFd101 := Lib.hid (HF100.out.fut hdr)
  have HOd101 := Lib.hid (HO100.out.fut hdr)
  have HR100_101 := Lib.hid ((HR100.out).fut hdr)
  clear HR100
  clear HF100 HO100 hdr
  generalize W100.drewN k101 = Wd101 at *
  refine wp_append8 (o := ⟨some 120, _, _, _, _, _⟩) rfl (.tmp 116) (.tmp 119) rfl (gw + 1) _ _ rfl HOd101.out pz100 nz100 cz100 (text tx) rfl hn100.out (HR100_101.out) (by rw [List.length_append]; simp only [List.length_cons, List.length_nil]; have := HST.out; have := HTXL.out; omega) HFd101.out.size (gw + 1) Wd101 (Below.refl _ _) (Nat.le_refl _) ?_
  intro vz102 W102 ho _ hg hk
  have HF102 := Lib.hid (HFd101.out.app HOd101.out hg)
  obtain ⟨qz102, mz102, dz102, rfl, _⟩ := ho.open
  have HO102 := Lib.hid ho
  clear HFd101 HOd101 ho hg hk
  go_wp2_with fail
  refine planQ_normal (And.intro HF102.out ?_)
  refine' plan_quiet (s := 147) (A1 := _) (r := []) [8] [_] _ rfl rfl rfl (fun W hW => ?hqkb) _ HF102.out (fun _ => ?hrkb)
  case hqkb =>
    simp only [List.getElem_toArray, List.getElem_cons_zero, List.getElem_cons_succ]
    iterate 1 (go_big_quiet_step (fail))
    refine wpQuiet_nil ?_
    rfl
  case hrkb =>
  refine plan_end fun k103 => HeadQ.normal ?_
  have hdr := below_draws W102 k103
  have HFz103 := Lib.hid (HF102.out.fut hdr)
  have HOz103 := Lib.hid (HO102.out.fut hdr)
  clear HF102 HO102 hdr
  generalize W102.drewN k103 = Wz103 at *
  have fz103 := HFz103.out.blk.frozen 0
  have ez103 := HFz103.out.blk.cell 0
  simp only [List.getElem?_toArray, List.getElem?_cons_zero] at ez103
  have HWS := Lib.hid (WrM.put HFz103.out.blk HOz103.out)
  have HBS := Lib.hid (HFz103.out.bel.trans (below_poke gw Wz103 (Value.slice qz102 mz102 dz102)))
  go_upto_region 43 with fail
  have HW104 := HWS
  have HB104 := HBS
  obtain ⟨w104, hw104⟩ : ∃ W, W = Wz103.setCell ⟨gw, 0, none⟩ (Value.slice qz102 mz102 dz102) := ⟨_, rfl⟩
  rw [← hw104] at HW104 HB104 ⊢
  clear HWS HBS hw104 fz103 ez103 HFz103 HOz103
  have H4 := Lib.hid (HZ4.out.below HB104.out HLT.out.2.2.1)
  have H2 := Lib.hid (HZ2.out.below HB104.out HLT.out.2.1)
  have cg : w104.cell? ⟨gw, 0, none⟩ = some (Value.slice qz102 mz102 dz102) := by have := HW104.out.blk.cell 0; simpa using this
  have f4 := H4.out.frozen 1
  have d4 : w104.cell? ⟨z4, 1, none⟩ = some (.slice none 0 0) := by have := H4.out.cell 1; simpa using this
  have HO := Lib.hid (Own8.mono' HW104.out.own (B' := w.heap.size) (by have := HLT.out; omega))
  have HBW := Lib.hid (HWE.out.trans (HB104.out.mono (by have := HLT.out; omega)))
  go_upto_region 44 with fail
  have hst4 := Stays.set w104 z4 1 (Value.slice qz102 mz102 dz102)
  have H4b : Hid (Blk (w104.setCell ⟨z4, 1, none⟩ (Value.slice qz102 mz102 dz102)) z4 37 #[.string (strB cmd), (Value.slice qz102 mz102 dz102)]) := Lib.hid (by have := H4.out.set 1 (Value.slice qz102 mz102 dz102); simpa using this)
  have H2b := Lib.hid (H2.out.stays hst4 (by have := HZ4L.out; omega))
  have HO4 := Lib.hid (HO.out.sep hst4 (sep_one H4.out (by decide)))
  have HB4 : Hid (Below w.heap.size w (w104.setCell ⟨z4, 1, none⟩ (Value.slice qz102 mz102 dz102))) := Lib.hid (HBW.out.setCell (show w.heap.size ≤ z4 from HLT.out.2.2.2.2) _)
  clear hst4 cg f4 d4 H4 H2 HO HBW HW104 HB104
  generalize w104.setCell ⟨z4, 1, none⟩ (Value.slice qz102 mz102 dz102) = wF at *
  have l4 := blk_range (cs := [.string (strB cmd), (Value.slice qz102 mz102 dz102)]) H4b.out
  have hbr := Below.refl w.heap.size wF
  have hz2w : w.heap.size ≤ z2 := HLT.out.2.2.2.1
  go_wp2_with (first
    | (with_reducible refine wpList_load_mid (op := ⟨some 146, _, _, _, _, _⟩) ?_ 37 (.tmp 4) ?_ (z4) (0) ?_ ([.string (strB cmd), (Value.slice qz102 mz102 dz102)]) _ (l4) Tryz.underlying37 ?_ ?_ ?_
       · rfl
       · rfl
       · rfl
       · rfl
       · exact ((by kernel_rfl)))
    | (with_reducible refine wp_store_blk (o := ⟨none, _, _, _, _, _⟩) ?_ 37 (.tmp 2) (.tmp 146) ?_ (z2) 37 (YFrm.toArray) (#[.string (strB cmd), (Value.slice qz102 mz102 dz102)]) ?_ ?_ (H2b.out) ?_ ?_ ?_ (w.heap.size) (wF) ?_ ?_ ?_
       · rfl
       · rfl
       · rfl
       · rfl
       · exact ((by kernel_rfl))
       · exact (rfl)
       · exact ((by rw [List.all_toArray]; rfl))
       · exact (hbr)
       · exact (hz2w)
       intro wG hBG hbG hgG hsG))
  refine bodyPost_ret (results_cell2 rfl _ _ _ z2 _ [.string (strB cmd), (Value.slice qz102 mz102 dz102)] _ rfl hBG.out Tryz.underlying37 rfl (by kernel_rfl)) rfl ?_
  have hst := Stays.of_grown (S := fun k => k = z2) hgG.out (fun k h => by injection h with h; exact h.symm)
  rw [HMP.out]
  exact ⟨_, rfl, by have h := HO4.out.sep hst (sep_one H2b.out (by decide)); simpa only [List.nil_append, List.append_assoc, List.append_nil] using h, HB4.out.trans hbG⟩
set_option maxRecDepth 100000 in
set_option maxHeartbeats 8000000 in
theorem enc_k11 (nu : BitVec 32) (no : BitVec 64) (pv st : Bs) (hs : List Bs) (hd : List Hdr) (tx : Bs) (bl : TBlk) (cs : List Value) (w : World) (hc : MsgC w ⟨11, nu, no, pv, st, hs, hd, tx, bl⟩ cs) (ht : tooB ⟨11, nu, no, pv, st, hs, hd, tx, bl⟩ = false) :
    Calls Tryz.prog 4 #[.agg cs.toArray] w (MsgEnc w (msgP ⟨11, nu, no, pv, st, hs, hd, tx, bl⟩)) := by
  have hk0 : cmdB (11) = cmdN 11 := rfl
  obtain ⟨cmd, hcmd⟩ : ∃ c, c = cmdN 11 := ⟨_, rfl⟩
  have HCM : Hid (cmd ≠ []) := Lib.hid (by rw [hcmd]; decide)
  have HMP : Hid (msgP ⟨11, nu, no, pv, st, hs, hd, tx, bl⟩ = (cmd, (payP ⟨11, nu, no, pv, st, hs, hd, tx, bl⟩).1, 0)) := Lib.hid (by rw [hcmd]; exact msgP_ok _ (pay_good _ (show (1 : Int) ≤ 11 ∧ (11 : Int) ≤ 11 ∨ (11 : Int) = 13 by omega) ht))
  have HMP : Hid (msgP ⟨11, nu, no, pv, st, hs, hd, tx, bl⟩ = (cmd, hshB wantB hs, 0)) := Lib.hid (HMP.out.trans (by rw [pay_k11 ht]))
  have hn1 : hs.length ≤ 100000 := by have h : hs.length ≤ 1000 := lim_hs _ ht; omega
  have HSL : Hid ((hshB wantB hs).length ≤ 100000) := Lib.hid (by have h : hs.length ≤ 1000 := lim_hs _ ht; have := hshB_le (a := wantB) (l := hs) hc.okMsg.2.2.1 (by decide); omega)
  have HC := Lib.hid hc
  have htoo := fun W (h : MsgC W ⟨11, nu, no, pv, st, hs, hd, tx, bl⟩ cs) => too_any _ cs W h
  rw [ht] at htoo
  have hcc := fun W => command_any (11) W
  rw [hk0, ← hcmd] at hcc
  obtain ⟨hv, dv, bv, bc, hcs, hpv, hst, hh, hdd, hb, hbl⟩ := hc
  obtain ⟨p1, n1, c1, rfl⟩ := hh.opens
  obtain ⟨p2, n2, c2, rfl⟩ := hdd.opens
  obtain ⟨p3, n3, c3, rfl⟩ := hb.opens
  obtain ⟨zm, hzm⟩ : ∃ z, z = w.heap.size := ⟨_, rfl⟩
  obtain ⟨W1, hW1⟩ : ∃ W, W = w.alloc (.cells cs.toArray 35) := ⟨_, rfl⟩
  obtain ⟨W2, hW2⟩ : ∃ W, W = W1.alloc (.cells YFrm.toArray 37) := ⟨_, rfl⟩
  have z1 : W1.heap.size = zm + 1 := by rw [hW1, World.size_alloc, hzm]
  have k1 : Below w.heap.size w W1 := by rw [hW1]; exact below_new w _
  have k2 : Below W1.heap.size W1 W2 := by rw [hW2]; exact below_new W1 _
  have k02 := below_fut k1 k2 (Nat.le_refl _)
  obtain ⟨z2, hz2⟩ : ∃ z, z = zm + 1 := ⟨_, rfl⟩
  have B1 : Blk W2 zm 35 cs.toArray := (show Blk W1 zm _ _ by rw [hW1, hzm]; exact Blk.new w _ _).fut k2
  have B2 : Blk W2 z2 37 YFrm.toArray := by rw [hW2, hz2, ← z1]; exact Blk.new W1 _ _
  rw [hcs] at B1
  have HPV := Lib.hid hpv
  have HL0 : Hid (([] : Bs).length ≤ 0) := Lib.hid (Nat.le_refl 0)
  have HN1 : Hid (n1 = hs.length) := Lib.hid hh.slen.1.symm
  have HN3 := Lib.hid hb.slen.1
  have HEH := Lib.hid hh
  have HN2 : Hid (hd.length = n2) := Lib.hid hdd.slen.1
  have HDH := Lib.hid hdd
  have HOKS : Hid (∀ x ∈ hd, Hdr.ok x) := Lib.hid HC.out.okMsg.2.2.2.1
  have HTX0 : Hid (tx.length = n3 ∧ Row8 w p3 tx) := Lib.hid (by obtain ⟨p', n', c', e, h1, _, _, h4, _⟩ := hb; injection e with e1 e2 _; rw [e1, e2]; exact ⟨h1, h4⟩)
  have HST := Lib.hid hst
  have a0 := (B1.msg hpv hst).c0
  have HB1 := Lib.hid B1
  have HB2 := Lib.hid B2
  have HK02 := Lib.hid k02
  have HCS := Lib.hid hcs
  have HZZ : Hid (zm = w.heap.size ∧ z2 = zm + 1) := Lib.hid ⟨hzm, hz2⟩
  have hzf := yFrm
  have hbt := fun s => built_frm1 s
  have hzw := zWriter
  clear k1 k2 k02 z1 B1 B2 hcs hpv hst hh hdd hb hbl hcmd hk0 ht
  go_enter Tryz.func4, Tryz.ntmps4
  go_upto_region 1 with fail
  rw [← hW1, ← hW2, ← hzm, ← hz2]
  clear hW1 hW2 hzm hz2
  go_wp2_with fail
  refine (hcc W2).mono ?_
  rintro e w3 ⟨rfl, hb3⟩
  have HB13 := Lib.hid (HB1.out.fut hb3)
  have HB23 := Lib.hid (HB2.out.fut hb3)
  have HW3 := Lib.hid (below_fut HK02.out hb3 (Nat.le_refl _))
  have hbn := below_new w3 (.cells YFrm.toArray 37)
  clear hb3 a0 HB1 HB2 HK02 hcc
  go_upto_region 2 with (first
    | (with_reducible refine wp_build (o := ⟨some 13, _, _, _, _, _⟩) ?_ 37 #[(0, .tmp 12)] ?_ [(0, .string (strB cmd))] ?_ #[.string (strB cmd), .slice none 0 0] hbt (strB cmd) ?_
       · rfl
       · rfl
       · rfl)
    | (with_reducible refine wp_store_blk (o := ⟨none, _, _, _, _, _⟩) ?_ 37 (.tmp 4) (.tmp 13) ?_ (w3.heap.size) 37 (YFrm.toArray) (#[.string (strB cmd), .slice none 0 0]) ?_ ?_ (Blk.new w3 _ _) ?_ ?_ ?_ (w3.heap.size) (w3) ?_ ?_ ?_
       · rfl
       · rfl
       · rfl
       · rfl
       · exact ((by kernel_rfl))
       · exact (rfl)
       · exact ((by rw [List.all_toArray]; rfl))
       · exact (hbn)
       · exact (Nat.le_refl _)
       intro w4 hB4 hb4 hg4 hs4))
  try simp only [put_none]
  have HB14 := Lib.hid (HB13.out.fut hb4)
  have HB24 := Lib.hid (HB23.out.fut hb4)
  have HW4 := Lib.hid (below_fut HW3.out hb4 (Nat.le_refl _))
  have HB44 := Lib.hid hB4.out
  obtain ⟨z4, hz4⟩ : ∃ z, z = w3.heap.size := ⟨_, rfl⟩
  rw [← hz4] at HB44 ⊢
  have HZ4L : Hid (zm < z4 ∧ z2 < z4 ∧ w.heap.size ≤ z4) := Lib.hid (by rw [hz4]; exact ⟨HB13.out.lt, HB23.out.lt, HW3.out.size⟩)
  clear hbn hz4 hB4 hb4 hg4 hs4 HB13 HB23 HW3
  have c4 : w4.cell? ⟨z4, 0, none⟩ = some (.string (strB cmd)) := by have := HB44.out.cell 0; simpa using this
  have heq : (strB cmd).toList.isEmpty = false := strB_full HCM.out
  have hcl := HC.out.len
  have HCL := Lib.hid hcl
  have l1 : w4.rangeAt zm 0 cs := blk_range (by rw [HCS.out]; exact HB14.out)
  have hcc4 := msgC_keeps _ _ _ _ HC.out HW4.out
  have htoo4 := htoo w4 hcc4
  clear hcl hcc4 htoo
  go_wp2_with (first
    | (with_reducible refine wpList_load_midG (op := ⟨some 18, _, _, _, _, _⟩) ?_ 35 (.tmp 1) ?_ (zm) (0) ?_ (cs) _ (l1) Tryz.underlying35 ?_ ?_ ?_
       · rfl
       · rfl
       · rfl
       · rfl
       · exact ((info_Msg HCL.out))))
  refine htoo4.mono ?_
  rintro e wE ⟨rfl, hb5⟩
  have HMB := Lib.hid (HB14.out.fut hb5)
  have HZ2 := Lib.hid (HB24.out.fut hb5)
  have HZ4 := Lib.hid (HB44.out.fut hb5)
  have HWE := Lib.hid (below_fut HW4.out hb5 (Nat.le_refl _))
  have HMC := Lib.hid (msgC_keeps _ _ _ _ HC.out HWE.out)
  obtain ⟨gw, hgw⟩ : ∃ g, g = wE.heap.size := ⟨_, rfl⟩
  have HGE : Hid (wE.heap.size = gw) := Lib.hid hgw.symm
  have HLT : Hid (zm < gw ∧ z2 < gw ∧ z4 < gw ∧ w.heap.size ≤ z2 ∧ w.heap.size ≤ z4) := Lib.hid (by rw [hgw]; have h1 := HMB.out.lt; have h2 := HZ2.out.lt; have h3 := HZ4.out.lt; have h4 := HZZ.out; have h5 := HZ4L.out; omega)
  have hnb := below_new wE (.cells #[.slice none 0 0] 48)
  obtain ⟨w6, hw6⟩ : ∃ W, W = wE.alloc (.cells #[.slice none 0 0] 48) := ⟨_, rfl⟩
  have HW6 : Hid (WrM gw w6 (Value.slice none 0 0) []) := Lib.hid ⟨by rw [hw6, hgw]; exact Blk.new wE _ _, Own8.nil _ _⟩
  have HB6 : Hid (Below gw wE w6) := Lib.hid (by rw [hw6, hgw]; exact hnb)
  have a0 := ((HMB.out.below HB6.out HLT.out.1).msg HPV.out HST.out).c0
  have HE := Lib.hid (HEH.out.fut hashE_c HWE.out)
  have HTX : Hid (tx.length = n3 ∧ Row8 wE p3 tx) := Lib.hid ⟨HTX0.out.1, HTX0.out.2.below HWE.out (Nat.le_refl _)⟩
  have HED := Lib.hid (HDH.out.fut hdrE_c HWE.out)
  clear HEH HTX0 HDH
  clear hnb hb5 htoo4 l1 c4 HB14 HB24 HB44 HW4 HC heq hbt
  go_upto_region 5 with fail
  rw [← hw6, ← hgw]
  clear hw6 hgw hzw
  go_upto_region 37 with fail
  clear a0
  refine region_plan [qq 0, qq 1, oo 2, oo 3] (fun W => Below gw wE W) (by kernel_rfl) (by kernel_rfl) (HB6.out.trans ((below_draws w6 1).mono (Nat.le_of_lt HW6.out.blk.lt))) ?_
  refine' plan_quiet (s := 147) (A1 := _) [0, 1] [_, _] _ rfl rfl rfl (fun W hW => ?hq106) _ (HB6.out.trans ((below_draws w6 1).mono (Nat.le_of_lt HW6.out.blk.lt))) (fun _ => ?hr106)
  case hq106 =>
    have c67 : ∀ k, (W.drewN k).cell? ⟨zm, 67, none⟩ = some (.slice p1 n1 c1) := fun k => by have := ((HMB.out.below hW HLT.out.1).msg HPV.out HST.out).c67; simpa using this
    simp only [List.getElem_toArray, List.getElem_cons_zero, List.getElem_cons_succ]
    iterate 2 (go_big_quiet_step (fail))
    refine wpQuiet_nil ?_
    rfl
  case hr106 =>
  refine plan_one rfl fun k1 => ?_
  have hdr : Below w6.heap.size w6 (w6.drew.drewN k1) := below_drewN (Below.refl _ _).drew k1
  have HWa := Lib.hid (HW6.out.fut hdr)
  have HBa := Lib.hid (HB6.out.trans (hdr.mono (Nat.le_of_lt HW6.out.blk.lt)))
  clear hdr HW6 HB6
  generalize w6.drew.drewN k1 = Wa at *
  go_wp2_with fail
  refine (want_any Wa).mono ?_
  rintro e Wb ⟨vw, rfl, how, hbw⟩
  replace how : Own8 Wb Wa.heap.size vw wantB := how
  obtain ⟨pw, nw, cw, rfl, hnw, _⟩ := how.open
  have HAb := Lib.hid (ahead_own HWa.out.own HWa.out.blk.lt how)
  have HWb := Lib.hid (HWa.out.fut hbw)
  have HBb := Lib.hid (HBa.out.trans (hbw.mono (Nat.le_of_lt HWa.out.blk.lt)))
  have HNW := Lib.hid hnw
  clear how hbw HWa HBa hnw
  go_wp2_with fail
  refine planQ_normal (And.intro HBb.out ?_)
  refine plan_one rfl fun k2 => ?_
  have hdr := below_draws Wb k2
  have HWc := Lib.hid (HWb.out.fut hdr)
  have HBc := Lib.hid (HBb.out.trans (hdr.mono (Nat.le_of_lt HWb.out.blk.lt)))
  have HAc := Lib.hid (HAb.out.fut hdr)
  clear hdr HWb HBb HAb
  generalize Wb.drewN k2 = Wc at *
  go_wp2_with fail
  refine (wList_any p1 n1 c1 hs pw nw cw wantB gw Wc wE (Value.slice none 0 0) [] HWc.out (by decide) (by have := HN1.out; omega) (by decide) HBc.out (Nat.le_of_eq HGE.out) HE.out HNW.out HAc.out).mono ?_
  rintro e Wd ⟨rfl, vd, hwd, hbd⟩
  obtain ⟨qd, md, cd, rfl, _⟩ := hwd.own.open
  have HBd := Lib.hid (HBc.out.trans hbd)
  have HWd := Lib.hid hwd
  clear hwd hbd HWc HBc HAc
  go_wp2_with fail
  refine planQ_normal (And.intro HBd.out ?_)
  refine plan_end fun k3 => NoPanic.normal ?_
  have hdr := below_draws Wd k3
  have HWf := Lib.hid (HWd.out.fut hdr)
  have HBf := Lib.hid (HBd.out.trans (hdr.mono (Nat.le_of_lt HWd.out.blk.lt)))
  clear hdr HWd HBd
  generalize Wd.drewN k3 = We at *
  go_upto_region 43 with fail
  have H4 := Lib.hid (HZ4.out.below HBf.out HLT.out.2.2.1)
  have H2 := Lib.hid (HZ2.out.below HBf.out HLT.out.2.1)
  have cg : We.cell? ⟨gw, 0, none⟩ = some (Value.slice qd md cd) := by have := HWf.out.blk.cell 0; simpa using this
  have f4 := H4.out.frozen 1
  have d4 : We.cell? ⟨z4, 1, none⟩ = some (.slice none 0 0) := by have := H4.out.cell 1; simpa using this
  have HO := Lib.hid (Own8.mono' HWf.out.own (B' := w.heap.size) (by have := HLT.out; omega))
  have HBW := Lib.hid (HWE.out.trans (HBf.out.mono (by have := HLT.out; omega)))
  go_upto_region 44 with fail
  have hst4 := Stays.set We z4 1 (Value.slice qd md cd)
  have H4b : Hid (Blk (We.setCell ⟨z4, 1, none⟩ (Value.slice qd md cd)) z4 37 #[.string (strB cmd), (Value.slice qd md cd)]) := Lib.hid (by have := H4.out.set 1 (Value.slice qd md cd); simpa using this)
  have H2b := Lib.hid (H2.out.stays hst4 (by have := HZ4L.out; omega))
  have HO4 := Lib.hid (HO.out.sep hst4 (sep_one H4.out (by decide)))
  have HB4 : Hid (Below w.heap.size w (We.setCell ⟨z4, 1, none⟩ (Value.slice qd md cd))) := Lib.hid (HBW.out.setCell (show w.heap.size ≤ z4 from HLT.out.2.2.2.2) _)
  clear hst4 cg f4 d4 H4 H2 HO HBW HWf HBf
  generalize We.setCell ⟨z4, 1, none⟩ (Value.slice qd md cd) = wF at *
  have l4 := blk_range (cs := [.string (strB cmd), (Value.slice qd md cd)]) H4b.out
  have hbr := Below.refl w.heap.size wF
  have hz2w : w.heap.size ≤ z2 := HLT.out.2.2.2.1
  go_wp2_with (first
    | (with_reducible refine wpList_load_mid (op := ⟨some 146, _, _, _, _, _⟩) ?_ 37 (.tmp 4) ?_ (z4) (0) ?_ ([.string (strB cmd), (Value.slice qd md cd)]) _ (l4) Tryz.underlying37 ?_ ?_ ?_
       · rfl
       · rfl
       · rfl
       · rfl
       · exact ((by kernel_rfl)))
    | (with_reducible refine wp_store_blk (o := ⟨none, _, _, _, _, _⟩) ?_ 37 (.tmp 2) (.tmp 146) ?_ (z2) 37 (YFrm.toArray) (#[.string (strB cmd), (Value.slice qd md cd)]) ?_ ?_ (H2b.out) ?_ ?_ ?_ (w.heap.size) (wF) ?_ ?_ ?_
       · rfl
       · rfl
       · rfl
       · rfl
       · exact ((by kernel_rfl))
       · exact (rfl)
       · exact ((by rw [List.all_toArray]; rfl))
       · exact (hbr)
       · exact (hz2w)
       intro wG hBG hbG hgG hsG))
  refine bodyPost_ret (results_cell2 rfl _ _ _ z2 _ [.string (strB cmd), (Value.slice qd md cd)] _ rfl hBG.out Tryz.underlying37 rfl (by kernel_rfl)) rfl ?_
  have hst := Stays.of_grown (S := fun k => k = z2) hgG.out (fun k h => by injection h with h; exact h.symm)
  rw [HMP.out]
  exact ⟨_, rfl, by have h := HO4.out.sep hst (sep_one H2b.out (by decide)); simpa only [List.nil_append, List.append_assoc, List.append_nil] using h, HB4.out.trans hbG⟩
set_option maxRecDepth 100000 in
set_option maxHeartbeats 8000000 in
theorem enc_k13 (nu : BitVec 32) (no : BitVec 64) (pv st : Bs) (hs : List Bs) (hd : List Hdr) (tx : Bs) (bl : TBlk) (cs : List Value) (w : World) (hc : MsgC w ⟨13, nu, no, pv, st, hs, hd, tx, bl⟩ cs) (ht : tooB ⟨13, nu, no, pv, st, hs, hd, tx, bl⟩ = false) :
    Calls Tryz.prog 4 #[.agg cs.toArray] w (MsgEnc w (msgP ⟨13, nu, no, pv, st, hs, hd, tx, bl⟩)) := by
  have hk0 : cmdB (13) = cmdN 13 := rfl
  obtain ⟨cmd, hcmd⟩ : ∃ c, c = cmdN 13 := ⟨_, rfl⟩
  have HCM : Hid (cmd ≠ []) := Lib.hid (by rw [hcmd]; decide)
  have HMP : Hid (msgP ⟨13, nu, no, pv, st, hs, hd, tx, bl⟩ = (cmd, (payP ⟨13, nu, no, pv, st, hs, hd, tx, bl⟩).1, 0)) := Lib.hid (by rw [hcmd]; exact msgP_ok _ (pay_good _ (show (1 : Int) ≤ 13 ∧ (13 : Int) ≤ 11 ∨ (13 : Int) = 13 by omega) ht))
  have HMP : Hid (msgP ⟨13, nu, no, pv, st, hs, hd, tx, bl⟩ = (cmd, hshB wantB hs, 0)) := Lib.hid (HMP.out.trans (by rw [pay_k13 ht]))
  have hn1 : hs.length ≤ 100000 := by have h : hs.length ≤ 1000 := lim_hs _ ht; omega
  have HSL : Hid ((hshB wantB hs).length ≤ 100000) := Lib.hid (by have h : hs.length ≤ 1000 := lim_hs _ ht; have := hshB_le (a := wantB) (l := hs) hc.okMsg.2.2.1 (by decide); omega)
  have HC := Lib.hid hc
  have htoo := fun W (h : MsgC W ⟨13, nu, no, pv, st, hs, hd, tx, bl⟩ cs) => too_any _ cs W h
  rw [ht] at htoo
  have hcc := fun W => command_any (13) W
  rw [hk0, ← hcmd] at hcc
  obtain ⟨hv, dv, bv, bc, hcs, hpv, hst, hh, hdd, hb, hbl⟩ := hc
  obtain ⟨p1, n1, c1, rfl⟩ := hh.opens
  obtain ⟨p2, n2, c2, rfl⟩ := hdd.opens
  obtain ⟨p3, n3, c3, rfl⟩ := hb.opens
  obtain ⟨zm, hzm⟩ : ∃ z, z = w.heap.size := ⟨_, rfl⟩
  obtain ⟨W1, hW1⟩ : ∃ W, W = w.alloc (.cells cs.toArray 35) := ⟨_, rfl⟩
  obtain ⟨W2, hW2⟩ : ∃ W, W = W1.alloc (.cells YFrm.toArray 37) := ⟨_, rfl⟩
  have z1 : W1.heap.size = zm + 1 := by rw [hW1, World.size_alloc, hzm]
  have k1 : Below w.heap.size w W1 := by rw [hW1]; exact below_new w _
  have k2 : Below W1.heap.size W1 W2 := by rw [hW2]; exact below_new W1 _
  have k02 := below_fut k1 k2 (Nat.le_refl _)
  obtain ⟨z2, hz2⟩ : ∃ z, z = zm + 1 := ⟨_, rfl⟩
  have B1 : Blk W2 zm 35 cs.toArray := (show Blk W1 zm _ _ by rw [hW1, hzm]; exact Blk.new w _ _).fut k2
  have B2 : Blk W2 z2 37 YFrm.toArray := by rw [hW2, hz2, ← z1]; exact Blk.new W1 _ _
  rw [hcs] at B1
  have HPV := Lib.hid hpv
  have HL0 : Hid (([] : Bs).length ≤ 0) := Lib.hid (Nat.le_refl 0)
  have HN1 : Hid (n1 = hs.length) := Lib.hid hh.slen.1.symm
  have HN3 := Lib.hid hb.slen.1
  have HEH := Lib.hid hh
  have HN2 : Hid (hd.length = n2) := Lib.hid hdd.slen.1
  have HDH := Lib.hid hdd
  have HOKS : Hid (∀ x ∈ hd, Hdr.ok x) := Lib.hid HC.out.okMsg.2.2.2.1
  have HTX0 : Hid (tx.length = n3 ∧ Row8 w p3 tx) := Lib.hid (by obtain ⟨p', n', c', e, h1, _, _, h4, _⟩ := hb; injection e with e1 e2 _; rw [e1, e2]; exact ⟨h1, h4⟩)
  have HST := Lib.hid hst
  have a0 := (B1.msg hpv hst).c0
  have HB1 := Lib.hid B1
  have HB2 := Lib.hid B2
  have HK02 := Lib.hid k02
  have HCS := Lib.hid hcs
  have HZZ : Hid (zm = w.heap.size ∧ z2 = zm + 1) := Lib.hid ⟨hzm, hz2⟩
  have hzf := yFrm
  have hbt := fun s => built_frm1 s
  have hzw := zWriter
  clear k1 k2 k02 z1 B1 B2 hcs hpv hst hh hdd hb hbl hcmd hk0 ht
  go_enter Tryz.func4, Tryz.ntmps4
  go_upto_region 1 with fail
  rw [← hW1, ← hW2, ← hzm, ← hz2]
  clear hW1 hW2 hzm hz2
  go_wp2_with fail
  refine (hcc W2).mono ?_
  rintro e w3 ⟨rfl, hb3⟩
  have HB13 := Lib.hid (HB1.out.fut hb3)
  have HB23 := Lib.hid (HB2.out.fut hb3)
  have HW3 := Lib.hid (below_fut HK02.out hb3 (Nat.le_refl _))
  have hbn := below_new w3 (.cells YFrm.toArray 37)
  clear hb3 a0 HB1 HB2 HK02 hcc
  go_upto_region 2 with (first
    | (with_reducible refine wp_build (o := ⟨some 13, _, _, _, _, _⟩) ?_ 37 #[(0, .tmp 12)] ?_ [(0, .string (strB cmd))] ?_ #[.string (strB cmd), .slice none 0 0] hbt (strB cmd) ?_
       · rfl
       · rfl
       · rfl)
    | (with_reducible refine wp_store_blk (o := ⟨none, _, _, _, _, _⟩) ?_ 37 (.tmp 4) (.tmp 13) ?_ (w3.heap.size) 37 (YFrm.toArray) (#[.string (strB cmd), .slice none 0 0]) ?_ ?_ (Blk.new w3 _ _) ?_ ?_ ?_ (w3.heap.size) (w3) ?_ ?_ ?_
       · rfl
       · rfl
       · rfl
       · rfl
       · exact ((by kernel_rfl))
       · exact (rfl)
       · exact ((by rw [List.all_toArray]; rfl))
       · exact (hbn)
       · exact (Nat.le_refl _)
       intro w4 hB4 hb4 hg4 hs4))
  try simp only [put_none]
  have HB14 := Lib.hid (HB13.out.fut hb4)
  have HB24 := Lib.hid (HB23.out.fut hb4)
  have HW4 := Lib.hid (below_fut HW3.out hb4 (Nat.le_refl _))
  have HB44 := Lib.hid hB4.out
  obtain ⟨z4, hz4⟩ : ∃ z, z = w3.heap.size := ⟨_, rfl⟩
  rw [← hz4] at HB44 ⊢
  have HZ4L : Hid (zm < z4 ∧ z2 < z4 ∧ w.heap.size ≤ z4) := Lib.hid (by rw [hz4]; exact ⟨HB13.out.lt, HB23.out.lt, HW3.out.size⟩)
  clear hbn hz4 hB4 hb4 hg4 hs4 HB13 HB23 HW3
  have c4 : w4.cell? ⟨z4, 0, none⟩ = some (.string (strB cmd)) := by have := HB44.out.cell 0; simpa using this
  have heq : (strB cmd).toList.isEmpty = false := strB_full HCM.out
  have hcl := HC.out.len
  have HCL := Lib.hid hcl
  have l1 : w4.rangeAt zm 0 cs := blk_range (by rw [HCS.out]; exact HB14.out)
  have hcc4 := msgC_keeps _ _ _ _ HC.out HW4.out
  have htoo4 := htoo w4 hcc4
  clear hcl hcc4 htoo
  go_wp2_with (first
    | (with_reducible refine wpList_load_midG (op := ⟨some 18, _, _, _, _, _⟩) ?_ 35 (.tmp 1) ?_ (zm) (0) ?_ (cs) _ (l1) Tryz.underlying35 ?_ ?_ ?_
       · rfl
       · rfl
       · rfl
       · rfl
       · exact ((info_Msg HCL.out))))
  refine htoo4.mono ?_
  rintro e wE ⟨rfl, hb5⟩
  have HMB := Lib.hid (HB14.out.fut hb5)
  have HZ2 := Lib.hid (HB24.out.fut hb5)
  have HZ4 := Lib.hid (HB44.out.fut hb5)
  have HWE := Lib.hid (below_fut HW4.out hb5 (Nat.le_refl _))
  have HMC := Lib.hid (msgC_keeps _ _ _ _ HC.out HWE.out)
  obtain ⟨gw, hgw⟩ : ∃ g, g = wE.heap.size := ⟨_, rfl⟩
  have HGE : Hid (wE.heap.size = gw) := Lib.hid hgw.symm
  have HLT : Hid (zm < gw ∧ z2 < gw ∧ z4 < gw ∧ w.heap.size ≤ z2 ∧ w.heap.size ≤ z4) := Lib.hid (by rw [hgw]; have h1 := HMB.out.lt; have h2 := HZ2.out.lt; have h3 := HZ4.out.lt; have h4 := HZZ.out; have h5 := HZ4L.out; omega)
  have hnb := below_new wE (.cells #[.slice none 0 0] 48)
  obtain ⟨w6, hw6⟩ : ∃ W, W = wE.alloc (.cells #[.slice none 0 0] 48) := ⟨_, rfl⟩
  have HW6 : Hid (WrM gw w6 (Value.slice none 0 0) []) := Lib.hid ⟨by rw [hw6, hgw]; exact Blk.new wE _ _, Own8.nil _ _⟩
  have HB6 : Hid (Below gw wE w6) := Lib.hid (by rw [hw6, hgw]; exact hnb)
  have a0 := ((HMB.out.below HB6.out HLT.out.1).msg HPV.out HST.out).c0
  have HE := Lib.hid (HEH.out.fut hashE_c HWE.out)
  have HTX : Hid (tx.length = n3 ∧ Row8 wE p3 tx) := Lib.hid ⟨HTX0.out.1, HTX0.out.2.below HWE.out (Nat.le_refl _)⟩
  have HED := Lib.hid (HDH.out.fut hdrE_c HWE.out)
  clear HEH HTX0 HDH
  clear hnb hb5 htoo4 l1 c4 HB14 HB24 HB44 HW4 HC heq hbt
  go_upto_region 5 with fail
  rw [← hw6, ← hgw]
  clear hw6 hgw hzw
  go_upto_region 37 with fail
  clear a0
  refine region_plan [qq 0, qq 1, oo 2, oo 3] (fun W => Below gw wE W) (by kernel_rfl) (by kernel_rfl) (HB6.out.trans ((below_draws w6 1).mono (Nat.le_of_lt HW6.out.blk.lt))) ?_
  refine' plan_quiet (s := 147) (A1 := _) [0, 1] [_, _] _ rfl rfl rfl (fun W hW => ?hq108) _ (HB6.out.trans ((below_draws w6 1).mono (Nat.le_of_lt HW6.out.blk.lt))) (fun _ => ?hr108)
  case hq108 =>
    have c67 : ∀ k, (W.drewN k).cell? ⟨zm, 67, none⟩ = some (.slice p1 n1 c1) := fun k => by have := ((HMB.out.below hW HLT.out.1).msg HPV.out HST.out).c67; simpa using this
    simp only [List.getElem_toArray, List.getElem_cons_zero, List.getElem_cons_succ]
    iterate 2 (go_big_quiet_step (fail))
    refine wpQuiet_nil ?_
    rfl
  case hr108 =>
  refine plan_one rfl fun k1 => ?_
  have hdr : Below w6.heap.size w6 (w6.drew.drewN k1) := below_drewN (Below.refl _ _).drew k1
  have HWa := Lib.hid (HW6.out.fut hdr)
  have HBa := Lib.hid (HB6.out.trans (hdr.mono (Nat.le_of_lt HW6.out.blk.lt)))
  clear hdr HW6 HB6
  generalize w6.drew.drewN k1 = Wa at *
  go_wp2_with fail
  refine (want_any Wa).mono ?_
  rintro e Wb ⟨vw, rfl, how, hbw⟩
  replace how : Own8 Wb Wa.heap.size vw wantB := how
  obtain ⟨pw, nw, cw, rfl, hnw, _⟩ := how.open
  have HAb := Lib.hid (ahead_own HWa.out.own HWa.out.blk.lt how)
  have HWb := Lib.hid (HWa.out.fut hbw)
  have HBb := Lib.hid (HBa.out.trans (hbw.mono (Nat.le_of_lt HWa.out.blk.lt)))
  have HNW := Lib.hid hnw
  clear how hbw HWa HBa hnw
  go_wp2_with fail
  refine planQ_normal (And.intro HBb.out ?_)
  refine plan_one rfl fun k2 => ?_
  have hdr := below_draws Wb k2
  have HWc := Lib.hid (HWb.out.fut hdr)
  have HBc := Lib.hid (HBb.out.trans (hdr.mono (Nat.le_of_lt HWb.out.blk.lt)))
  have HAc := Lib.hid (HAb.out.fut hdr)
  clear hdr HWb HBb HAb
  generalize Wb.drewN k2 = Wc at *
  go_wp2_with fail
  refine (wList_any p1 n1 c1 hs pw nw cw wantB gw Wc wE (Value.slice none 0 0) [] HWc.out (by decide) (by have := HN1.out; omega) (by decide) HBc.out (Nat.le_of_eq HGE.out) HE.out HNW.out HAc.out).mono ?_
  rintro e Wd ⟨rfl, vd, hwd, hbd⟩
  obtain ⟨qd, md, cd, rfl, _⟩ := hwd.own.open
  have HBd := Lib.hid (HBc.out.trans hbd)
  have HWd := Lib.hid hwd
  clear hwd hbd HWc HBc HAc
  go_wp2_with fail
  refine planQ_normal (And.intro HBd.out ?_)
  refine plan_end fun k3 => NoPanic.normal ?_
  have hdr := below_draws Wd k3
  have HWf := Lib.hid (HWd.out.fut hdr)
  have HBf := Lib.hid (HBd.out.trans (hdr.mono (Nat.le_of_lt HWd.out.blk.lt)))
  clear hdr HWd HBd
  generalize Wd.drewN k3 = We at *
  go_upto_region 43 with fail
  have H4 := Lib.hid (HZ4.out.below HBf.out HLT.out.2.2.1)
  have H2 := Lib.hid (HZ2.out.below HBf.out HLT.out.2.1)
  have cg : We.cell? ⟨gw, 0, none⟩ = some (Value.slice qd md cd) := by have := HWf.out.blk.cell 0; simpa using this
  have f4 := H4.out.frozen 1
  have d4 : We.cell? ⟨z4, 1, none⟩ = some (.slice none 0 0) := by have := H4.out.cell 1; simpa using this
  have HO := Lib.hid (Own8.mono' HWf.out.own (B' := w.heap.size) (by have := HLT.out; omega))
  have HBW := Lib.hid (HWE.out.trans (HBf.out.mono (by have := HLT.out; omega)))
  go_upto_region 44 with fail
  have hst4 := Stays.set We z4 1 (Value.slice qd md cd)
  have H4b : Hid (Blk (We.setCell ⟨z4, 1, none⟩ (Value.slice qd md cd)) z4 37 #[.string (strB cmd), (Value.slice qd md cd)]) := Lib.hid (by have := H4.out.set 1 (Value.slice qd md cd); simpa using this)
  have H2b := Lib.hid (H2.out.stays hst4 (by have := HZ4L.out; omega))
  have HO4 := Lib.hid (HO.out.sep hst4 (sep_one H4.out (by decide)))
  have HB4 : Hid (Below w.heap.size w (We.setCell ⟨z4, 1, none⟩ (Value.slice qd md cd))) := Lib.hid (HBW.out.setCell (show w.heap.size ≤ z4 from HLT.out.2.2.2.2) _)
  clear hst4 cg f4 d4 H4 H2 HO HBW HWf HBf
  generalize We.setCell ⟨z4, 1, none⟩ (Value.slice qd md cd) = wF at *
  have l4 := blk_range (cs := [.string (strB cmd), (Value.slice qd md cd)]) H4b.out
  have hbr := Below.refl w.heap.size wF
  have hz2w : w.heap.size ≤ z2 := HLT.out.2.2.2.1
  go_wp2_with (first
    | (with_reducible refine wpList_load_mid (op := ⟨some 146, _, _, _, _, _⟩) ?_ 37 (.tmp 4) ?_ (z4) (0) ?_ ([.string (strB cmd), (Value.slice qd md cd)]) _ (l4) Tryz.underlying37 ?_ ?_ ?_
       · rfl
       · rfl
       · rfl
       · rfl
       · exact ((by kernel_rfl)))
    | (with_reducible refine wp_store_blk (o := ⟨none, _, _, _, _, _⟩) ?_ 37 (.tmp 2) (.tmp 146) ?_ (z2) 37 (YFrm.toArray) (#[.string (strB cmd), (Value.slice qd md cd)]) ?_ ?_ (H2b.out) ?_ ?_ ?_ (w.heap.size) (wF) ?_ ?_ ?_
       · rfl
       · rfl
       · rfl
       · rfl
       · exact ((by kernel_rfl))
       · exact (rfl)
       · exact ((by rw [List.all_toArray]; rfl))
       · exact (hbr)
       · exact (hz2w)
       intro wG hBG hbG hgG hsG))
  refine bodyPost_ret (results_cell2 rfl _ _ _ z2 _ [.string (strB cmd), (Value.slice qd md cd)] _ rfl hBG.out Tryz.underlying37 rfl (by kernel_rfl)) rfl ?_
  have hst := Stays.of_grown (S := fun k => k = z2) hgG.out (fun k h => by injection h with h; exact h.symm)
  rw [HMP.out]
  exact ⟨_, rfl, by have h := HO4.out.sep hst (sep_one H2b.out (by decide)); simpa only [List.nil_append, List.append_assoc, List.append_nil] using h, HB4.out.trans hbG⟩
set_option maxRecDepth 100000 in
set_option maxHeartbeats 8000000 in
theorem enc_k12 (nu : BitVec 32) (no : BitVec 64) (pv st : Bs) (hs : List Bs) (hd : List Hdr) (tx : Bs) (bl : TBlk) (cs : List Value) (w : World) (hc : MsgC w ⟨12, nu, no, pv, st, hs, hd, tx, bl⟩ cs) (ht : tooB ⟨12, nu, no, pv, st, hs, hd, tx, bl⟩ = false) :
    Calls Tryz.prog 4 #[.agg cs.toArray] w (MsgEnc w (msgP ⟨12, nu, no, pv, st, hs, hd, tx, bl⟩)) := by
  have hk0 : cmdB (12) = cmdN 12 := rfl
  obtain ⟨cmd, hcmd⟩ : ∃ c, c = cmdN 12 := ⟨_, rfl⟩
  have HCM : Hid (cmd ≠ []) := Lib.hid (by rw [hcmd]; decide)
  have HCM12 : Hid (cmdN 12 = cmd) := Lib.hid hcmd.symm
  have HC := Lib.hid hc
  have htoo := fun W (h : MsgC W ⟨12, nu, no, pv, st, hs, hd, tx, bl⟩ cs) => too_any _ cs W h
  rw [ht] at htoo
  have hcc := fun W => command_any (12) W
  rw [hk0, ← hcmd] at hcc
  obtain ⟨hv, dv, bv, bc, hcs, hpv, hst, hh, hdd, hb, hbl⟩ := hc
  obtain ⟨p1, n1, c1, rfl⟩ := hh.opens
  obtain ⟨p2, n2, c2, rfl⟩ := hdd.opens
  obtain ⟨p3, n3, c3, rfl⟩ := hb.opens
  obtain ⟨zm, hzm⟩ : ∃ z, z = w.heap.size := ⟨_, rfl⟩
  obtain ⟨W1, hW1⟩ : ∃ W, W = w.alloc (.cells cs.toArray 35) := ⟨_, rfl⟩
  obtain ⟨W2, hW2⟩ : ∃ W, W = W1.alloc (.cells YFrm.toArray 37) := ⟨_, rfl⟩
  have z1 : W1.heap.size = zm + 1 := by rw [hW1, World.size_alloc, hzm]
  have k1 : Below w.heap.size w W1 := by rw [hW1]; exact below_new w _
  have k2 : Below W1.heap.size W1 W2 := by rw [hW2]; exact below_new W1 _
  have k02 := below_fut k1 k2 (Nat.le_refl _)
  obtain ⟨z2, hz2⟩ : ∃ z, z = zm + 1 := ⟨_, rfl⟩
  have B1 : Blk W2 zm 35 cs.toArray := (show Blk W1 zm _ _ by rw [hW1, hzm]; exact Blk.new w _ _).fut k2
  have B2 : Blk W2 z2 37 YFrm.toArray := by rw [hW2, hz2, ← z1]; exact Blk.new W1 _ _
  rw [hcs] at B1
  have HPV := Lib.hid hpv
  have HBLW := Lib.hid hbl
  have HL0 : Hid (([] : Bs).length ≤ 0) := Lib.hid (Nat.le_refl 0)
  have HN1 : Hid (n1 = hs.length) := Lib.hid hh.slen.1.symm
  have HN3 := Lib.hid hb.slen.1
  have HEH := Lib.hid hh
  have HN2 : Hid (hd.length = n2) := Lib.hid hdd.slen.1
  have HDH := Lib.hid hdd
  have HOKS : Hid (∀ x ∈ hd, Hdr.ok x) := Lib.hid HC.out.okMsg.2.2.2.1
  have HTX0 : Hid (tx.length = n3 ∧ Row8 w p3 tx) := Lib.hid (by obtain ⟨p', n', c', e, h1, _, _, h4, _⟩ := hb; injection e with e1 e2 _; rw [e1, e2]; exact ⟨h1, h4⟩)
  have HST := Lib.hid hst
  have a0 := (B1.msg hpv hst).c0
  have HB1 := Lib.hid B1
  have HB2 := Lib.hid B2
  have HK02 := Lib.hid k02
  have HCS := Lib.hid hcs
  have HZZ : Hid (zm = w.heap.size ∧ z2 = zm + 1) := Lib.hid ⟨hzm, hz2⟩
  have hzf := yFrm
  have hbt := fun s => built_frm1 s
  have hzw := zWriter
  clear k1 k2 k02 z1 B1 B2 hcs hpv hst hh hdd hb hbl hcmd hk0 ht
  go_enter Tryz.func4, Tryz.ntmps4
  go_upto_region 1 with fail
  rw [← hW1, ← hW2, ← hzm, ← hz2]
  clear hW1 hW2 hzm hz2
  go_wp2_with fail
  refine (hcc W2).mono ?_
  rintro e w3 ⟨rfl, hb3⟩
  have HB13 := Lib.hid (HB1.out.fut hb3)
  have HB23 := Lib.hid (HB2.out.fut hb3)
  have HW3 := Lib.hid (below_fut HK02.out hb3 (Nat.le_refl _))
  have hbn := below_new w3 (.cells YFrm.toArray 37)
  clear hb3 a0 HB1 HB2 HK02 hcc
  go_upto_region 2 with (first
    | (with_reducible refine wp_build (o := ⟨some 13, _, _, _, _, _⟩) ?_ 37 #[(0, .tmp 12)] ?_ [(0, .string (strB cmd))] ?_ #[.string (strB cmd), .slice none 0 0] hbt (strB cmd) ?_
       · rfl
       · rfl
       · rfl)
    | (with_reducible refine wp_store_blk (o := ⟨none, _, _, _, _, _⟩) ?_ 37 (.tmp 4) (.tmp 13) ?_ (w3.heap.size) 37 (YFrm.toArray) (#[.string (strB cmd), .slice none 0 0]) ?_ ?_ (Blk.new w3 _ _) ?_ ?_ ?_ (w3.heap.size) (w3) ?_ ?_ ?_
       · rfl
       · rfl
       · rfl
       · rfl
       · exact ((by kernel_rfl))
       · exact (rfl)
       · exact ((by rw [List.all_toArray]; rfl))
       · exact (hbn)
       · exact (Nat.le_refl _)
       intro w4 hB4 hb4 hg4 hs4))
  try simp only [put_none]
  have HB14 := Lib.hid (HB13.out.fut hb4)
  have HB24 := Lib.hid (HB23.out.fut hb4)
  have HW4 := Lib.hid (below_fut HW3.out hb4 (Nat.le_refl _))
  have HB44 := Lib.hid hB4.out
  obtain ⟨z4, hz4⟩ : ∃ z, z = w3.heap.size := ⟨_, rfl⟩
  rw [← hz4] at HB44 ⊢
  have HZ4L : Hid (zm < z4 ∧ z2 < z4 ∧ w.heap.size ≤ z4) := Lib.hid (by rw [hz4]; exact ⟨HB13.out.lt, HB23.out.lt, HW3.out.size⟩)
  clear hbn hz4 hB4 hb4 hg4 hs4 HB13 HB23 HW3
  have c4 : w4.cell? ⟨z4, 0, none⟩ = some (.string (strB cmd)) := by have := HB44.out.cell 0; simpa using this
  have heq : (strB cmd).toList.isEmpty = false := strB_full HCM.out
  have hcl := HC.out.len
  have HCL := Lib.hid hcl
  have l1 : w4.rangeAt zm 0 cs := blk_range (by rw [HCS.out]; exact HB14.out)
  have hcc4 := msgC_keeps _ _ _ _ HC.out HW4.out
  have htoo4 := htoo w4 hcc4
  clear hcl hcc4 htoo
  go_wp2_with (first
    | (with_reducible refine wpList_load_midG (op := ⟨some 18, _, _, _, _, _⟩) ?_ 35 (.tmp 1) ?_ (zm) (0) ?_ (cs) _ (l1) Tryz.underlying35 ?_ ?_ ?_
       · rfl
       · rfl
       · rfl
       · rfl
       · exact ((info_Msg HCL.out))))
  refine htoo4.mono ?_
  rintro e wE ⟨rfl, hb5⟩
  have HMB := Lib.hid (HB14.out.fut hb5)
  have HZ2 := Lib.hid (HB24.out.fut hb5)
  have HZ4 := Lib.hid (HB44.out.fut hb5)
  have HWE := Lib.hid (below_fut HW4.out hb5 (Nat.le_refl _))
  have HMC := Lib.hid (msgC_keeps _ _ _ _ HC.out HWE.out)
  obtain ⟨gw, hgw⟩ : ∃ g, g = wE.heap.size := ⟨_, rfl⟩
  have HGE : Hid (wE.heap.size = gw) := Lib.hid hgw.symm
  have HLT : Hid (zm < gw ∧ z2 < gw ∧ z4 < gw ∧ w.heap.size ≤ z2 ∧ w.heap.size ≤ z4) := Lib.hid (by rw [hgw]; have h1 := HMB.out.lt; have h2 := HZ2.out.lt; have h3 := HZ4.out.lt; have h4 := HZZ.out; have h5 := HZ4L.out; omega)
  have hnb := below_new wE (.cells #[.slice none 0 0] 48)
  obtain ⟨w6, hw6⟩ : ∃ W, W = wE.alloc (.cells #[.slice none 0 0] 48) := ⟨_, rfl⟩
  have HW6 : Hid (WrM gw w6 (Value.slice none 0 0) []) := Lib.hid ⟨by rw [hw6, hgw]; exact Blk.new wE _ _, Own8.nil _ _⟩
  have HB6 : Hid (Below gw wE w6) := Lib.hid (by rw [hw6, hgw]; exact hnb)
  have a0 := ((HMB.out.below HB6.out HLT.out.1).msg HPV.out HST.out).c0
  have HE := Lib.hid (HEH.out.fut hashE_c HWE.out)
  have HTX : Hid (tx.length = n3 ∧ Row8 wE p3 tx) := Lib.hid ⟨HTX0.out.1, HTX0.out.2.below HWE.out (Nat.le_refl _)⟩
  have HED := Lib.hid (HDH.out.fut hdrE_c HWE.out)
  have HBL6 := Lib.hid (blkC_keeps _ _ _ _ HBLW.out HWE.out)
  clear HEH HTX0 HDH HBLW
  clear hnb hb5 htoo4 l1 c4 HB14 HB24 HB44 HW4 HC heq hbt
  go_upto_region 5 with fail
  rw [← hw6, ← hgw]
  clear hw6 hgw hzw
  obtain ⟨a0', a1, a2, ap, aq, a67, a68, a69, ab⟩ := (HMB.out.below HB6.out HLT.out.1).msg HPV.out HST.out
  clear a1 a2 ap aq a67 a68 a69 a0'
  have HBC := Lib.hid HMC.out.okMsg
  have hblc := HBL6.out
  have hbe := blkEncode_any bl bc w6 (blkC_keeps _ _ _ _ HBL6.out (by rw [HGE.out]; exact HB6.out))
  have HBLN := Lib.hid hblc.len
  have HBL1 := Lib.hid hblc.one
  obtain ⟨x, hx⟩ : ∃ x, x = blkP bl := ⟨_, rfl⟩
  rw [← hx] at hbe
  have HX := Lib.hid hx.symm
  obtain ⟨by_, er⟩ := x
  unfold OutB at hbe
  simp only at hbe
  clear hx hblc
  go_wp2_with ((with_reducible refine wpList_load_mid (op := ⟨some 133, _, _, _, _, _⟩) ?_ 33 (.tmp 132) ?_ (zm) (70) ?_ (bc) _ (ab) Tryz.underlying33 ?_ ?_ ?_
                · rfl
                · rfl
                · rfl
                · rfl
                · exact ((info_Blk HBLN.out))))
  refine hbe.mono ?_
  rintro e w7 ⟨v7, rfl, ho7, hb7⟩
  obtain ⟨q7, m7, c7, rfl, _⟩ := ho7.open
  have HG7 := Lib.hid (HW6.out.blk.fut hb7)
  have HB7 := Lib.hid (HB6.out.trans (hb7.mono (Nat.le_of_lt HW6.out.blk.lt)))
  have HO7 := Lib.hid (Own8.mono' ho7 HW6.out.blk.lt)
  have fg := HG7.out.frozen 0
  have dg : w7.cell? ⟨gw, 0, none⟩ = some (.slice none 0 0) := by have := HG7.out.cell 0; simpa using this
  clear hbe ho7 hb7 ab a0 HB6 HW6
  by_cases he : er = 0
  case neg =>
    have hb1 : (er == 0) = false := by rw [beq_eq_false_iff_ne]; exact he
    have HMP : Hid (msgP ⟨12, nu, no, pv, st, hs, hd, tx, bl⟩ = ([], [], er)) := Lib.hid (by rw [msgP_12, HX.out, if_neg he])
    have H2 := Lib.hid (HZ2.out.below HB7.out HLT.out.2.1)
    have HBW := Lib.hid (HWE.out.trans (HB7.out.mono (by have := HLT.out; omega)))
    have hbr := Below.refl w.heap.size w7
    have hz2w : w.heap.size ≤ z2 := HLT.out.2.2.2.1
    have hbt := built_frm0
    clear he
    go_wp2_with (first
      | (with_reducible refine wp_build (o := ⟨some 139, _, _, _, _, _⟩) ?_ 37 #[] ?_ [] ?_ YFrm.toArray hbt ?_
         · rfl
         · rfl
         · rfl)
      | (with_reducible refine wp_store_blk (o := ⟨none, _, _, _, _, _⟩) ?_ 37 (.tmp 2) (.tmp 139) ?_ (z2) 37 (YFrm.toArray) (YFrm.toArray) ?_ ?_ (H2.out) ?_ ?_ ?_ (w.heap.size) (w7) ?_ ?_ ?_
         · rfl
         · rfl
         · rfl
         · rfl
         · exact ((by kernel_rfl))
         · exact (rfl)
         · exact ((by rw [List.all_toArray]; rfl))
         · exact (hbr)
         · exact (hz2w)
         intro wG hBG hbG hgG hsG))
    refine bodyPost_ret (results_cell2 rfl _ _ _ z2 _ YFrm _ rfl hBG.out Tryz.underlying37 rfl (by kernel_rfl)) rfl ?_
    rw [HMP.out]
    exact ⟨_, rfl, Own8.nil _ _, HBW.out.trans hbG⟩
  subst he
  have HMP : Hid (msgP ⟨12, nu, no, pv, st, hs, hd, tx, bl⟩ = (cmd, by_, 0)) := Lib.hid (by rw [msgP_12, HX.out, if_pos rfl, HCM12.out])
  have HW8 := Lib.hid (WrM.put HG7.out HO7.out)
  have HB8 := Lib.hid (HB7.out.trans (below_poke gw w7 (.slice q7 m7 c7)))
  go_upto_region 43 with fail
  clear fg dg HG7 HB7 HO7
  generalize w7.setCell ⟨gw, 0, none⟩ (.slice q7 m7 c7) = w8 at *
  have H4 := Lib.hid (HZ4.out.below HB8.out HLT.out.2.2.1)
  have H2 := Lib.hid (HZ2.out.below HB8.out HLT.out.2.1)
  have cg : w8.cell? ⟨gw, 0, none⟩ = some (Value.slice q7 m7 c7) := by have := HW8.out.blk.cell 0; simpa using this
  have f4 := H4.out.frozen 1
  have d4 : w8.cell? ⟨z4, 1, none⟩ = some (.slice none 0 0) := by have := H4.out.cell 1; simpa using this
  have HO := Lib.hid (Own8.mono' HW8.out.own (B' := w.heap.size) (by have := HLT.out; omega))
  have HBW := Lib.hid (HWE.out.trans (HB8.out.mono (by have := HLT.out; omega)))
  go_upto_region 44 with fail
  have hst4 := Stays.set w8 z4 1 (Value.slice q7 m7 c7)
  have H4b : Hid (Blk (w8.setCell ⟨z4, 1, none⟩ (Value.slice q7 m7 c7)) z4 37 #[.string (strB cmd), (Value.slice q7 m7 c7)]) := Lib.hid (by have := H4.out.set 1 (Value.slice q7 m7 c7); simpa using this)
  have H2b := Lib.hid (H2.out.stays hst4 (by have := HZ4L.out; omega))
  have HO4 := Lib.hid (HO.out.sep hst4 (sep_one H4.out (by decide)))
  have HB4 : Hid (Below w.heap.size w (w8.setCell ⟨z4, 1, none⟩ (Value.slice q7 m7 c7))) := Lib.hid (HBW.out.setCell (show w.heap.size ≤ z4 from HLT.out.2.2.2.2) _)
  clear hst4 cg f4 d4 H4 H2 HO HBW HW8 HB8
  generalize w8.setCell ⟨z4, 1, none⟩ (Value.slice q7 m7 c7) = wF at *
  have l4 := blk_range (cs := [.string (strB cmd), (Value.slice q7 m7 c7)]) H4b.out
  have hbr := Below.refl w.heap.size wF
  have hz2w : w.heap.size ≤ z2 := HLT.out.2.2.2.1
  go_wp2_with (first
    | (with_reducible refine wpList_load_mid (op := ⟨some 146, _, _, _, _, _⟩) ?_ 37 (.tmp 4) ?_ (z4) (0) ?_ ([.string (strB cmd), (Value.slice q7 m7 c7)]) _ (l4) Tryz.underlying37 ?_ ?_ ?_
       · rfl
       · rfl
       · rfl
       · rfl
       · exact ((by kernel_rfl)))
    | (with_reducible refine wp_store_blk (o := ⟨none, _, _, _, _, _⟩) ?_ 37 (.tmp 2) (.tmp 146) ?_ (z2) 37 (YFrm.toArray) (#[.string (strB cmd), (Value.slice q7 m7 c7)]) ?_ ?_ (H2b.out) ?_ ?_ ?_ (w.heap.size) (wF) ?_ ?_ ?_
       · rfl
       · rfl
       · rfl
       · rfl
       · exact ((by kernel_rfl))
       · exact (rfl)
       · exact ((by rw [List.all_toArray]; rfl))
       · exact (hbr)
       · exact (hz2w)
       intro wG hBG hbG hgG hsG))
  refine bodyPost_ret (results_cell2 rfl _ _ _ z2 _ [.string (strB cmd), (Value.slice q7 m7 c7)] _ rfl hBG.out Tryz.underlying37 rfl (by kernel_rfl)) rfl ?_
  have hst := Stays.of_grown (S := fun k => k = z2) hgG.out (fun k h => by injection h with h; exact h.symm)
  rw [HMP.out]
  exact ⟨_, rfl, by have h := HO4.out.sep hst (sep_one H2b.out (by decide)); simpa only [List.nil_append, List.append_assoc, List.append_nil] using h, HB4.out.trans hbG⟩
set_option maxRecDepth 100000 in
set_option maxHeartbeats 8000000 in
theorem enc_bad (m : TMsg) (cs : List Value) (w : World) (hc : MsgC w m cs) (ht : cmdB m.k = [] ∨ tooB m = true) :
    Calls Tryz.prog 4 #[.agg cs.toArray] w (MsgEnc w (msgP m)) := by
  obtain ⟨cmd, hcmd⟩ : ∃ c, c = cmdB m.k := ⟨_, rfl⟩
  have HMP : Hid (msgP m = ([], [], 1)) := Lib.hid (by unfold msgP; rw [pay_bad m ht]; rfl)
  rw [← hcmd] at ht
  have HC := Lib.hid hc
  have htoo := fun W (h : MsgC W m cs) => too_any _ cs W h
  obtain ⟨tb, htb⟩ : ∃ b, b = tooB m := ⟨_, rfl⟩
  rw [← htb] at htoo ht
  have HTB := Lib.hid ht
  have hcc := fun W => command_any m.k W
  rw [← hcmd] at hcc
  obtain ⟨kk, hkk⟩ : ∃ k, k = m.k := ⟨_, rfl⟩
  rw [← hkk] at hcc
  obtain ⟨hv, dv, bv, bc, hcs, hpv, hst, hh, hdd, hb, hbl⟩ := hc
  obtain ⟨p1, n1, c1, rfl⟩ := hh.opens
  obtain ⟨p2, n2, c2, rfl⟩ := hdd.opens
  obtain ⟨p3, n3, c3, rfl⟩ := hb.opens
  obtain ⟨zm, hzm⟩ : ∃ z, z = w.heap.size := ⟨_, rfl⟩
  obtain ⟨W1, hW1⟩ : ∃ W, W = w.alloc (.cells cs.toArray 35) := ⟨_, rfl⟩
  obtain ⟨W2, hW2⟩ : ∃ W, W = W1.alloc (.cells YFrm.toArray 37) := ⟨_, rfl⟩
  have z1 : W1.heap.size = zm + 1 := by rw [hW1, World.size_alloc, hzm]
  have k1 : Below w.heap.size w W1 := by rw [hW1]; exact below_new w _
  have k2 : Below W1.heap.size W1 W2 := by rw [hW2]; exact below_new W1 _
  have k02 := below_fut k1 k2 (Nat.le_refl _)
  obtain ⟨z2, hz2⟩ : ∃ z, z = zm + 1 := ⟨_, rfl⟩
  have B1 : Blk W2 zm 35 cs.toArray := (show Blk W1 zm _ _ by rw [hW1, hzm]; exact Blk.new w _ _).fut k2
  have B2 : Blk W2 z2 37 YFrm.toArray := by rw [hW2, hz2, ← z1]; exact Blk.new W1 _ _
  rw [hcs] at B1
  have HPV := Lib.hid hpv
  have HST := Lib.hid hst
  have a0 := (B1.msg hpv hst).c0
  rw [← hkk] at a0
  have HB1 := Lib.hid B1
  have HB2 := Lib.hid B2
  have HK02 := Lib.hid k02
  have HCS := Lib.hid hcs
  have HZZ : Hid (zm = w.heap.size ∧ z2 = zm + 1) := Lib.hid ⟨hzm, hz2⟩
  have hzf := yFrm
  have hbt := fun s => built_frm1 s
  have hzw := zWriter
  clear k1 k2 k02 z1 B1 B2 hcs hpv hst hh hdd hb hbl hcmd ht htb hkk
  go_enter Tryz.func4, Tryz.ntmps4
  go_upto_region 1 with fail
  rw [← hW1, ← hW2, ← hzm, ← hz2]
  clear hW1 hW2 hzm hz2
  go_wp2_with fail
  refine (hcc W2).mono ?_
  rintro e w3 ⟨rfl, hb3⟩
  have HB13 := Lib.hid (HB1.out.fut hb3)
  have HB23 := Lib.hid (HB2.out.fut hb3)
  have HW3 := Lib.hid (below_fut HK02.out hb3 (Nat.le_refl _))
  have hbn := below_new w3 (.cells YFrm.toArray 37)
  clear hb3 a0 HB1 HB2 HK02 hcc
  go_upto_region 2 with (first
    | (with_reducible refine wp_build (o := ⟨some 13, _, _, _, _, _⟩) ?_ 37 #[(0, .tmp 12)] ?_ [(0, .string (strB cmd))] ?_ #[.string (strB cmd), .slice none 0 0] hbt (strB cmd) ?_
       · rfl
       · rfl
       · rfl)
    | (with_reducible refine wp_store_blk (o := ⟨none, _, _, _, _, _⟩) ?_ 37 (.tmp 4) (.tmp 13) ?_ (w3.heap.size) 37 (YFrm.toArray) (#[.string (strB cmd), .slice none 0 0]) ?_ ?_ (Blk.new w3 _ _) ?_ ?_ ?_ (w3.heap.size) (w3) ?_ ?_ ?_
       · rfl
       · rfl
       · rfl
       · rfl
       · exact ((by kernel_rfl))
       · exact (rfl)
       · exact ((by rw [List.all_toArray]; rfl))
       · exact (hbn)
       · exact (Nat.le_refl _)
       intro w4 hB4 hb4 hg4 hs4))
  try simp only [put_none]
  have HB14 := Lib.hid (HB13.out.fut hb4)
  have HB24 := Lib.hid (HB23.out.fut hb4)
  have HW4 := Lib.hid (below_fut HW3.out hb4 (Nat.le_refl _))
  have HB44 := Lib.hid hB4.out
  obtain ⟨z4, hz4⟩ : ∃ z, z = w3.heap.size := ⟨_, rfl⟩
  rw [← hz4] at HB44 ⊢
  have HZ4L : Hid (zm < z4 ∧ z2 < z4 ∧ w.heap.size ≤ z4) := Lib.hid (by rw [hz4]; exact ⟨HB13.out.lt, HB23.out.lt, HW3.out.size⟩)
  clear hbn hz4 hB4 hb4 hg4 hs4 HB13 HB23 HW3
  have c4 : w4.cell? ⟨z4, 0, none⟩ = some (.string (strB cmd)) := by have := HB44.out.cell 0; simpa using this
  by_cases hce : cmd = []
  · have heq : (strB cmd).toList.isEmpty = true := by rw [hce]; unfold strB; rw [Lib.strOfNums_toList]; rfl
    clear hce htoo
    have hbr := Below.refl w.heap.size w4
    have hz2w : w.heap.size ≤ z2 := by have := HZZ.out; omega
    have hbt0 := built_frm0
    clear hbt
    go_wp2_with (first
      | (with_reducible refine wp_build (o := ⟨some 21, _, _, _, _, _⟩) ?_ 37 #[] ?_ [] ?_ YFrm.toArray hbt0 ?_
         · rfl
         · rfl
         · rfl)
      | (with_reducible refine wp_store_blk (o := ⟨none, _, _, _, _, _⟩) ?_ 37 (.tmp 2) (.tmp 21) ?_ (z2) 37 (YFrm.toArray) (YFrm.toArray) ?_ ?_ (HB24.out) ?_ ?_ ?_ (w.heap.size) (w4) ?_ ?_ ?_
         · rfl
         · rfl
         · rfl
         · rfl
         · exact ((by kernel_rfl))
         · exact (rfl)
         · exact ((by rw [List.all_toArray]; rfl))
         · exact (hbr)
         · exact (hz2w)
         intro wG hBG hbG hgG hsG))
    refine bodyPost_ret (results_cell2 rfl _ _ _ z2 _ YFrm _ rfl hBG.out Tryz.underlying37 rfl (by kernel_rfl)) rfl ?_
    rw [HMP.out]
    exact ⟨_, rfl, Own8.nil _ _, HW4.out.trans hbG⟩
  have heq : (strB cmd).toList.isEmpty = false := strB_full hce
  have htrue : tb = true := by
    rcases HTB.out with h | h
    · exact absurd h hce
    · exact h
  subst htrue
  clear hce
  have hcl := HC.out.len
  have HCL := Lib.hid hcl
  have l1 : w4.rangeAt zm 0 cs := blk_range (by rw [HCS.out]; exact HB14.out)
  have hcc4 := msgC_keeps _ _ _ _ HC.out HW4.out
  have htoo4 := htoo w4 hcc4
  clear hcl hcc4 htoo
  go_wp2_with (first
    | (with_reducible refine wpList_load_midG (op := ⟨some 18, _, _, _, _, _⟩) ?_ 35 (.tmp 1) ?_ (zm) (0) ?_ (cs) _ (l1) Tryz.underlying35 ?_ ?_ ?_
       · rfl
       · rfl
       · rfl
       · rfl
       · exact ((info_Msg HCL.out))))
  refine htoo4.mono ?_
  rintro e wE ⟨rfl, hb5⟩
  have H2 := Lib.hid (HB24.out.fut hb5)
  have HBW := Lib.hid (below_fut HW4.out hb5 (Nat.le_refl _))
  clear hb5 htoo4 l1 c4
  have hbr := Below.refl w.heap.size wE
  have hz2w : w.heap.size ≤ z2 := by have := HZZ.out; omega
  have hbt0 := built_frm0
  clear hbt
  go_wp2_with (first
    | (with_reducible refine wp_build (o := ⟨some 21, _, _, _, _, _⟩) ?_ 37 #[] ?_ [] ?_ YFrm.toArray hbt0 ?_
       · rfl
       · rfl
       · rfl)
    | (with_reducible refine wp_store_blk (o := ⟨none, _, _, _, _, _⟩) ?_ 37 (.tmp 2) (.tmp 21) ?_ (z2) 37 (YFrm.toArray) (YFrm.toArray) ?_ ?_ (H2.out) ?_ ?_ ?_ (w.heap.size) (wE) ?_ ?_ ?_
       · rfl
       · rfl
       · rfl
       · rfl
       · exact ((by kernel_rfl))
       · exact (rfl)
       · exact ((by rw [List.all_toArray]; rfl))
       · exact (hbr)
       · exact (hz2w)
       intro wG hBG hbG hgG hsG))
  refine bodyPost_ret (results_cell2 rfl _ _ _ z2 _ YFrm _ rfl hBG.out Tryz.underlying37 rfl (by kernel_rfl)) rfl ?_
  rw [HMP.out]
  exact ⟨_, rfl, Own8.nil _ _, HBW.out.trans hbG⟩
theorem msgEncode_any (m : TMsg) (cs : List Value) (w : World) (hc : MsgC w m cs) : Calls Tryz.prog 4 #[.agg cs.toArray] w (MsgEnc w (msgP m)) := by
  by_cases hb : cmdB m.k = [] ∨ tooB m = true
  · exact enc_bad m cs w hc hb
  have ht : tooB m = false := by cases h : tooB m with
    | false => rfl
    | true => exact absurd (.inr h) hb
  have hk : 1 ≤ m.k ∧ m.k ≤ 13 := by
    refine Classical.byContradiction fun h => hb (.inl ?_)
    unfold cmdB
    split
    · rfl
    · obtain ⟨n, hn⟩ : ∃ n : Nat, m.k = n := ⟨m.k.toNat, by omega⟩
      rw [hn, Int.toNat_natCast]
      rcases (show n = 0 ∨ 14 ≤ n by omega) with rfl | h2
      · rfl
      · obtain ⟨j, rfl⟩ : ∃ j, n = j + 14 := ⟨n - 14, by omega⟩
        rfl
  obtain ⟨k, nu, no, pv, st, hs, hd, tx, bl⟩ := m
  simp only at hk
  have : k = 1 ∨ k = 2 ∨ k = 3 ∨ k = 4 ∨ k = 5 ∨ k = 6 ∨ k = 7 ∨ k = 8 ∨ k = 9 ∨ k = 10 ∨ k = 11 ∨ k = 12 ∨ k = 13 := by omega
  rcases this with rfl | rfl | rfl | rfl | rfl | rfl | rfl | rfl | rfl | rfl | rfl | rfl | rfl
  · exact enc_k1 nu no pv st hs hd tx bl cs w hc ht
  · exact enc_k2 nu no pv st hs hd tx bl cs w hc ht
  · exact enc_k3 nu no pv st hs hd tx bl cs w hc ht
  · exact enc_k4 nu no pv st hs hd tx bl cs w hc ht
  · exact enc_k5 nu no pv st hs hd tx bl cs w hc ht
  · exact enc_k6 nu no pv st hs hd tx bl cs w hc ht
  · exact enc_k7 nu no pv st hs hd tx bl cs w hc ht
  · exact enc_k8 nu no pv st hs hd tx bl cs w hc ht
  · exact enc_k9 nu no pv st hs hd tx bl cs w hc ht
  · exact enc_k10 nu no pv st hs hd tx bl cs w hc ht
  · exact enc_k11 nu no pv st hs hd tx bl cs w hc ht
  · exact enc_k12 nu no pv st hs hd tx bl cs w hc ht
  · exact enc_k13 nu no pv st hs hd tx bl cs w hc ht
end Go.Proofs.YtndobjlodpkknaaGreatDoor
