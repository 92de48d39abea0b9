/- sporranref10: low4, hashes, payload, Encode: the walks.  -/
import Derived.Test.YtjbijcjcejfpcaaGreatDoorLMsgE
import Derived.Test.YtjbijcjcejfpcaaGreatDoorLMsgN
import Derived.Test.YtjbijcjcejfpcaaGreatDoorLGK
import Derived.Test.YtjbijcjcejfpcaaGreatDoorLGH
namespace Go.Proofs.YtjbijcjcejfpcaaGreatDoor
open Go Go.RowKit
set_option linter.unusedVariables false
def PSt (w : World) (zm : Nat) (C : Array Value) (W : World) : Prop := Blk W zm 41 C ∧ Below w.heap.size w W
theorem PSt.fut {w W W' : World} {zm : Nat} {C : Array Value} (h : PSt w zm C W) (hb : Below W.heap.size W W') : PSt w zm C W' := ⟨h.1.fut hb, below_fut h.2 hb (Nat.le_refl _)⟩
theorem own_apart' {B z : Nat} {w : World} {v : Value} {ys : Bs} {t : TypeId} {cs : Array Value} (h : Own8 w B v ys) (hg : Blk w z t cs) (ht : t ≠ 5) : v.ownBlock ≠ some z := (Sfx8.of h).apart hg ht
theorem PSt.app {w W W' : World} {zm : Nat} {C : Array Value} {v : Value} {ys : Bs} (h : PSt w zm C W) (ho : Own8 W w.heap.size v ys) (hg : W.grownBy W' v.ownBlock) : PSt w zm C W' :=
  ⟨h.1.stays (Stays.of_grown (S := fun k => Value.ownBlock _ = some k) hg fun k h => h) (own_apart' ho h.1 (by decide)), h.2.trans ((Below.refl _ W).grown hg h.2.size fun k hk => (World.ownsRow.lt ho k hk).1)⟩
theorem ahead_newB {B g : Nat} {W : World} {v : Value} {ys bs : Bs} (ho : Own8 W B v ys) (hg : g < W.heap.size) : Ahead g (W.alloc (.cells (bs.map u8).toArray 5)) (some ⟨W.heap.size, 0, none⟩) bs v :=
  ⟨hCells_row (Blk.new W 5 _), fun _ x hx => by
    injection hx with hx
    subst hx
    exact ⟨fun e => by have := (World.ownsRow.lt ho _ e).2; simp only at this; omega, by rw [World.size_alloc]; exact Nat.lt_succ_self _, by simp only; omega⟩⟩
theorem ahead_ownB {B g : Nat} {W W' : World} {v : Value} {ys bs : Bs} {p : Option Addr} {n c : Nat} {C : Array Value} (ho : Own8 W B v ys) (hg : g < W.heap.size) (h2 : Own8 W' W.heap.size (.slice p n c) bs) (_ : Blk W g 41 C) : Ahead g W' p bs v := by
  refine ⟨(AheadB.own h2).1, fun h0 x hx => ?_⟩
  rcases h2.2 with ⟨e, h1⟩ | ⟨q, cap, cur, e, hq, hh, _⟩
  · exact absurd (List.eq_nil_of_length_eq_zero h1) h0
  · injection e with e1
    rw [hx] at e1
    injection e1 with e1
    subst e1
    have hlt := (show Blk W' q 5 cur from hh).lt
    exact ⟨fun e => by have := (World.ownsRow.lt ho _ e).2; simp only at this; omega, hlt, by simp only; omega⟩
def RowAp (g : Nat) (W0 W : World) (p : Option Addr) (bs : Bs) : Prop := Row8 W p bs ∧ (bs ≠ [] → ∀ x, p = some x → x.block < W.heap.size ∧ x.block ≠ g)
theorem RowAp.of {g : Nat} {W W' : World} {p : Option Addr} {n c : Nat} {bs : Bs} {C : Array Value} (h2 : Own8 W' W.heap.size (.slice p n c) bs) (hb : Blk W g 41 C) : RowAp g W W' p bs := by
  have h := ahead_ownB (own_none W 0) hb.lt h2 hb
  exact ⟨h.1, fun h0 x hx => (h.2 h0 x hx).2⟩
theorem RowAp.fut {g : Nat} {W0 W W' : World} {p : Option Addr} {bs : Bs} (h : RowAp g W0 W p bs) (hb : Below W.heap.size W W') : RowAp g W0 W' p bs :=
  ⟨h.1.below hb (Nat.le_refl _), fun h0 x hx => by obtain ⟨h1, h2⟩ := h.2 h0 x hx; exact ⟨Nat.lt_of_lt_of_le h1 hb.size, h2⟩⟩
theorem ahead_old {g : Nat} {W0 W W' : World} {v : Value} {ys bs : Bs} {p : Option Addr} (h : RowAp g W0 W p bs) (ho : Own8 W' W.heap.size v ys) (hb : Below W.heap.size W W') : Ahead g W' p bs v :=
  ⟨h.1.below hb (Nat.le_refl _), fun h0 x hx => by
    obtain ⟨h1, h2⟩ := h.2 h0 x hx
    exact ⟨fun e => by have := (World.ownsRow.lt ho _ e).1; omega, Nat.lt_of_lt_of_le h1 hb.size, h2⟩⟩
theorem low4_any (nu : BitVec 32) (w : World) : Calls Tryz.prog 65 #[.int .u32 (iv32 nu)] w (GivesOwn w (low (nu.setWidth 64) 4)) := by
  have ec := ext32_64 nu
  go_enter Tryz.func65, Tryz.ntmps65
  go_wp2_with fail
  refine (low_any (nu.setWidth 64) 4 (by omega) w).mono ?_
  rintro e w1 ⟨v, rfl, ho, hb⟩
  go_wp2_with fail
  go_ret
  exact ⟨_, rfl, ho, hb⟩
theorem msgAt_of {W : World} {zm : Nat} {C : Array Value} {k nu no : Value} {pv st : Bs} {hv dv bv : Value} {bc : List Value} (hC : C = (msgCells k nu no pv st hv dv bv bc).toArray) (hp : pv.length = 32) (hs : st.length = 32) (h : Blk W zm 41 C) : MsgAt W zm k nu no pv st hv dv bv bc := by
  subst hC
  exact h.msg hp hs
set_option maxRecDepth 100000 in
set_option maxHeartbeats 8000000 in
theorem pay_r2 (nu : BitVec 32) (no : BitVec 64) (pv st : Bs) (hs : List Bs) (hd : List Hdr) (tx : Bs) (bl : TBlk) (cs : List Value) (w : World) (hc : MsgC w ⟨2, nu, no, pv, st, hs, hd, tx, bl⟩ cs) :
    Calls Tryz.prog 37 #[.agg cs.toArray] w (OutB w (payP ⟨2, nu, no, pv, st, hs, hd, tx, bl⟩)) := by
  have HPP : Hid (payP ⟨2, nu, no, pv, st, hs, hd, tx, bl⟩ = payP ⟨2, nu, no, pv, st, hs, hd, tx, bl⟩) := Lib.hid rfl
  have HC := Lib.hid hc
  obtain ⟨hv, dv, bv, bc, hcs, hpv, hst, hh, hdd, hb, hbl⟩ := hc
  obtain ⟨p1, n1, c1, rfl⟩ := hh.opens
  obtain ⟨p2, n2, c2, rfl⟩ := hdd.opens
  obtain ⟨p3, n3, c3, rfl⟩ := hb.opens
  obtain ⟨zm, hzm⟩ : ∃ z, z = w.heap.size := ⟨_, rfl⟩
  obtain ⟨C, hC⟩ : ∃ C, C = cs.toArray := ⟨_, rfl⟩
  obtain ⟨W1, hW1⟩ : ∃ W, W = w.alloc (.cells cs.toArray 41) := ⟨_, rfl⟩
  have hF1 : PSt w zm C W1 := ⟨by rw [hW1, hzm, hC]; exact Blk.new w _ _, by rw [hW1]; exact below_new w _⟩
  have HCM : Hid (C = (msgCells (.int .i64 2) (u32 nu) (u64 no) pv st (.slice p1 n1 c1) (.slice p2 n2 c2) (.slice p3 n3 c3) bc).toArray) := Lib.hid (by rw [hC, hcs])
  have HCS : Hid (C = cs.toArray) := Lib.hid hC
  have HPV := Lib.hid hpv
  have HST := Lib.hid hst
  have HN1 : Hid (hs.length = n1) := Lib.hid hh.slen.1
  have HN2 : Hid (hd.length = n2) := Lib.hid hdd.slen.1
  have HN3 : Hid (tx.length = n3) := Lib.hid hb.slen.1
  have HH := Lib.hid hh
  have HD := Lib.hid hdd
  have HBT := Lib.hid hb
  have HBK := Lib.hid hbl
  have a2 := ((show Blk W1 zm 41 _ from HCM.out ▸ hF1.1).msg hpv hst).c2
  clear hcs hpv hst hh hdd hb hbl hC
  go_enter Tryz.func37, Tryz.ntmps37
  go_upto_region 1 with fail
  rw [← hW1, ← hzm]
  clear hW1 hzm
  go_wp2_with fail
  refine (low_any no 8 (by omega) W1).mono ?_
  rintro e W2 ⟨vno, rfl, hno, hbno⟩
  obtain ⟨pno, mno, cno, rfl, hmno, _⟩ := hno.open
  have hF2 := hF1.fut hbno
  have hnap := RowAp.of hno hF1.1
  have nr := Own8.mono' hno hF1.2.size
  have a0 := ((show Blk W2 zm 41 _ from HCM.out ▸ hF2.1).msg HPV.out HST.out).c0
  clear hno hbno hF1 a2
  go_upto_region 3 with fail
  clear a0
  clear nr
  go_wp2_with fail
  go_ret2
  exact ⟨_, rfl, Own8.nil _ _, hF2.2⟩
set_option maxRecDepth 100000 in
set_option maxHeartbeats 8000000 in
theorem pay_r3 (nu : BitVec 32) (no : BitVec 64) (pv st : Bs) (hs : List Bs) (hd : List Hdr) (tx : Bs) (bl : TBlk) (cs : List Value) (w : World) (hc : MsgC w ⟨3, nu, no, pv, st, hs, hd, tx, bl⟩ cs) :
    Calls Tryz.prog 37 #[.agg cs.toArray] w (OutB w (payP ⟨3, nu, no, pv, st, hs, hd, tx, bl⟩)) := by
  have HPP : Hid (payP ⟨3, nu, no, pv, st, hs, hd, tx, bl⟩ = payP ⟨3, nu, no, pv, st, hs, hd, tx, bl⟩) := Lib.hid rfl
  have HC := Lib.hid hc
  obtain ⟨hv, dv, bv, bc, hcs, hpv, hst, hh, hdd, hb, hbl⟩ := hc
  obtain ⟨p1, n1, c1, rfl⟩ := hh.opens
  obtain ⟨p2, n2, c2, rfl⟩ := hdd.opens
  obtain ⟨p3, n3, c3, rfl⟩ := hb.opens
  obtain ⟨zm, hzm⟩ : ∃ z, z = w.heap.size := ⟨_, rfl⟩
  obtain ⟨C, hC⟩ : ∃ C, C = cs.toArray := ⟨_, rfl⟩
  obtain ⟨W1, hW1⟩ : ∃ W, W = w.alloc (.cells cs.toArray 41) := ⟨_, rfl⟩
  have hF1 : PSt w zm C W1 := ⟨by rw [hW1, hzm, hC]; exact Blk.new w _ _, by rw [hW1]; exact below_new w _⟩
  have HCM : Hid (C = (msgCells (.int .i64 3) (u32 nu) (u64 no) pv st (.slice p1 n1 c1) (.slice p2 n2 c2) (.slice p3 n3 c3) bc).toArray) := Lib.hid (by rw [hC, hcs])
  have HCS : Hid (C = cs.toArray) := Lib.hid hC
  have HPV := Lib.hid hpv
  have HST := Lib.hid hst
  have HN1 : Hid (hs.length = n1) := Lib.hid hh.slen.1
  have HN2 : Hid (hd.length = n2) := Lib.hid hdd.slen.1
  have HN3 : Hid (tx.length = n3) := Lib.hid hb.slen.1
  have HH := Lib.hid hh
  have HD := Lib.hid hdd
  have HBT := Lib.hid hb
  have HBK := Lib.hid hbl
  have a2 := ((show Blk W1 zm 41 _ from HCM.out ▸ hF1.1).msg hpv hst).c2
  clear hcs hpv hst hh hdd hb hbl hC
  go_enter Tryz.func37, Tryz.ntmps37
  go_upto_region 1 with fail
  rw [← hW1, ← hzm]
  clear hW1 hzm
  go_wp2_with fail
  refine (low_any no 8 (by omega) W1).mono ?_
  rintro e W2 ⟨vno, rfl, hno, hbno⟩
  obtain ⟨pno, mno, cno, rfl, hmno, _⟩ := hno.open
  have hF2 := hF1.fut hbno
  have hnap := RowAp.of hno hF1.1
  have nr := Own8.mono' hno hF1.2.size
  have a0 := ((show Blk W2 zm 41 _ from HCM.out ▸ hF2.1).msg HPV.out HST.out).c0
  clear hno hbno hF1 a2
  go_upto_region 3 with fail
  clear a0
  go_wp2_with fail
  go_ret2
  exact ⟨_, rfl, nr, hF2.2⟩
set_option maxRecDepth 100000 in
set_option maxHeartbeats 8000000 in
theorem pay_r1 (nu : BitVec 32) (no : BitVec 64) (pv st : Bs) (hs : List Bs) (hd : List Hdr) (tx : Bs) (bl : TBlk) (cs : List Value) (w : World) (hc : MsgC w ⟨1, nu, no, pv, st, hs, hd, tx, bl⟩ cs) :
    Calls Tryz.prog 37 #[.agg cs.toArray] w (OutB w (payP ⟨1, nu, no, pv, st, hs, hd, tx, bl⟩)) := by
  have HPP : Hid (payP ⟨1, nu, no, pv, st, hs, hd, tx, bl⟩ = payP ⟨1, nu, no, pv, st, hs, hd, tx, bl⟩) := Lib.hid rfl
  have HC := Lib.hid hc
  obtain ⟨hv, dv, bv, bc, hcs, hpv, hst, hh, hdd, hb, hbl⟩ := hc
  obtain ⟨p1, n1, c1, rfl⟩ := hh.opens
  obtain ⟨p2, n2, c2, rfl⟩ := hdd.opens
  obtain ⟨p3, n3, c3, rfl⟩ := hb.opens
  obtain ⟨zm, hzm⟩ : ∃ z, z = w.heap.size := ⟨_, rfl⟩
  obtain ⟨C, hC⟩ : ∃ C, C = cs.toArray := ⟨_, rfl⟩
  obtain ⟨W1, hW1⟩ : ∃ W, W = w.alloc (.cells cs.toArray 41) := ⟨_, rfl⟩
  have hF1 : PSt w zm C W1 := ⟨by rw [hW1, hzm, hC]; exact Blk.new w _ _, by rw [hW1]; exact below_new w _⟩
  have HCM : Hid (C = (msgCells (.int .i64 1) (u32 nu) (u64 no) pv st (.slice p1 n1 c1) (.slice p2 n2 c2) (.slice p3 n3 c3) bc).toArray) := Lib.hid (by rw [hC, hcs])
  have HCS : Hid (C = cs.toArray) := Lib.hid hC
  have HPV := Lib.hid hpv
  have HST := Lib.hid hst
  have HN1 : Hid (hs.length = n1) := Lib.hid hh.slen.1
  have HN2 : Hid (hd.length = n2) := Lib.hid hdd.slen.1
  have HN3 : Hid (tx.length = n3) := Lib.hid hb.slen.1
  have HH := Lib.hid hh
  have HD := Lib.hid hdd
  have HBT := Lib.hid hb
  have HBK := Lib.hid hbl
  have a2 := ((show Blk W1 zm 41 _ from HCM.out ▸ hF1.1).msg hpv hst).c2
  clear hcs hpv hst hh hdd hb hbl hC
  go_enter Tryz.func37, Tryz.ntmps37
  go_upto_region 1 with fail
  rw [← hW1, ← hzm]
  clear hW1 hzm
  go_wp2_with fail
  refine (low_any no 8 (by omega) W1).mono ?_
  rintro e W2 ⟨vno, rfl, hno, hbno⟩
  obtain ⟨pno, mno, cno, rfl, hmno, _⟩ := hno.open
  have hF2 := hF1.fut hbno
  have hnap := RowAp.of hno hF1.1
  have nr := Own8.mono' hno hF1.2.size
  have a0 := ((show Blk W2 zm 41 _ from HCM.out ▸ hF2.1).msg HPV.out HST.out).c0
  clear hno hbno hF1 a2
  go_upto_region 3 with fail
  clear a0
  have HPP3 : Hid (payP ⟨1, nu, no, pv, st, hs, hd, tx, bl⟩ = (low (nu.setWidth 64) 4 ++ (nulls 68 ++ (low no 8 ++ nulls 5)), 0)) := Lib.hid rfl
  have a1 := (msgAt_of HCM.out HPV.out HST.out hF2.1).c1
  clear nr
  go_wp2_with fail
  refine (low4_any nu W2).mono ?_
  rintro e W3 ⟨v3, rfl, ho3, hb3⟩
  replace ho3 : Own8 W3 W2.heap.size v3 (low (nu.setWidth 64) 4) := ho3
  obtain ⟨p3', m3', c3', rfl, _⟩ := ho3.open
  have hN3 := ahead_old hnap ho3 hb3
  have hF3 := hF2.fut hb3
  have hO3 := Own8.mono' ho3 hF2.2.size
  clear ho3 hb3 hF2 hnap a1
  go_upto_region 5 with (
    refine wp_appendZ (o := ⟨some 19, _, _, _, _, _⟩) ?_ (.tmp 18) (.const (.int .i64 68)) ?_ w.heap.size _ (low (nu.setWidth 64) 4) ?_ hO3 68 ?_ ?_ ?_ hF3.2.size ?_
    · rfl
    · rfl
    · rfl
    · rfl
    · omega
    · rw [low_len]; omega
    intro v4 W4 ho4 hg4 hk4
    obtain ⟨q4, m4, c4, rfl, _⟩ := ho4.open
    have hF4 := hF3.app hO3 hg4
    have hN4 := hN3.app hg4 hk4
    clear hF3 hN3 hO3 hg4 hk4)
  go_wp2_with (first
    | (refine wp_append8 (o := ⟨some 22, _, _, _, _, _⟩) ?_ (.tmp 20) (.tmp 21) ?_ w.heap.size _ (low (nu.setWidth 64) 4 ++ nulls 68) ?_ ho4 pno mno cno (low no 8) ?_ hmno.out hN4.1 ?_ hF4.2.size w.heap.size W4 (Below.refl _ _) ?_ ?_
       · rfl
       · rfl
       · rfl
       · rfl
       · rw [List.length_append, low_len, low_len, nulls_len]; omega
       · exact Nat.le_refl _
       intro v5 W5 ho5 _ hg5 hk5
       obtain ⟨q5, m5, c5, rfl, _⟩ := ho5.open
       have hF5 := hF4.app ho4 hg5
       have hnb := below_new W5 (.cells (([0#8, 0#8, 0#8, 0#8, 0#8] : Bs).map u8).toArray 5)
       have hF6 := hF5.fut hnb
       have hO6 := ho5.fut hnb
       have hL6 := ahead_newB (g := zm) (bs := [0#8, 0#8, 0#8, 0#8, 0#8]) ho5 hF5.1.lt
       clear hF4 hN4 ho4 hg5 hk5 hnb hF5 ho5)
    | (refine wp_append8 (o := ⟨some 24, _, _, _, _, _⟩) ?_ (.tmp 22) (.tmp 23) ?_ w.heap.size _ (low (nu.setWidth 64) 4 ++ nulls 68 ++ low no 8) ?_ hO6 (some ⟨W5.heap.size, 0, none⟩) 5 5 [0#8, 0#8, 0#8, 0#8, 0#8] ?_ ?_ hL6.1 ?_ hF6.2.size w.heap.size _ (Below.refl _ _) ?_ ?_
       · rfl
       · rfl
       · rfl
       · rfl
       · rfl
       · rw [List.length_append, List.length_append, low_len, low_len, nulls_len]; simp only [List.length_cons, List.length_nil]; omega
       · exact Nat.le_refl _
       intro v7 W7 ho7 _ hg7 hk7
       have hF7 := hF6.app hO6 hg7
       clear hF6 hO6 hL6 hg7 hk7))
  go_ret2
  rw [HPP3.out]
  exact ⟨_, rfl, by show Own8 _ _ v7 _; have h := ho7; rw [List.append_assoc, List.append_assoc] at h; exact h, hF7.2⟩
theorem built_frmE (s : ByteArray) (p : Option Addr) (n c : Nat) : Tryz.prog.built 82 [(0, .string s), (1, .slice p n c)] = some #[.string s, .slice p n c] := by kernel_rfl
set_option maxRecDepth 100000 in
set_option maxHeartbeats 8000000 in
theorem refMsgEncode_of (m : TMsg) (cs : List Value) (w : World) (hP : ∀ W, MsgC W m cs → Calls Tryz.prog 37 #[.agg cs.toArray] W (OutB W (payP m))) (hc : MsgC w m cs) : Calls Tryz.prog 20 #[.agg cs.toArray] w (MsgEnc w (msgP m)) := by
  have HC := Lib.hid hc
  have HCL := Lib.hid hc.len
  have hzf := yFrm
  obtain ⟨zm, hzm⟩ : ∃ z, z = w.heap.size := ⟨_, rfl⟩
  obtain ⟨W1, hW1⟩ : ∃ W, W = w.alloc (.cells cs.toArray 41) := ⟨_, rfl⟩
  obtain ⟨W2, hW2⟩ : ∃ W, W = W1.alloc (.cells YFrm.toArray 82) := ⟨_, rfl⟩
  have z1 : W1.heap.size = zm + 1 := by rw [hW1, World.size_alloc, hzm]
  have k1 : Below w.heap.size w W1 := by rw [hW1]; exact below_new w _
  have k2 : Below W1.heap.size W1 W2 := by rw [hW2]; exact below_new W1 _
  have hF2 : PSt w zm cs.toArray W2 := ⟨(show Blk W1 zm _ _ by rw [hW1, hzm]; exact Blk.new w _ _).fut k2, below_fut k1 k2 (Nat.le_refl _)⟩
  obtain ⟨z2, hz2⟩ : ∃ z, z = zm + 1 := ⟨_, rfl⟩
  have hB2 : Blk W2 z2 82 YFrm.toArray := by rw [hW2, hz2, ← z1]; exact Blk.new W1 _ _
  have HZZ : Hid (zm = w.heap.size ∧ z2 = zm + 1) := Lib.hid ⟨hzm, hz2⟩
  have l1 := blk_range hF2.1
  have hcall := hP W2 (msgC_keeps _ _ _ _ hc hF2.2)
  obtain ⟨x, hx⟩ : ∃ x, x = payP m := ⟨_, rfl⟩
  rw [← hx] at hcall
  obtain ⟨by_, er⟩ := x
  have HX := Lib.hid hx.symm
  unfold OutB at hcall
  simp only at hcall
  have HF2 := Lib.hid hF2
  have HB2 := Lib.hid hB2
  clear k1 k2 z1 hx hF2 hB2 hc
  go_enter Tryz.func20, Tryz.ntmps20
  go_upto_region 1 with fail
  rw [← hW1, ← hW2, ← hzm, ← hz2]
  clear hW1 hW2 hzm hz2 hzf
  go_wp2_with ((with_reducible refine wpList_load_mid (op := ⟨some 7, _, _, _, _, _⟩) ?_ 41 (.tmp 1) ?_ (zm) (0) ?_ (cs) _ (l1) Tryz.underlying41 ?_ ?_ ?_
                · rfl
                · rfl
                · rfl
                · rfl
                · exact ((info_Msg HCL.out))))
  refine hcall.mono ?_
  rintro e w3 ⟨v3, rfl, ho3, hb3⟩
  obtain ⟨q3, m3, c3, rfl, _⟩ := ho3.open
  have HF3 := Lib.hid (HF2.out.fut hb3)
  have HB3 := Lib.hid (HB2.out.fut hb3)
  have HO3 := Lib.hid (Own8.mono' ho3 HF2.out.2.size)
  have hz2w : w.heap.size ≤ z2 := by have := HZZ.out; omega
  clear hcall ho3 hb3 l1 HF2 HB2
  by_cases he : er = 0
  case neg =>
    have hb1 : (er == 0) = false := by rw [beq_eq_false_iff_ne]; exact he
    have HMP : Hid (msgP m = ([], [], er)) := Lib.hid (by unfold msgP; rw [HX.out, if_neg he])
    have hbr := Below.refl w.heap.size w3
    have hbt := built_frm0
    clear he
    go_wp2_with (first
      | (with_reducible refine wp_build (o := ⟨some 13, _, _, _, _, _⟩) ?_ 82 #[] ?_ [] ?_ YFrm.toArray hbt ?_
         · rfl
         · rfl
         · rfl)
      | (with_reducible refine wp_store_blk (o := ⟨none, _, _, _, _, _⟩) ?_ 82 (.tmp 2) (.tmp 13) ?_ (z2) 82 (YFrm.toArray) (YFrm.toArray) ?_ ?_ (HB3.out) ?_ ?_ ?_ (w.heap.size) (w3) ?_ ?_ ?_
         · rfl
         · rfl
         · rfl
         · rfl
         · exact ((by kernel_rfl))
         · exact (rfl)
         · exact ((by rw [List.all_toArray]; rfl))
         · exact (hbr)
         · exact (hz2w)
         intro wG hBG hbG hgG hsG))
    refine bodyPost_ret (results_cell2 rfl _ _ _ z2 _ YFrm _ rfl hBG.out Tryz.underlying82 rfl (by kernel_rfl)) rfl ?_
    rw [HMP.out]
    exact ⟨_, rfl, Own8.nil _ _, HF3.out.2.trans hbG⟩
  subst he
  have hkr := kind_le (m := m) (by rw [HX.out])
  obtain ⟨k, hk⟩ : ∃ k : Nat, m.k = (k : Int) + 1 := ⟨(m.k - 1).toNat, by omega⟩
  have hk13 : k < 13 := by omega
  have HMP : Hid (msgP m = (cmdN (k + 1), by_, 0)) := Lib.hid (by
    unfold msgP
    rw [HX.out, if_pos rfl]
    unfold cmdB
    rw [if_neg (by omega), hk]
    rfl)
  have a0 : ∀ V, PSt w zm cs.toArray V → V.cell? ⟨zm, 0, none⟩ = some (.int .i64 ((k : Int) + 1)) := fun V hV => by
    obtain ⟨hv, dv, bv, bc, hcs, hpv, hst, _⟩ := HC.out
    have h := hV.1
    rw [hcs] at h
    rw [(h.msg hpv hst).c0, hk]
  have HA0 := Lib.hid a0
  clear a0 hk hkr
  go_upto_region 4 with fail
  have hFd : PSt w zm cs.toArray w3.drew := HF3.out.fut (below_draws w3 1)
  refine region_tree (.qs [1, 2, 3, 6] (.o 0 (.qs [4, 5, 7] (.o 8 (.qs [9] (.done)))))) (PSt w zm cs.toArray) (by kernel_rfl) (by kernel_rfl) hFd ?_
  refine' tree_quiet (s := 23) (A1 := _) [1, 2, 3, 6] [_, _, _, _] _ rfl rfl rfl (fun W hW => ?hq1) _ hFd (fun _ => ?hr1)
  case hq1 =>
    have e0 : ∀ j, (W.drewN j).cell? ⟨zm, 0, none⟩ = some (.int .i64 ((k : Int) + 1)) := fun j => by have := HA0.out W hW; simpa using this
    simp only [List.getElem_toArray, List.getElem_cons_zero, List.getElem_cons_succ]
    iterate 4 (go_big_quiet_step (fail))
    refine wpQuiet_nil ?_
    rfl
  case hr1 =>
  refine tree_one rfl fun k1 => ?_
  have hdr : Below w3.heap.size w3 (w3.drew.drewN k1) := below_drewN (Below.refl _ _).drew k1
  have hFa := HF3.out.fut hdr
  have HBa := Lib.hid (HB3.out.fut hdr)
  have HOa := Lib.hid (HO3.out.fut hdr)
  clear hdr hFd HF3 HB3 HO3
  generalize w3.drew.drewN k1 = wa at *
  go_wp2_with fail
  refine (commands_any wa).mono ?_
  rintro e wb ⟨cb, rfl, hcb, hC, hb⟩
  have hFb : PSt w zm cs.toArray wb ∧ Blk wb cb 9 cmdVals13.toArray := ⟨hFa.fut hb, hC⟩
  have HBb := Lib.hid (HBa.out.fut hb)
  have HOb := Lib.hid (HOa.out.fut hb)
  clear hC hb HBa HOa hcb hFa
  go_wp2_with fail
  refine planQ_normal (Grows.more (fun V => PSt w zm cs.toArray V ∧ Blk V cb 9 cmdVals13.toArray) (fun V h => h.1) hFb ?_)
  refine' tree_quiet (s := 23) (A1 := _) [4, 5, 7] [_, _, _] _ rfl rfl rfl (fun W hW => ?hq2) _ hFb (fun _ => ?hr2)
  case hq2 =>
    have e1 : ∀ j, (W.drewN j).cell? ⟨cb, k, none⟩ = some (.string (strB (cmdN (k + 1)))) := fun j => by
      have h := hW.2.cell k
      rw [List.getElem?_toArray, cmdVals13_at k hk13] at h
      simpa using h
    simp only [List.getElem_toArray, List.getElem_cons_zero, List.getElem_cons_succ]
    iterate 2 (go_big_quiet_step (fail))
    refine quiet_build rfl 82 #[(0, .tmp 20), (1, .tmp 21)] rfl #[.string (strB (cmdN (k + 1))), .slice q3 m3 c3] (by simp only [List.map_toArray, List.map_cons, List.map_nil]; exact built_frmE _ _ _ _) ?_
    simp only [put_some, List.setIfInBounds_toArray, List.set_cons_succ, List.set_cons_zero]
    refine wpQuiet_nil ?_
    rfl
  case hr2 =>
  refine tree_one rfl fun k2 => ?_
  have hdr := below_draws wb k2
  have hFc : PSt w zm cs.toArray (wb.drewN k2) ∧ Blk (wb.drewN k2) cb 9 cmdVals13.toArray := ⟨hFb.1.fut hdr, hFb.2.fut hdr⟩
  have HBc := Lib.hid (HBb.out.fut hdr)
  have HOc := Lib.hid (HOb.out.fut hdr)
  clear hdr hFb HBb HOb
  generalize wb.drewN k2 = wc at *
  have hbr := Below.refl w.heap.size wc
  refine wp_store_blk (o := ⟨none, _, _, _, _, _⟩) rfl 82 (.tmp 2) (.tmp 22) rfl z2 82 YFrm.toArray #[.string (strB (cmdN (k + 1))), .slice q3 m3 c3] rfl rfl HBc.out (by kernel_rfl) rfl (by rw [List.all_toArray]; rfl) w.heap.size wc hbr hz2w ?_
  intro wd hBd hbd hgd hsd
  have hst := Stays.of_grown (S := fun k => k = z2) hgd.out (fun k h => by injection h with h; exact h.symm)
  have hFe : PSt w zm cs.toArray wd ∧ Blk wd cb 9 cmdVals13.toArray := ⟨⟨hFc.1.1.stays hst (by have := HZZ.out; omega), hFc.1.2.trans hbd⟩, hFc.2.stays hst (fun e => by have h := hFc.2; have e' : cb = z2 := e; rw [e'] at h; exact absurd (h.inj HBc.out).1 (by decide))⟩
  have HOd := Lib.hid (HOc.out.sep hst (sep_one HBc.out (by decide)))
  go_wp2_with fail
  refine planQ_normal (Grows.same hFe ?_)
  refine' tree_quiet (s := 23) (A1 := _) [9] [_] _ rfl rfl rfl (fun W hW => ?hq3) _ hFe (fun _ => ?hr3)
  case hq3 =>
    simp only [List.getElem_toArray, List.getElem_cons_zero, List.getElem_cons_succ]
    iterate 1 (go_big_quiet_step (fail))
    refine wpQuiet_nil ?_
    rfl
  case hr3 =>
  refine tree_end fun k9 => NoPanic.normal ?_
  have hdr := below_draws wd k9
  have hBz := hBd.out.fut hdr
  have HOe := Lib.hid (HOd.out.fut hdr)
  have HFe := Lib.hid (hFe.1.fut hdr)
  clear hdr hst hbr hBd hbd hgd hsd hFc hFe HBc HOc HOd
  generalize wd.drewN k9 = we at *
  go_wp2_with fail
  refine bodyPost_ret (results_cell2 rfl _ _ _ z2 _ [.string (strB (cmdN (k + 1))), .slice q3 m3 c3] _ rfl hBz Tryz.underlying82 rfl (by kernel_rfl)) rfl ?_
  rw [HMP.out]
  exact ⟨_, rfl, HOe.out, HFe.out.2⟩
end Go.Proofs.YtjbijcjcejfpcaaGreatDoor
