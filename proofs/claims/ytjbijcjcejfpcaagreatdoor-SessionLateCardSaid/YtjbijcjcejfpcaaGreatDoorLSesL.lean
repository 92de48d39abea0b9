/- A session that asks for data.  -/
import Derived.Test.YtjbijcjcejfpcaaGreatDoorLSesK
namespace Go.Proofs.YtjbijcjcejfpcaaGreatDoor
open Go Go.RowKit
set_option linter.unusedVariables false
abbrev tD (id : Bs) : TMsg := ⟨11, 0#32, 0#64, noHash, noHash, [id], [], [], noBlk⟩
theorem msgC_hashes {w W : World} {m : TMsg} {cs : List Value} {zm : Nat} (h : MsgC w m cs) (hb : Blk W zm 41 cs.toArray) : ∃ p c, W.cell? ⟨zm, 67, none⟩ = some (.slice p m.hs.length c) := by
  obtain ⟨hv, dv, bv, bc, rfl, h1, h2, h3, _⟩ := h
  obtain ⟨p, n, c, rfl⟩ := h3.opens
  have := h3.slen.1
  subst this
  exact ⟨p, c, (hb.msg h1 h2).c67⟩
theorem tD_pay (id : Bs) (h : id.length = 32) : (payP (tD id)).2 = 0 := pay_good (tD id) (show (1 : Int) ≤ 11 ∧ (11 : Int) ≤ 11 ∨ (11 : Int) = 13 by omega) rfl
theorem tD_bytes (id : Bs) (h : id.length = 32) : bytesP (tD id) = (frmOut (cmdB 11) (payP (tD id)).1, 0) := bytes_good (tD_pay id h) (by
  show (hshB wantB [id]).length ≤ 200000
  have := hshB_le (a := wantB) (l := [id]) (fun x hx => by rw [List.mem_singleton.1 hx]; exact h) (by decide)
  simp only [List.length_singleton] at this
  omega) (show cmdOk (cmdB 11) = true by decide)
theorem tD_plen (id : Bs) (h : id.length = 32) : (payP (tD id)).1.length ≤ 45 := by
  show (hshB wantB [id]).length ≤ 45
  have := hshB_le (a := wantB) (l := [id]) (fun x hx => by rw [List.mem_singleton.1 hx]; exact h) (by decide)
  simp only [List.length_singleton] at this
  omega
theorem tD_ok (id : Bs) (h : id.length = 32) : okMsg (tD id) := ⟨noHash_len, noHash_len, (fun x hx => by rw [List.mem_singleton.1 hx]; exact h), (fun x hx => by cases hx), noHdr_ok, (fun x hx => by cases hx)⟩
theorem tD_dec (id : Bs) (h : id.length = 32) : msgDecP (cmdB 11) (payP (tD id)).1 = (tD id, true, 0) := dec_back (tD id) (tD_ok id h) (tD_pay id h)
theorem tD_msg (id : Bs) (h : id.length = 32) : msgP (tD id) = (cmdB 11, (payP (tD id)).1, 0) := msgP_ok (tD id) (tD_pay id h)
set_option maxRecDepth 100000 in
set_option maxHeartbeats 8000000 in
theorem ask_data (g rv : Nat) (no : BitVec 64) (dn : Int) (id : Bs) (cs : List Value) (now : Int) (w : World) (hK : Laid w) (hid : id.length = 32) (hm : MsgC w (tD id) cs) (h : SesB w g no rv dn 2 0 true true none) :
    Calls Tryz.prog 14 #[.pointer (some ⟨g, 0, none⟩), .agg cs.toArray, .int .i64 now] w fun e w' => ∃ v rq, e = .returned (.tuple #[v, .int .i64 0]) ∧ Own8 w' w.heap.size v (frmOut (cmdB 11) (payP (tD id)).1) ∧
      w.heap.size ≤ rq ∧ SesB w' g no rv dn 2 0 true true (some ⟨rq, 0, none⟩) ∧ w'.cell? ⟨rq, 139, none⟩ = some (.int .i64 now) ∧ Stays (· = g) w w' := by
  have HCL := Lib.hid hm.len
  have HK := Lib.hid hK
  have hKs := hK.size
  have HID := Lib.hid hid
  have hzf := yFrm
  obtain ⟨zm, hzm⟩ : ∃ z, z = w.heap.size := ⟨_, rfl⟩
  obtain ⟨W1, hW1⟩ : ∃ V, V = w.alloc (.cells cs.toArray 41) := ⟨_, rfl⟩
  have hb1 : Below w.heap.size w W1 := by rw [hW1]; exact below_new w _
  have hB1 : Blk W1 zm 41 cs.toArray := by rw [hW1, hzm]; exact Blk.new w _ _
  have HM1 : Hid (MsgC W1 (tD id) cs) := Lib.hid (msgC_keeps _ _ _ _ hm hb1)
  have l1 := blk_range hB1
  have k0 := msgC_kind HM1.out hB1
  obtain ⟨ph, ch, k67⟩ := msgC_hashes HM1.out hB1
  replace k0 : W1.cell? ⟨zm, 0, none⟩ = some (.int .i64 11) := k0
  replace k67 : W1.cell? ⟨zm, 67, none⟩ = some (.slice ph 1 ch) := k67
  have h1 : SesB W1 g no rv dn 2 0 true true none := h.fut hb1
  have HN := Lib.hid (none_any g no rv dn 2 0 true true none W1 h1)
  have HBL := Lib.hid (bool_load ⟨g, 6, none⟩ 0 W1 h1.l.c6)
  have HRY := Lib.hid (ready_any g no rv dn 2 0 true true none W1 h1)
  have HS1 := Lib.hid h1
  have HW1 := Lib.hid hb1
  have HB1 := Lib.hid hB1
  have c9 := h1.l.c9
  have hg : g < zm := by rw [hzm]; exact h.lt
  have HZM := Lib.hid hzm
  have HBY := Lib.hid (msgBytes_of cs (tD id) W1 (fun V hv => enc_k11 0#32 0#64 noHash noHash [id] [] [] noBlk cs V hv rfl) (hK.below hb1 hKs) HM1.out)
  rw [tD_bytes id hid] at HBY
  obtain ⟨OB, hOB⟩ : ∃ OB, OB = frmOut (cmdB 11) (payP (tD id)).1 := ⟨_, rfl⟩
  rw [← hOB] at HBY ⊢
  unfold OutPost at HBY
  simp only at HBY
  clear hm hB1 hb1 h1 h hK hid hOB
  go_enter Tryz.func14, Tryz.ntmps14
  go_upto_region 1 with fail
  rw [← hW1, ← hzm]
  clear hW1 hzm
  go_wp2_with fail
  refine HN.out.mono ?_
  rintro e w0 ⟨rfl, hw⟩
  replace hw := hw.symm
  subst hw
  go_wp2_with fail
  refine HBL.out.mono ?_
  rintro e w0 ⟨rfl, hw⟩
  replace hw := hw.symm
  subst hw
  go_wp2_with fail
  refine HRY.out.mono ?_
  rintro e w0 ⟨rfl, hw⟩
  replace hw := hw.symm
  subst hw
  clear HN HBL HRY
  go_wp2_with ((with_reducible refine wpList_load_mid (op := ⟨some 44, _, _, _, _, _⟩) ?_ 41 (.tmp 4) ?_ (zm) (0) ?_ (cs) _ (l1) Tryz.underlying41 ?_ ?_ ?_
                · rfl
                · rfl
                · rfl
                · rfl
                · exact ((info_Msg HCL.out))))
  refine HBY.out.mono ?_
  rintro e w2 ⟨v2, rfl, ho2, hb2⟩
  have HO2 : Hid (Own8 w2 w.heap.size v2 OB) := Lib.hid (Own8.mono' ho2 HW1.out.size)
  have HW2 := Lib.hid (below_fut HW1.out hb2 (Nat.le_refl _))
  have HB2 := Lib.hid (HB1.out.fut hb2)
  have HM2 : Hid (MsgC w2 (tD id) cs) := Lib.hid (msgC_keeps _ _ _ _ HM1.out hb2)
  have HS2 : Hid (SesB w2 g no rv dn 2 0 true true none) := Lib.hid (HS1.out.fut hb2)
  have l2 := blk_range HB2.out
  have he2 := enc_k11 0#32 0#64 noHash noHash [id] [] [] noBlk cs w2 HM2.out rfl
  replace he2 : Calls Tryz.prog 34 #[.agg cs.toArray] w2 (MsgEnc w2 (msgP (tD id))) := he2
  rw [tD_msg id HID.out] at he2
  obtain ⟨PY, hPY⟩ : ∃ PY, PY = (payP (tD id)).1 := ⟨_, rfl⟩
  obtain ⟨CM, hCM⟩ : ∃ CM, CM = cmdB 11 := ⟨_, rfl⟩
  rw [← hPY, ← hCM] at he2
  unfold MsgEnc at he2
  simp only at he2
  have HPY := Lib.hid hPY
  have HCM := Lib.hid hCM
  have HE2 := Lib.hid he2
  clear ho2 hb2 l1 HBY HB1 HM1 HS1 HW1 he2 hPY hCM k0 k67 c9
  go_wp2_with ((with_reducible refine wpList_load_mid (op := ⟨some 51, _, _, _, _, _⟩) ?_ 41 (.tmp 4) ?_ (zm) (0) ?_ (cs) _ (l2) Tryz.underlying41 ?_ ?_ ?_
                · rfl
                · rfl
                · rfl
                · rfl
                · exact ((info_Msg HCL.out))))
  refine HE2.out.mono ?_
  rintro e w3 ⟨v3, rfl, ho3, hb3⟩
  obtain ⟨q3, m3, c3, rfl, _⟩ := ho3.open
  have HO3 := Lib.hid (Own8.mono' ho3 HW2.out.size)
  have HO23 := Lib.hid (HO2.out.fut hb3)
  have HW3 := Lib.hid (below_fut HW2.out hb3 (Nat.le_refl _))
  have HB3 := Lib.hid (HB2.out.fut hb3)
  have HM3 : Hid (MsgC w3 (tD id) cs) := Lib.hid (msgC_keeps _ _ _ _ HM2.out hb3)
  have HS3 : Hid (SesB w3 g no rv dn 2 0 true true none) := Lib.hid (HS2.out.fut hb3)
  have hbn := below_new w3 (.cells YFrm.toArray 82)
  clear ho3 hb3 l2 HE2 HO2 HB2 HM2 HS2 HW2
  go_upto_region 18 with ((with_reducible refine wp_store_blk (o := ⟨none, _, _, _, _, _⟩) ?_ 82 (.tmp 10) (.tmp 53) ?_ (w3.heap.size) 82 (YFrm.toArray) (#[.string (strB CM), .slice q3 m3 c3]) ?_ ?_ (Blk.new w3 _ _) ?_ ?_ ?_ (w3.heap.size) (w3) ?_ ?_ ?_
                           · rfl
                           · rfl
                           · rfl
                           · rfl
                           · exact ((by kernel_rfl))
                           · exact (rfl)
                           · exact (all_frm)
                           · exact (hbn)
                           · exact (Nat.le_refl _)
                           intro w4 hB4 hb4 hg4 hs4))
  try simp only [put_none]
  obtain ⟨z4, hz4⟩ : ∃ z, z = w3.heap.size := ⟨_, rfl⟩
  rw [← hz4] at hB4 ⊢
  have l4 := blk_range (cs := [.string (strB CM), .slice q3 m3 c3]) hB4.out
  have HO24 := Lib.hid (HO23.out.fut hb4)
  have HW4 := Lib.hid (below_fut HW3.out hb4 (Nat.le_refl _))
  have HB4 := Lib.hid (HB3.out.fut hb4)
  have HS4 : Hid (SesB w4 g no rv dn 2 0 true true none) := Lib.hid (HS3.out.fut hb4)
  have hds := msgDecode_of CM q3 m3 c3 PY w4 (fun _ => by
    rw [HCM.out, show kindP (cmdB 11) = 11 from (cmd_back (tD id) (tD_pay id HID.out)).1]
    exact fun D B g z hD hB w s hr hm => fields_k11 D B g z hD hB w s hr hm) (by
      have h := HO3.out.fut hb4
      exact h.sl) (by
      have h := HO3.out.open
      obtain ⟨_, _, _, e, hn, _⟩ := h
      injection e with _ e2 _
      have hp := tD_plen id HID.out
      rw [← HPY.out] at hp
      have := hn.out
      omega)
  rw [HPY.out, HCM.out, tD_dec id HID.out, ← HCM.out] at hds
  unfold MsgDec at hds
  simp only at hds
  have HDS := Lib.hid hds
  clear hbn hz4 hB4 hb4 hg4 hs4 HO3 HO23 HB3 HM3 HS3 HW3 hds
  go_wp2_with ((with_reducible refine wpList_load_mid (op := ⟨some 56, _, _, _, _, _⟩) ?_ 82 (.tmp 10) ?_ (z4) (0) ?_ ([.string (strB CM), .slice q3 m3 c3]) _ (l4) Tryz.underlying82 ?_ ?_ ?_
                · rfl
                · rfl
                · rfl
                · rfl
                · exact ((by kernel_rfl))))
  refine HDS.out.mono ?_
  rintro e w5 ⟨cs5, rfl, ho5, hb5⟩
  have HCL5 := Lib.hid ho5.c.len
  have hone5 := ho5.c.one
  have hsz5 := ho5.c.size (Y := cs.toArray) (by rw [List.size_toArray]; exact HCL.out)
  have HO5 := Lib.hid (HO24.out.fut hb5)
  have HW5 := Lib.hid (below_fut HW4.out hb5 (Nat.le_refl _))
  have HB5 := Lib.hid (HB4.out.fut hb5)
  have HS5 : Hid (SesB w5 g no rv dn 2 0 true true none) := Lib.hid (HS4.out.fut hb5)
  have hwz : w.heap.size ≤ zm := by rw [HZM.out]; exact Nat.le_refl _
  have hw5 := HW5.out
  clear ho5 hb5 l4 HDS HO24 HW4 HB4 HS4
  go_upto_region 19 with ((with_reducible refine wp_store_blk (o := ⟨none, _, _, _, _, _⟩) ?_ 41 (.tmp 4) (.tmp 58) ?_ (zm) 41 (cs.toArray) (cs5.toArray) ?_ ?_ (HB5.out) ?_ ?_ ?_ (w.heap.size) (w) ?_ ?_ ?_
                           · rfl
                           · rfl
                           · rfl
                           · rfl
                           · exact (info_MsgS HCL5.out)
                           · exact (hsz5)
                           · exact (hone5)
                           · exact (hw5)
                           · exact (hwz)
                           intro w6 hB6 hb6 hg6 hs6))
  try simp only [put_none]
  have hst6 := Stays.of_grown (S := fun k => k = zm) hg6.out (fun k h => by injection h with h; exact h.symm)
  have HO6 := Lib.hid (HO5.out.stays hst6 (fun k hk e => own_apartF HO5.out HB5.out (by decide) (by rw [hk, show k = zm from e])))
  have HS6 : Hid (SesB w6 g no rv dn 2 0 true true none) := Lib.hid (Blk.stays HS5.out hst6 (fun e => by have : g = zm := e; omega))
  have HW6 := Lib.hid hb6
  have l6 := blk_range hB6.out
  have hbt := built_req cs5 HCL5.out now
  obtain ⟨RQ, hRQ⟩ : ∃ RQ, RQ = (cs5 ++ [Value.int .i64 now]).toArray := ⟨_, rfl⟩
  rw [← hRQ] at hbt
  have HRQ : Hid (RQ[139]? = some (.int .i64 now)) := Lib.hid (by
    rw [hRQ, List.getElem?_toArray, List.getElem?_append_right (by rw [HCL5.out]; omega), HCL5.out]; rfl)
  clear hB6 hg6 hs6 hst6 hb6 HO5 HS5 HW5 HB5 hone5 hsz5 hw5 hRQ
  obtain ⟨rq, hrq⟩ : ∃ rq, rq = w6.heap.size := ⟨_, rfl⟩
  obtain ⟨w7, hw7⟩ : ∃ V, V = w6.alloc (.cells RQ 97) := ⟨_, rfl⟩
  have hb7 : Below w6.heap.size w6 w7 := by rw [hw7]; exact below_new w6 _
  have hB7 : Blk w7 rq 97 RQ := by rw [hw7, hrq]; exact Blk.new w6 _ _
  have HS7 : Hid (SesB w7 g no rv dn 2 0 true true none) := Lib.hid (HS6.out.fut hb7)
  have f9 := HS7.out.frozen 9
  have c9 := HS7.out.l.c9
  rw [hw7] at f9 c9
  have HO7 := Lib.hid (HO6.out.fut hb7)
  have HW7 := Lib.hid (below_fut HW6.out hb7 (Nat.le_refl _))
  have HB7 := Lib.hid hB7
  have hrq6 : zm < rq ∨ w.heap.size ≤ rq := Or.inr (by rw [hrq]; exact HW6.out.size)
  have hgrq : g < rq := by rw [hrq]; exact HS6.out.lt
  have HGRQ := Lib.hid hgrq
  clear hb7 hB7 HS6 HO6 HW6
  go_upto_region 20 with (first
    | (with_reducible refine wpList_load_mid (op := ⟨some 62, _, _, _, _, _⟩) ?_ 41 (.tmp 4) ?_ (zm) (0) ?_ (cs5) _ (l6) Tryz.underlying41 ?_ ?_ ?_
       · rfl
       · rfl
       · rfl
       · rfl
       · exact ((info_Msg HCL5.out)))
    | (with_reducible refine wp_build (o := ⟨some 64, _, _, _, _, _⟩) ?_ 97 #[(0, .tmp 62), (1, .tmp 63)] ?_ [(0, .agg cs5.toArray), (1, .int .i64 now)] ?_ RQ hbt ?_
       · rfl
       · rfl
       · rfl))
  rw [← hw7, ← hrq]
  clear hw7 hrq
  go_wp2_with fail
  go_ret2
  have hap : v2.ownBlock ≠ some g := own_apartF HO7.out HS7.out (by decide)
  have hst8 : Stays (· = g) w7 (w7.setCell ⟨g, 9, none⟩ (.pointer (some ⟨rq, 0, none⟩))) := (show Stays (· = g) w7 w7 from Stays.refl _ _).setCell (a := ⟨g, 9, none⟩) (fun _ => rfl) _
  exact ⟨v2, rq, rfl, HO7.out.stays hst8 (fun k hk e => hap (by rw [hk, show k = g from e])), by omega, HS7.out.set 9 _, ((Blk.stays HB7.out hst8 (fun e => by have : rq = g := e; have := HGRQ.out; omega)).cell 139).trans HRQ.out, (Stays.of_below HW7.out (Nat.le_refl _) (· = g)).setCell (a := ⟨g, 9, none⟩) (fun _ => rfl) _⟩
end Go.Proofs.YtjbijcjcejfpcaaGreatDoor
