/- MessageReads: what the statement's function awake tells; the walk.  -/
import Derived.Test.YtndobjlodpkknaaAMsgN
import Derived.Test.YtndobjlodpkknaaAMsgS
import Derived.Test.YtndobjlodpkknaaAGK
namespace Go.Proofs.Ytndobjlodpkknaa
open Go Go.RowKit
set_option linter.unusedVariables false
theorem dec_verack : msgDecP (cmdN 2) [] = ({ noMsg with k := 2 }, true, 0) := rfl
theorem built_verack : Try.prog.built 24 [(0, .string ⟨#[118, 101, 114, 97, 99, 107]⟩)] = some #[.string (strB (cmdN 2)), .slice none 0 0] := by kernel_rfl
theorem MsgC.size {w : World} {m : TMsg} {cs : List Value} (h : MsgC w m cs) {Y : Array Value} (hY : Y.size = 139) : Y.size = cs.toArray.size := by rw [hY, List.size_toArray, h.len]
set_option maxRecDepth 100000 in
set_option maxHeartbeats 8000000 in
theorem awakeM_any (w : World) : Calls Try.prog 14 #[] w fun e w' => e = .returned (.bool true) ∧ Below w.heap.size w w' := by
  obtain ⟨Y0, hY0⟩ : ∃ Y, Y = (msgZ 0).toArray := ⟨_, rfl⟩
  have hz := zMsg
  rw [← hY0] at hz
  have HYS : Y0.size = 139 := by rw [hY0]; exact msgZ_size 0
  have hbt := built_verack
  have hdec := msgDecode_any (cmdN 2) none 0 0 [] w ⟨none, 0, 0, rfl, rfl, Nat.le_refl _, by unfold maxLen; omega, Row8.nil _ _, fun _ => rfl⟩ (by omega)
  rw [dec_verack] at hdec
  clear hY0
  go_enter Try.func14, Try.ntmps14
  go_wp2_with ((with_reducible refine wp_build (o := ⟨some 5, _, _, _, _, _⟩) ?_ 24 #[(0, .const (.string ⟨#[118, 101, 114, 97, 99, 107]⟩))] ?_ [(0, .string ⟨#[118, 101, 114, 97, 99, 107]⟩)] ?_ #[.string (strB (cmdN 2)), .slice none 0 0] hbt ?_
                · rfl
                · rfl
                · rfl))
  refine hdec.mono ?_
  rintro e w1 ⟨cs, rfl, ho, hb⟩
  have hone := ho.c.one
  have hsz := ho.c.size HYS
  have HCL := Lib.hid ho.c.len
  have HB := Lib.hid hb
  obtain ⟨hv, dv, bv, bc, hcs, _⟩ := ho
  have HCS := Lib.hid hcs
  have hbn := below_new w1 (.cells Y0 38)
  clear hdec hb hcs HYS hbt
  go_upto_region 2 with ((with_reducible refine wp_store_blk (o := ⟨none, _, _, _, _, _⟩) ?_ 38 (.tmp 1) (.tmp 7) ?_ (w1.heap.size) 38 (Y0) (cs.toArray) ?_ ?_ (Blk.new w1 _ _) ?_ ?_ ?_ (w1.heap.size) (w1) ?_ ?_ ?_
                          · rfl
                          · rfl
                          · rfl
                          · rfl
                          · exact (info_MsgS HCL.out)
                          · exact (hsz)
                          · exact (hone)
                          · exact (hbn)
                          · exact (Nat.le_refl _)
                          intro w2 hB2 hb2 hg2 hs2))
  try simp only [put_none]
  have c0 : w2.cell? ⟨w1.heap.size, 0, none⟩ = some (.int .i64 2) := by rw [hB2.out.cell, List.getElem?_toArray, HCS.out]; rfl
  go_wp2_with fail
  go_ret
  exact ⟨rfl, below_fut HB.out hb2 (Nat.le_refl _)⟩
def ZFrm : List Value := [.string ⟨#[]⟩, .slice none 0 0]
theorem zFrm : ∀ w, (zeroValue 24).run Try.prog w = .ok (.agg ZFrm.toArray) w := zero_ofM (by kernel_rfl)
theorem built_frm2 (s : ByteArray) (p : Option Addr) (n c : Nat) : Try.prog.built 24 [(0, .string s), (1, .slice p n c)] = some #[.string s, .slice p n c] := by kernel_rfl
def GivMid (w : World) (fr : Nat) (cmd bs : List (BitVec 8)) (p : Option Addr) (n c : Nat) (e : Exit) (a : Act) (W : World) : Prop := match e with
  | .normal => ∃ q m d z, Hid (Own8 W w.heap.size (.slice q m d) bs) ∧ Hid (Blk W z 24 #[.string (strB cmd), .slice q m d]) ∧ Hid (Blk W fr 24 #[.string (strB cmd), .slice p n c]) ∧ Hid (Below w.heap.size w W) ∧ Hid (w.heap.size ≤ z) ∧
      ∃ u11 u12 u13 u14 u15 u16, a = ⟨#[.agg #[.string (strB cmd), .slice p n c], .pointer (some ⟨fr, 0, none⟩), .bool false, .pointer (some ⟨z, 0, none⟩), undef, undef, undef, undef, undef, undef, undef, u11, u12, u13, u14, u15, u16, undef, undef, undef, undef, undef, undef, undef, undef, undef, undef, undef, undef, undef, undef, undef, undef, undef, undef, undef, undef, undef, undef, undef, undef, undef, undef, undef, undef, undef, undef, undef, undef, undef, undef, undef, undef, undef, undef, undef, undef, undef, undef, undef], []⟩
  | _ => False
set_option maxRecDepth 100000 in
set_option maxHeartbeats 8000000 in
theorem messageReads_walk (cmd : List (BitVec 8)) (p : Option Addr) (n c : Nat) (bs : List (BitVec 8)) (W : World) (hn : bs.length = n) (hl : n ≤ c) (hcb : c ≤ 140737488351232) (hr : Row8 W p bs) (hp : p = none → c = 0) :
    Calls Try.prog 3 #[.agg #[.string (strB cmd), .slice p n c]] W fun e w' => e = .returned (.bool true) ∧ Below W.heap.size W w' := by
  obtain ⟨x, hx⟩ : ∃ x, x = msgDecP cmd bs := ⟨_, rfl⟩
  obtain ⟨X, kn, er⟩ := x
  have HSL : Hid (Sl W (.slice p n c) bs) := Lib.hid ⟨p, n, c, rfl, hn, hl, by unfold maxLen; omega, hr, hp⟩
  have HX := Lib.hid hx.symm
  have HR := Lib.hid hr
  have HN := Lib.hid hn
  have HP := Lib.hid hp
  have hzf := zFrm
  have hnb := below_new W (.cells #[.string (strB cmd), .slice p n c] 24)
  obtain ⟨fr, hfr⟩ : ∃ z, z = W.heap.size := ⟨_, rfl⟩
  obtain ⟨w0, hw0⟩ : ∃ V, V = W.alloc (.cells #[.string (strB cmd), .slice p n c] 24) := ⟨_, rfl⟩
  have HF0 : Hid (Blk w0 fr 24 #[.string (strB cmd), .slice p n c] ∧ Below W.heap.size W w0) := Lib.hid ⟨by rw [hw0, hfr]; exact Blk.new W _ _, by rw [hw0]; exact hnb⟩
  clear hx hr hn hp hnb
  go_enter Try.func3, Try.ntmps3
  go_upto_region 1 with fail
  rw [← hw0, ← hfr]
  have HFR := Lib.hid hfr
  have hfw : fr < w0.heap.size := HF0.out.1.lt
  clear hw0 hfr
  refine Code.wp_mono (Q := GivMid W fr cmd bs p n c) ?imp ?reg
  case reg =>
    have hF0 : Blk w0.drew fr 24 #[.string (strB cmd), .slice p n c] ∧ Below W.heap.size W w0.drew := ⟨HF0.out.1.fut (below_draws w0 1), below_fut HF0.out.2 (below_draws w0 1) (Nat.le_refl _)⟩
    refine region_tree (.qs [0, 1, 2, 3] (.two 4 (.qs [5] (.o 6 (.o 7 (.done)))) 6 (.o 4 (.qs [5] (.o 7 (.done)))))) (fun V => Blk V fr 24 #[.string (strB cmd), .slice p n c] ∧ Below W.heap.size W V) (by kernel_rfl) (by kernel_rfl) hF0 ?_
    refine' tree_quiet (s := 60) (A1 := _) [0, 1, 2, 3] [_, _, _, _] _ rfl rfl rfl (fun W hW => ?hq1) _ hF0 (fun _ => ?hr1)
    case hq1 =>
      have e0 : ∀ k, (W.drewN k).cell? ⟨fr, 0, none⟩ = some (.string (strB cmd)) := fun k => by have := hW.1.cell 0; simpa using this
      have e1 : ∀ k, (W.drewN k).cell? ⟨fr, 1, none⟩ = some (.slice p n c) := fun k => by have := hW.1.cell 1; simpa using this
      simp only [List.getElem_toArray, List.getElem_cons_zero, List.getElem_cons_succ]
      iterate 4 (go_big_quiet_step (fail))
      refine wpQuiet_nil ?_
      rfl
    case hr1 =>
    have hsz0 : w0.drew.heap.size = w0.heap.size := rfl
    generalize w0.drew = w1 at *
    clear HF0
    refine tree_two rfl rfl (fun k1 => ?gA) (fun k1 => ?gB)
    case gA =>
      have hdra := below_draws w1 k1
      have hFa : Blk (w1.drewN k1) fr 24 #[.string (strB cmd), .slice p n c] ∧ Below W.heap.size W (w1.drewN k1) := ⟨hF0.1.fut hdra, below_fut hF0.2 hdra (Nat.le_refl _)⟩
      generalize w1.drewN k1 = Wa at *
      clear hdra hF0
      have hC := clone_any p n c bs Wa (HR.out.below hFa.2 (Nat.le_refl _)) HN.out (by omega) (fun e => by have := HP.out e; omega)
      go_wp2_with fail
      refine hC.mono ?_
      rintro e Wb ⟨v, rfl, ho, hb⟩
      obtain ⟨q, m, d, rfl, _⟩ := ho.open
      have hFb : Blk Wb fr 24 #[.string (strB cmd), .slice p n c] ∧ Below W.heap.size W Wb := ⟨hFa.1.fut hb, below_fut hFa.2 hb (Nat.le_refl _)⟩
      have hob : Own8 Wb W.heap.size (.slice q m d) bs := ownsRow_mono ho hFa.2.size
      clear hFa ho hb hC
      go_wp2_with fail
      refine planQ_normal (Grows.same hFb ?_)
      refine' tree_quiet (s := 60) (A1 := _) [5] [_] _ rfl rfl rfl (fun W hW => ?hqbb) _ hFb (fun _ => ?hrbb)
      case hqbb =>
        simp only [List.getElem_toArray, List.getElem_cons_zero, List.getElem_cons_succ]
        refine quiet_build rfl 24 #[(0, .tmp 12), (1, .tmp 15)] rfl #[.string (strB cmd), .slice q m d] (by simp only [List.map_toArray, List.map_cons, List.map_nil]; exact built_frm2 (strB cmd) q m d) ?_
        simp only [put_some, List.setIfInBounds_toArray, List.set_cons_succ, List.set_cons_zero]
        refine wpQuiet_nil ?_
        rfl
      case hrbb =>
      refine tree_one rfl fun k2 => ?_
      have hdrc := below_draws Wb k2
      have hFc : Blk (Wb.drewN k2) fr 24 #[.string (strB cmd), .slice p n c] ∧ Below W.heap.size W (Wb.drewN k2) := ⟨hFb.1.fut hdrc, below_fut hFb.2 hdrc (Nat.le_refl _)⟩
      have hoc := hob.fut hdrc
      clear hob hFb
      generalize Wb.drewN k2 = Wc at *
      have hnb := below_new Wc (.cells ZFrm.toArray 24)
      have hBz := Blk.new Wc 24 ZFrm.toArray
      have hFd : Blk (Wc.alloc (.cells ZFrm.toArray 24)) fr 24 #[.string (strB cmd), .slice p n c] ∧ Below W.heap.size W (Wc.alloc (.cells ZFrm.toArray 24)) := ⟨hFc.1.fut hnb, below_fut hFc.2 hnb (Nat.le_refl _)⟩
      have hod := hoc.fut hnb
      have hzw : W.heap.size ≤ Wc.heap.size ∧ fr < Wc.heap.size := ⟨hFc.2.size, hFc.1.lt⟩
      clear hoc hdrc hFc hnb
      go_wp2_with fail
      obtain ⟨z, hz⟩ : ∃ z, z = Wc.heap.size := ⟨_, rfl⟩
      rw [← hz] at hBz hzw ⊢
      generalize Wc.alloc (.cells ZFrm.toArray 24) = Wd at *
      clear hz
      refine planQ_normal (Grows.same hFd ?_)
      refine tree_one rfl fun k3 => ?_
      have hdre := below_draws Wd k3
      have hFe : Blk (Wd.drewN k3) fr 24 #[.string (strB cmd), .slice p n c] ∧ Below W.heap.size W (Wd.drewN k3) := ⟨hFd.1.fut hdre, below_fut hFd.2 hdre (Nat.le_refl _)⟩
      have hoe := hod.fut hdre
      have hBe := hBz.fut hdre
      clear hod hFd hBz
      generalize Wd.drewN k3 = We at *
      have hbr := Below.refl W.heap.size We
      refine wp_store_blk (o := ⟨none, _, _, _, _, _⟩) rfl 24 (.tmp 3) (.tmp 16) rfl z 24 ZFrm.toArray #[.string (strB cmd), .slice q m d] rfl rfl hBe (by kernel_rfl) rfl (by rw [List.all_toArray]; rfl) W.heap.size We hbr hzw.1 ?_
      intro Wf hBf hbf hgf hsf
      have hst := Stays.of_grown (S := fun k => k = z) hgf.out (fun k h => by injection h with h; exact h.symm)
      have hof : Own8 Wf W.heap.size (.slice q m d) bs := hoe.sep hst (sep_one hBe (by decide))
      have hFf : Blk Wf fr 24 #[.string (strB cmd), .slice p n c] ∧ Below W.heap.size W Wf := ⟨hFe.1.stays hst (by omega), hFe.2.trans hbf⟩
      refine planQ_normal (Grows.same hFf (tree_end fun k9 => ?_))
      have hd9 := below_draws Wf k9
      exact ⟨q, m, d, z, Lib.hid (hof.fut hd9), Lib.hid (hBf.out.fut hd9), Lib.hid (hFf.1.fut hd9), Lib.hid (below_fut hFf.2 hd9 (Nat.le_refl _)), Lib.hid hzw.1, _, _, _, _, _, _, rfl⟩
    case gB =>
      have hdra := below_draws w1 k1
      have hFa : Blk (w1.drewN k1) fr 24 #[.string (strB cmd), .slice p n c] ∧ Below W.heap.size W (w1.drewN k1) := ⟨hF0.1.fut hdra, below_fut hF0.2 hdra (Nat.le_refl _)⟩
      generalize w1.drewN k1 = Wa at *
      clear hdra hF0
      have hnb := below_new Wa (.cells ZFrm.toArray 24)
      have hBz := Blk.new Wa 24 ZFrm.toArray
      have hFd : Blk (Wa.alloc (.cells ZFrm.toArray 24)) fr 24 #[.string (strB cmd), .slice p n c] ∧ Below W.heap.size W (Wa.alloc (.cells ZFrm.toArray 24)) := ⟨hFa.1.fut hnb, below_fut hFa.2 hnb (Nat.le_refl _)⟩
      have hzw : W.heap.size ≤ Wa.heap.size ∧ fr < Wa.heap.size := ⟨hFa.2.size, hFa.1.lt⟩
      clear hFa hnb
      go_wp2_with fail
      obtain ⟨z, hz⟩ : ∃ z, z = Wa.heap.size := ⟨_, rfl⟩
      rw [← hz] at hBz hzw ⊢
      generalize Wa.alloc (.cells ZFrm.toArray 24) = Wd at *
      clear hz
      refine planQ_normal (Grows.same hFd ?_)
      refine tree_one rfl fun k2 => ?_
      have hdre := below_draws Wd k2
      have hFe : Blk (Wd.drewN k2) fr 24 #[.string (strB cmd), .slice p n c] ∧ Below W.heap.size W (Wd.drewN k2) := ⟨hFd.1.fut hdre, below_fut hFd.2 hdre (Nat.le_refl _)⟩
      have hBe := hBz.fut hdre
      clear hFd hBz
      generalize Wd.drewN k2 = We at *
      have hC := clone_any p n c bs We (HR.out.below hFe.2 (Nat.le_refl _)) HN.out (by omega) (fun e => by have := HP.out e; omega)
      go_wp2_with fail
      refine hC.mono ?_
      rintro e Wb ⟨v, rfl, ho, hb⟩
      obtain ⟨q, m, d, rfl, _⟩ := ho.open
      have hFb : Blk Wb fr 24 #[.string (strB cmd), .slice p n c] ∧ Below W.heap.size W Wb := ⟨hFe.1.fut hb, below_fut hFe.2 hb (Nat.le_refl _)⟩
      have hob : Own8 Wb W.heap.size (.slice q m d) bs := ownsRow_mono ho hFe.2.size
      have hBb := hBe.fut hb
      clear hFe hBe ho hb hC hdre
      go_wp2_with fail
      refine planQ_normal (Grows.same hFb ?_)
      refine' tree_quiet (s := 60) (A1 := _) [5] [_] _ rfl rfl rfl (fun W hW => ?hqdb) _ hFb (fun _ => ?hrdb)
      case hqdb =>
        simp only [List.getElem_toArray, List.getElem_cons_zero, List.getElem_cons_succ]
        refine quiet_build rfl 24 #[(0, .tmp 12), (1, .tmp 15)] rfl #[.string (strB cmd), .slice q m d] (by simp only [List.map_toArray, List.map_cons, List.map_nil]; exact built_frm2 (strB cmd) q m d) ?_
        simp only [put_some, List.setIfInBounds_toArray, List.set_cons_succ, List.set_cons_zero]
        refine wpQuiet_nil ?_
        rfl
      case hrdb =>
      refine tree_one rfl fun k3 => ?_
      have hdre := below_draws Wb k3
      have hFe : Blk (Wb.drewN k3) fr 24 #[.string (strB cmd), .slice p n c] ∧ Below W.heap.size W (Wb.drewN k3) := ⟨hFb.1.fut hdre, below_fut hFb.2 hdre (Nat.le_refl _)⟩
      have hoe := hob.fut hdre
      have hBe := hBb.fut hdre
      clear hob hFb hBb
      generalize Wb.drewN k3 = We at *
      have hbr := Below.refl W.heap.size We
      refine wp_store_blk (o := ⟨none, _, _, _, _, _⟩) rfl 24 (.tmp 3) (.tmp 16) rfl z 24 ZFrm.toArray #[.string (strB cmd), .slice q m d] rfl rfl hBe (by kernel_rfl) rfl (by rw [List.all_toArray]; rfl) W.heap.size We hbr hzw.1 ?_
      intro Wf hBf hbf hgf hsf
      have hst := Stays.of_grown (S := fun k => k = z) hgf.out (fun k h => by injection h with h; exact h.symm)
      have hof : Own8 Wf W.heap.size (.slice q m d) bs := hoe.sep hst (sep_one hBe (by decide))
      have hFf : Blk Wf fr 24 #[.string (strB cmd), .slice p n c] ∧ Below W.heap.size W Wf := ⟨hFe.1.stays hst (by omega), hFe.2.trans hbf⟩
      refine planQ_normal (Grows.same hFf (tree_end fun k9 => ?_))
      have hd9 := below_draws Wf k9
      exact ⟨q, m, d, z, Lib.hid (hof.fut hd9), Lib.hid (hBf.out.fut hd9), Lib.hid (hFf.1.fut hd9), Lib.hid (below_fut hFf.2 hd9 (Nat.le_refl _)), Lib.hid hzw.1, _, _, _, _, _, _, rfl⟩
  case imp =>
    intro e a W1 hM
    cases e with
    | normal =>
      obtain ⟨q, m, d, z, HO2, HZ2, HF2, HW2, HZW, u11, u12, u13, u14, u15, u16, rfl⟩ := hM
      clear HF0 hfw hzf
      have hz := zMsg
      obtain ⟨Y0, hY0⟩ : ∃ Y, Y = (msgZ 0).toArray := ⟨_, rfl⟩
      rw [← hY0] at hz
      have HYS : Hid (Y0.size = 139) := Lib.hid (by rw [hY0]; exact msgZ_size 0)
      obtain ⟨B, hB⟩ : ∃ B, B = W1.heap.size := ⟨_, rfl⟩
      have HBe := Lib.hid hB
      have HWB : Hid (W.heap.size ≤ B) := Lib.hid (by rw [hB]; exact HW2.out.size)
      have hsl2 := HO2.out.sl
      have hmc : m ≤ 140737488355328 := by obtain ⟨_, _, _, e, h1, _⟩ := hsl2; injection e with _ e2; rw [e2, ← h1, HN.out]; omega
      have hD := msgDecode_any cmd q m d bs W1 hsl2 hmc
      rw [HX.out] at hD
      have lz := blk_range (cs := [.string (strB cmd), .slice q m d]) HZ2.out
      clear hY0 hB hsl2 hmc
      go_upto_region 3 with (first
        | (with_reducible refine wpList_load_mid (op := ⟨some 18, _, _, _, _, _⟩) ?_ 24 (.tmp 3) ?_ (z) (0) ?_ ([.string (strB cmd), .slice q m d]) _ (lz) Try.underlying24 ?_ ?_ ?_
           · rfl
           · rfl
           · rfl
           · rfl
           · exact ((by kernel_rfl)))
        | (with_reducible refine hD.mono ?_
           rintro e w3 ⟨cs2, rfl, hO, hb3⟩
           simp only at hO
           rw [← HBe.out] at hO
           have hone := hO.c.one
           have HCL := Lib.hid hO.c.len
           have hbn := below_new w3 (.cells Y0 38)
           have hzsz := hO.c.size HYS.out
           have HO3 := Lib.hid hO
           have HB3 := Lib.hid hb3
           clear hO hb3)
        | (with_reducible refine wp_store_blk (o := ⟨none, _, _, _, _, _⟩) ?_ 38 (.tmp 4) (.tmp 20) ?_ (w3.heap.size) 38 (Y0) (cs2.toArray) ?_ ?_ (Blk.new w3 _ _) ?_ ?_ ?_ (w3.heap.size) (w3) ?_ ?_ ?_
           · rfl
           · rfl
           · rfl
           · rfl
           · exact (info_MsgS HCL.out)
           · exact (hzsz)
           · exact (hone)
           · exact (hbn)
           · exact (Nat.le_refl _)
           intro w4 hB4 hb4 hg4 hs4))
      try simp only [put_none]
      have HB4 := Lib.hid (below_fut HB3.out hb4 (Nat.le_refl _))
      have HW4 := Lib.hid (below_fut HW2.out HB4.out (Nat.le_refl _))
      have HO4 := Lib.hid (msgO_keeps _ _ _ _ _ _ HO3.out (Stays.of_below hb4 (Nat.le_refl _) (fun _ => False)) (fun _ h => h.elim))
      have HT4 := Lib.hid hB4.out
      have HF4 := Lib.hid (HF2.out.fut HB4.out)
      have hD2 := refMsgDecode_any cmd p n c bs w4 (HSL.out.below HW4.out (Nat.le_refl _)) (by have := HN.out; omega)
      rw [HX.out] at hD2
      obtain ⟨z4, hz4⟩ : ∃ z, z = w3.heap.size := ⟨_, rfl⟩
      rw [← hz4] at HT4 ⊢
      have lf := blk_range (cs := [.string (strB cmd), .slice p n c]) HF4.out
      clear hz4 hbn hzsz hone hb4 hg4 hs4 hB4 HB3 HO3 hD lz
      go_upto_region 4 with (first
        | (with_reducible refine wpList_load_mid (op := ⟨some 24, _, _, _, _, _⟩) ?_ 24 (.tmp 1) ?_ (fr) (0) ?_ ([.string (strB cmd), .slice p n c]) _ (lf) Try.underlying24 ?_ ?_ ?_
           · rfl
           · rfl
           · rfl
           · rfl
           · exact ((by kernel_rfl)))
        | (with_reducible refine hD2.mono ?_
           rintro e w5 ⟨cs5, rfl, hO, hb5⟩
           simp only at hO
           have hone5 := hO.c.one
           have HCL5 := Lib.hid hO.c.len
           have hbn := below_new w5 (.cells Y0 38)
           have hzsz := hO.c.size HYS.out
           have HO5 := Lib.hid hO.c
           have HB5 := Lib.hid hb5
           clear hO hb5)
        | (with_reducible refine wp_store_blk (o := ⟨none, _, _, _, _, _⟩) ?_ 38 (.tmp 7) (.tmp 26) ?_ (w5.heap.size) 38 (Y0) (cs5.toArray) ?_ ?_ (Blk.new w5 _ _) ?_ ?_ ?_ (w5.heap.size) (w5) ?_ ?_ ?_
           · rfl
           · rfl
           · rfl
           · rfl
           · exact (info_MsgS HCL5.out)
           · exact (hzsz)
           · exact (hone5)
           · exact (hbn)
           · exact (Nat.le_refl _)
           intro w6 hB6 hb6 hg6 hs6))
      try simp only [put_none]
      have hb46 := below_fut HB5.out hb6 (Nat.le_refl _)
      have HB6 := Lib.hid (below_fut HB4.out hb46 (Nat.le_refl _))
      have HO6 := Lib.hid (msgO_keeps _ _ _ _ _ _ HO4.out (Stays.of_below hb46 (Nat.le_refl _) (fun _ => False)) (fun _ h => h.elim))
      have HT6 := Lib.hid (HT4.out.fut hb46)
      have HU6 := Lib.hid hB6.out
      have HX6 := Lib.hid (msgC_keeps _ _ _ _ HO5.out hb6)
      have HF6 := Lib.hid (HF4.out.fut hb46)
      clear hb46 hbn hzsz hb6 hg6 hs6 hB6 HB5 HB4 HW4 HO4 HT4 HO5 hone5 hD2 HF4 lf
      have l1 := blk_range HT6.out
      have l2 := blk_range HU6.out
      have hst := sameMsg_any X cs2 cs5 w6 HO6.out.c HX6.out
      have hkk : (er == er) = true := by simp
      have hbb : (kn == kn) = true := by simp
      go_wp2_with (first
        | (with_reducible refine wpList_load_mid (op := ⟨some 29, _, _, _, _, _⟩) ?_ 38 (.tmp 4) ?_ (z4) (0) ?_ (cs2) _ (l1) Try.underlying38 ?_ ?_ ?_
           · rfl
           · rfl
           · rfl
           · rfl
           · exact ((info_Msg HCL.out)))
        | (with_reducible refine wpList_load_mid (op := ⟨some 30, _, _, _, _, _⟩) ?_ 38 (.tmp 7) ?_ (w5.heap.size) (0) ?_ (cs5) _ (l2) Try.underlying38 ?_ ?_ ?_
           · rfl
           · rfl
           · rfl
           · rfl
           · exact ((info_Msg HCL5.out))))
      refine hst.mono ?_
      rintro e w7 ⟨rfl, hb7⟩
      have HB7 := Lib.hid (below_fut HB6.out hb7 (Nat.le_refl _))
      have HO7 := Lib.hid (msgO_keeps _ _ _ _ _ _ HO6.out (Stays.of_below hb7 (Nat.le_refl _) (fun _ => False)) (fun _ h => h.elim))
      have HT7 := Lib.hid (HT6.out.fut hb7)
      have HF7 := Lib.hid (HF6.out.fut hb7)
      clear hb7 HB6 HO6 HT6 HU6 HX6 l1 l2 hst HF6
      obtain ⟨hv, dv, bv, bc, hcs, hpv, hsv, hh, hd, hb, hbl⟩ := HO7.out
      have hBw7 : B ≤ w7.heap.size := by have := HB7.out.size; have := HBe.out; omega
      obtain ⟨S, hS⟩ : ∃ S, S = SBy B w7 := ⟨_, rfl⟩
      have hSlt : ∀ k, S k → k < w7.heap.size := fun k h => by rw [hS] at h; exact h.lt
      have hSB : ∀ k, S k → B ≤ k := fun k h => by rw [hS] at h; exact h.1
      have hS8 : ∀ k, S k → ∃ cs, Blk w7 k 5 cs := fun k h => by rw [hS] at h; exact h.2
      obtain ⟨qb, cb, rfl, hlcb, hcbb, hmine⟩ := hb.mineS
      have hbm := hbl.m
      rw [← hS] at hmine hbm
      obtain ⟨v7, hv7, hrow7⟩ := hbm
      have hT7 := HT7.out
      rw [hcs] at hT7
      have hA7 := hT7.msg hpv hsv
      have c69 := hA7.c69
      have hnb := below_new w7 (.cells #[.slice qb X.tx.length cb] 22)
      have hPn : Pok S w7 (w7.alloc (.cells #[.slice qb X.tx.length cb] 22)) := Pok.fut hnb
      have hml : MineRowsS (w7.alloc (.cells #[.slice qb X.tx.length cb] 22)) S (some ⟨w7.heap.size, 0, none⟩) 1 := TextM.lit hmine hlcb hcbb hPn (Blk.new w7 _ _) (fun h => absurd (hSlt _ h) (by omega))
      have hsp := spoilM_any S (some ⟨w7.heap.size, 0, none⟩) 1 1 (w7.alloc (.cells #[.slice qb X.tx.length cb] 22)) (by omega) (by omega) hml
      have HPn := Lib.hid hPn
      have HCS := Lib.hid (And.intro hcs (And.intro hpv hsv))
      have HBLC := Lib.hid hbl.c.len
      have HSS := Lib.hid (And.intro hSlt (And.intro hSB hS8))
      have HV7 := Lib.hid (And.intro hv7 hrow7)
      clear hcs hpv hsv hh hd hb hbl hS hSlt hSB hS8 hlcb hcbb hmine hv7 hrow7 hT7 hA7 hnb hPn hml HO7
      go_wp2_with fail
      refine hsp.mono ?_
      rintro e w9 ⟨rfl, hp9⟩
      have hp79 := HPn.out.trans hp9
      have hn4 : ¬ S z4 := fun h => by obtain ⟨cs, h1⟩ := HSS.out.2.2 _ h; exact absurd (h1.inj HT7.out).1 (by decide)
      have HT9 := Lib.hid (HT7.out.stays hp79.st hn4)
      have hT9 := HT9.out
      rw [HCS.out.1] at hT9
      have lb := (hT9.msg HCS.out.2.1 HCS.out.2.2).rb
      have hSlt9 : ∀ k, S k → k < w9.heap.size := fun k h => Nat.lt_of_lt_of_le (HSS.out.1 k h) hp79.st.size
      have hsb := spoilBlock_any S bc v7 X.bl.ts w9 hSlt9 HV7.out.1 (HV7.out.2.pok (txM_keeps S) hp79)
      have HP79 := Lib.hid hp79
      clear hp9 hp79 hn4 hT9 hSlt9 hsp c69 HPn
      go_wp2_with (first
        | (with_reducible refine wpList_load_mid (op := ⟨some 47, _, _, _, _, _⟩) ?_ 36 (.tmp 46) ?_ (z4) (70) ?_ (bc) _ (lb) Try.underlying36 ?_ ?_ ?_
           · rfl
           · rfl
           · rfl
           · rfl
           · exact ((info_Blk HBLC.out))))
      refine hsb.mono ?_
      rintro e w10 ⟨rfl, hp10⟩
      have hb10 : Below B w7 w10 := ((HP79.out.trans hp10).st).below hBw7 HSS.out.2.1
      have hbg : Below B W1 w10 := (HB7.out.mono (by rw [HBe.out]; exact Nat.le_refl _)).trans hb10
      have hgiven : Sl w10 (.slice q m d) bs := HO2.out.sl.below hbg (by rw [HBe.out]; exact Nat.le_refl _)
      have hZ10 := HZ2.out.fut (by rw [← HBe.out]; exact hbg)
      have hF10 := HF2.out.fut (by rw [← HBe.out]; exact hbg)
      have HW10 : Hid (Below W.heap.size W w10) := Lib.hid (HW2.out.trans (hbg.mono HWB.out))
      have HG := Lib.hid hgiven
      have cz : w10.cell? ⟨z, 1, none⟩ = some (.slice q m d) := by have := hZ10.cell 1; simpa using this
      have cf : w10.cell? ⟨fr, 1, none⟩ = some (.slice p n c) := by have := hF10.cell 1; simpa using this
      clear hb10 hbg hgiven hp10 hsb lb hZ10 hF10 HT9 HT7 HP79
      go_wp2_with fail
      refine (bEqual_any _ _ bs w10 HG.out (HSL.out.below HW10.out (Nat.le_refl _))).mono ?_
      rintro e w11 ⟨rfl, hw11⟩
      replace hw11 := hw11.symm
      subst hw11
      go_wp2_with fail
      refine (awakeM_any _).mono ?_
      rintro e w12 ⟨rfl, hb12⟩
      go_wp2_with fail
      go_ret
      exact ⟨rfl, below_fut HW10.out hb12 (Nat.le_refl _)⟩
    | _ => exact hM.elim
end Go.Proofs.Ytndobjlodpkknaa
