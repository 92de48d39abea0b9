/- sporranlaw20.greeted: a session that is ready; the walk.  -/
import Derived.Test.YtjbijcjcejfpcaaGreatDoorLSesE
import Derived.Test.YtjbijcjcejfpcaaGreatDoorLSesH
namespace Go.Proofs.YtjbijcjcejfpcaaGreatDoor
open Go Go.RowKit
set_option linter.unusedVariables false
theorem built_g (k : Int) : Tryz.prog.built 41 [(0, .int .i64 k)] = some (msgK k 0#32 0#64).toArray := by kernel_rfl
def Ev.b (e : Ev) : Bs := frmOut e.f.1 e.f.2
theorem Ev.cmd (e : Ev) : cmdOk e.f.1 = true := by
  cases e with
  | ver nu no => exact (show cmdOk (cmdB 1) = true by decide)
  | ack => exact (show cmdOk (cmdB 2) = true by decide)
  | ping no => exact (show cmdOk (cmdB 3) = true by decide)
theorem Ev.bytes (e : Ev) : bytesP e.m = (e.b, 0) := bytes_good e.pay (by have := e.len; exact Nat.le_trans this (by decide)) e.cmd
theorem Ev.b_len (e : Ev) : 24 ≤ e.b.length ∧ e.b.length ≤ 109 := by
  unfold Ev.b
  rw [frmOut_len _ (cmdOk_len e.cmd)]
  have := e.len
  omega
theorem Ev.all (e : Ev) (r : Bs) : frmAll (e.b ++ r) = (e.f :: (frmAll r).1, (frmAll r).2) := frmAll_out e.cmd (by have := e.len; omega) r
theorem Ev.ref (e : Ev) (cs : List Value) (W : World) (hm : MsgC W e.m cs) : Calls Tryz.prog 9 #[.agg cs.toArray] W (OutSl W (e.b, 0)) := by
  have h := refMsgBytesS_of cs e.m W (fun V hv => refMsgEncode_of e.m cs V (fun W2 h2 => by
    cases e with
    | ver nu no => exact pay_r1 nu no noHash noHash [] [] [] noBlk cs W2 h2
    | ack => exact pay_r2 0#32 0#64 noHash noHash [] [] [] noBlk cs W2 h2
    | ping no => exact pay_r3 0#32 no noHash noHash [] [] [] noBlk cs W2 h2) hv) hm
  rw [e.bytes] at h
  exact h
theorem OutSl.sl {w w' : World} {bs : Bs} {e : Ending} (h : OutSl w (bs, 0) e w') (hne : bs ≠ []) : ∃ v, e = .returned (.tuple #[v, .int .i64 0]) ∧ Sl8 w' w.heap.size v bs ∧ Below w.heap.size w w' := by
  obtain ⟨v, h1, h2 | ⟨_, h2⟩, h3⟩ := h
  · exact ⟨v, h1, h2, h3⟩
  · exact absurd h2 hne
theorem Sl8.blk {w : World} {B : Nat} {v : Value} {bs : Bs} (h : Sl8 w B v bs) (p : Option Addr) (n c : Nat) (e : v = .slice p n c) (a : Addr) (ha : p = some a) : B ≤ a.block ∧ a.block < w.heap.size := by
  obtain ⟨g, cap, rfl, h1, h2, _⟩ := h
  injection e with e1
  rw [ha] at e1
  injection e1 with e1
  rw [← e1]
  exact ⟨h1, h2⟩
theorem Ev.b_ne (e : Ev) : e.b ≠ [] := fun h => by have := e.b_len; rw [h] at this; simp at this
theorem ack_short : Ev.ack.b = shortB 2 0#64 := by rw [short2]; rfl
theorem hello_len (no : BitVec 64) : (helloB no).length = 109 := by
  unfold helloB
  rw [bytes_good (m := tK 1 70015#32 no) rfl (by show (le32 70015#32 ++ (nulls 68 ++ (low no 8 ++ nulls 5))).length ≤ 200000; simp [low_len, le32, nulls]) (show cmdOk (cmdB 1) = true by decide)]
  show (frmOut (cmdB 1) (le32 70015#32 ++ (nulls 68 ++ (low no 8 ++ nulls 5)))).length = 109
  rw [frmOut_len _ (by decide)]
  simp [low_len, le32, nulls]
def ReadyAt (B : Nat) (w : World) (g rv : Nat) (no : BitVec 64) (dn : Int) : Prop :=
  SesB w g no rv dn 2 0 true true none ∧ (∃ v, Rd w rv v 0 ∧ Sfx8 w B v []) ∧ B ≤ rv ∧ B ≤ g
theorem greet_run : runS ⟨false, false⟩ [(Ev.ver 0#32 0#64).f, Ev.ack.f] = some (⟨true, true⟩, shortB 2 0#64) := by
  rw [run_ver, if_neg (by decide), run_ack, if_neg (by decide)]
  show (some ((⟨true, true⟩ : Gr), ([] : Bs))).map _ = _
  simp
theorem greet_all : feedP [] 0 ((Ev.ver 0#32 0#64).b ++ Ev.ack.b) = ([(Ev.ver 0#32 0#64).f, Ev.ack.f], [], 0) := by
  unfold feedP
  rw [if_pos rfl, List.nil_append, Ev.all]
  have h := Ev.ack.all []
  rw [List.append_nil, frmAll_nil] at h
  rw [h]
set_option maxRecDepth 100000 in
set_option maxHeartbeats 8000000 in
theorem greeted_any (w : World) (hK : Laid w) : Calls Tryz.prog 8 #[] w fun e w' => ∃ g rv, e = .returned (.pointer (some ⟨g, 0, none⟩)) ∧ ReadyAt w.heap.size w' g rv 5#64 1 ∧ Below w.heap.size w w' := by
  have hnew : Calls Tryz.prog 19 #[.int .u64 5] w fun e w' => ∃ g, e = .returned (.pointer (some ⟨g, 0, none⟩)) ∧ w.heap.size < g ∧
    Blk w' w.heap.size 113 #[.slice none 0 0, .bool true, .int .i64 0] ∧ Blk w' g 77 (sesC 5#64 w.heap.size 0 0 0 false false none).toArray ∧ Below w.heap.size w w' := new_ses 5#64 w
  have HNEW := Lib.hid hnew
  have HK := Lib.hid hK
  have hKs := hK.size
  clear hnew hK
  go_enter Tryz.func8, Tryz.ntmps8
  go_wp2_with fail
  refine HNEW.out.mono ?_
  rintro e w1 ⟨g, rfl, hg, hr1, hs1, hb1⟩
  obtain ⟨rv, hrv⟩ : ∃ rv, rv = w.heap.size := ⟨_, rfl⟩
  have HRV := Lib.hid hrv
  rw [← hrv] at hg hr1 hs1
  have HR1 := Lib.hid hr1
  have HS1 : Hid (SesB w1 g 5#64 rv 0 0 0 false false none) := Lib.hid hs1
  have HB1 := Lib.hid hb1
  have hbt1 := built_g 1
  obtain ⟨M1, hM1⟩ : ∃ M1, M1 = (msgK 1 0#32 0#64).toArray := ⟨_, rfl⟩
  have hf1 := (Ev.ver 0#32 0#64).ref (msgK 1 0#32 0#64) w1 (msgK_o 0 w1 1 0#32 0#64).c
  rw [← hM1] at hbt1 hf1
  have HF1 := Lib.hid hf1
  clear hrv hr1 hs1 hb1 hM1 hf1 HNEW
  go_wp2_with ((with_reducible refine wp_build (o := ⟨some 11, _, _, _, _, _⟩) ?_ 41 #[(0, .const (.int .i64 1))] ?_ [(0, .int .i64 1)] ?_ M1 hbt1 ?_
                · rfl
                · rfl
                · rfl))
  refine HF1.out.mono ?_
  intro e w2 h2
  obtain ⟨v2, rfl, hsl2, hb2⟩ := h2.sl (Ev.b_ne _)
  have HB2 := Lib.hid (below_fut HB1.out hb2 (Nat.le_refl _))
  have HR2 := Lib.hid (HR1.out.fut hb2)
  have HS2 : Hid (SesB w2 g 5#64 rv 0 0 0 false false none) := Lib.hid (HS1.out.fut hb2)
  have HSL2 := Lib.hid hsl2
  have HG1 : Hid (g < w1.heap.size ∧ rv < w1.heap.size) := Lib.hid ⟨HS1.out.lt, HR1.out.lt⟩
  have hw12 : w1.heap.size ≤ w2.heap.size := hb2.size
  have hbt2 := built_g 2
  obtain ⟨M2, hM2⟩ : ∃ M2, M2 = (msgK 2 0#32 0#64).toArray := ⟨_, rfl⟩
  have hf2 := Ev.ack.ref (msgK 2 0#32 0#64) w2 (msgK_o 0 w2 2 0#32 0#64).c
  rw [← hM2] at hbt2 hf2
  have HF2 := Lib.hid hf2
  clear h2 hsl2 hb2 hM2 hf2 HF1 HB1 HR1 HS1 hbt1
  go_wp2_with ((with_reducible refine wp_build (o := ⟨some 16, _, _, _, _, _⟩) ?_ 41 #[(0, .const (.int .i64 2))] ?_ [(0, .int .i64 2)] ?_ M2 hbt2 ?_
                · rfl
                · rfl
                · rfl))
  refine HF2.out.mono ?_
  intro e w3 h3
  obtain ⟨v3, rfl, hsl3, hb3⟩ := h3.sl (Ev.b_ne _)
  have HB3 := Lib.hid (below_fut HB2.out hb3 (Nat.le_refl _))
  have HR3 := Lib.hid (HR2.out.fut hb3)
  have HS3 : Hid (SesB w3 g 5#64 rv 0 0 0 false false none) := Lib.hid (HS2.out.fut hb3)
  have hs2' := HSL2.out.fut hb3
  have hq3 := hsl3.blk
  obtain ⟨q3, c3, rfl, hlc3, hr3⟩ := hsl3.row
  have HQ3 : Hid (∀ a, q3 = some a → w2.heap.size ≤ a.block ∧ a.block < w3.heap.size) := Lib.hid (fun a ha => hq3 _ _ _ rfl a ha)
  have HSLO := Lib.hid HSL2.out
  obtain ⟨VB, hVB⟩ : ∃ VB, VB = (Ev.ver 0#32 0#64).b := ⟨_, rfl⟩
  obtain ⟨AB, hAB⟩ : ∃ AB, AB = Ev.ack.b := ⟨_, rfl⟩
  rw [← hVB] at hs2'
  rw [← hAB] at hr3 hlc3 ⊢
  have hVl : VB.length ≤ 109 := by rw [hVB]; exact (Ev.b_len _).2
  have hAl : AB.length ≤ 109 := by rw [hAB]; exact (Ev.b_len _).2
  have hAn : AB ≠ [] := by rw [hAB]; exact Ev.b_ne _
  obtain ⟨al, hal⟩ : ∃ al, al = AB.length := ⟨_, rfl⟩
  have HAL := Lib.hid hal
  rw [← hal] at hlc3 ⊢
  have HVB := Lib.hid hVB
  have HAB := Lib.hid hAB
  have HR3b := Lib.hid hr3
  have hw3 : w1.heap.size ≤ w3.heap.size := Nat.le_trans hw12 hb3.size
  clear h3 hsl3 hb3 hVB hAB hal hr3 HSL2 HF2 HB2 HR2 HS2 hbt2
  go_wp2_with (first
      | (with_reducible refine wp_sl8g (o := ⟨some 24, _, _, _, _, _⟩) ?_ (.tmp 22) (.tmp 23) ?_ w1.heap.size v2 VB ?_ hs2' q3 al c3 AB ?_ HAL.out.symm HR3b.out hAn ?_ hw3 ?_
         · rfl
         · rfl
         · rfl
         · rfl
         · omega
         intro v4 w4 hs4 hb4 hg4))
  have hs5 : SesB w4 g 5#64 rv 0 0 0 false false none := Blk.below HS3.out hb4 HG1.out.1
  have hr5 : Rd w4 rv (.slice none 0 0) 0 := Blk.below HR3.out hb4 HG1.out.2
  have hbw4 : Below w.heap.size w w4 := HB3.out.trans (hb4.mono (by have := HRV.out; have := HG1.out; omega))
  obtain ⟨q4, c4, rfl, hl4, hr4⟩ := hs4.row
  obtain ⟨n4, hn4⟩ : ∃ n4, n4 = (VB ++ AB).length := ⟨_, rfl⟩
  have hn4' : n4 ≤ 218 := by rw [hn4, List.length_append]; omega
  have hall : feedP [] 0 (VB ++ AB) = ([(Ev.ver 0#32 0#64).f, Ev.ack.f], [], 0) := by rw [HVB.out, HAB.out]; exact greet_all
  have hfd := feed_small w.heap.size g rv (.slice none 0 0) [] (VB ++ AB) 0 q4 n4 c4 w4 5#64 0 ⟨false, false⟩ (HK.out.below hbw4 hKs) hKs ⟨by rw [HRV.out]; exact Nat.le_refl _, by have := HRV.out; omega⟩ hs5 hr5 (Sfx8.nil _ _) (fun h => absurd rfl h) hr4 hn4.symm (by simp only [List.length_nil]; omega) (by rw [hall]; decide) (by
    rw [hall]
    exact ⟨Ev.ver 0#32 0#64, rfl, fun _ => ⟨Ev.ack, rfl, fun _ => trivial⟩⟩)
  rw [hall] at hfd
  replace hfd : Calls Tryz.prog 10 #[.pointer (some ⟨g, 0, none⟩), .slice q4 n4 c4] w4 (FeedQ w.heap.size (.slice none 0 0) w4 g rv 5#64 0 ([(Ev.ver 0#32 0#64).f, Ev.ack.f], [], 0) (runS ⟨false, false⟩ [(Ev.ver 0#32 0#64).f, Ev.ack.f])) := hfd
  rw [greet_run, ← ack_short, ← HAB.out] at hfd
  rw [← hn4]
  have HFD := Lib.hid hfd
  have HBW4 := Lib.hid hbw4
  have HR3c : Hid (Row8 w4 q3 AB) := Lib.hid (HR3b.out.stays (Stays.of_grown (S := fun k => v2.ownBlock = some k) hg4 (fun k h => h)) (fun _ a ha hS => by
    have h1 := HQ3.out a ha
    obtain ⟨gg, cc, e, _, h2, _⟩ := HSLO.out
    rw [e] at hS
    injection hS with hS
    simp only at hS
    omega))
  have HQ3b := Lib.hid (fun a (ha : q3 = some a) => (show g < a.block ∧ rv < a.block ∧ a.block < w4.heap.size from by
    have h1 := HQ3.out a ha
    have h2 := HG1.out
    have h3 := hb4.size
    omega))
  clear hs5 hr5 hbw4 hr4 hn4 hall hfd hs4 hs2' HS3 HR3 HB3
  go_wp2_with fail
  refine HFD.out.mono ?_
  intro e w5 h5
  obtain ⟨hb5, hst5, u5, v5, rfl, ho5, hs5, hr5, hv5⟩ := h5
  replace hs5 : SesB w5 g 5#64 rv 0 2 0 true true none := hs5
  replace hr5 : Rd w5 rv v5 0 := hr5
  replace hv5 : Sfx8 w5 w.heap.size v5 [] := hv5
  have HRB : Hid (Row8 w5 q3 AB) := Lib.hid (HR3c.out.stays hst5 (fun _ a ha hS => by
    have h1 := HQ3b.out a ha
    rcases hS with h | h | h
    · omega
    · omega
    · cases h))
  have hap5 : u5.ownBlock ≠ some g := own_apartF ho5 hs5 (by decide)
  have HAP5 := Lib.hid hap5
  have HO5 := Lib.hid ho5
  obtain ⟨q5, n5, c5, rfl, hn5, _, _, hr5b⟩ := ho5.open
  have HBW5 := Lib.hid (HBW4.out.trans hb5)
  have hh := hello_first g 5#64 rv 2 0 true true none w5 (HK.out.below HBW5.out hKs) (by have := HRV.out; omega) hs5
  have HH := Lib.hid hh
  have HR5 := Lib.hid hr5
  have HV5 := Lib.hid hv5
  have HV5A : Hid (v5.ownBlock ≠ some g) := Lib.hid (hv5.apart hs5 (by decide))
  have HB5 := Lib.hid (fun (a : Addr) ha => (show g < a.block from (HQ3b.out a ha).1))
  clear hh hs5 hr5 hv5 hr5b hb5 hst5 HFD HBW4 HR3c HQ3b hap5 ho5
  go_wp2_with fail
  refine HH.out.mono ?_
  rintro e w6 ⟨v6, rfl, ho6, hs6, hst6⟩
  obtain ⟨q6, n6, c6, rfl, hn6, _, _, _⟩ := ho6.open
  have hn6' : n6 = 109 := by rw [← hn6.out, hello_len]
  subst hn6'
  have ho5 := HO5.out.stays hst6 (fun k hk e => HAP5.out (by rw [hk, show k = g from e]))
  obtain ⟨q5', n5', c5', he5, hn5', _, _, hr5⟩ := ho5.open
  obtain ⟨rfl, rfl, rfl⟩ : q5 = q5' ∧ n5 = n5' ∧ c5 = c5' := by injection he5 with a1 a2 a3; exact ⟨a1, a2, a3⟩
  have hrb := HRB.out.stays hst6 (fun _ a ha hS => by have := HB5.out a ha; have : a.block = g := hS; omega)
  have HEQ := Lib.hid (equal_same q5 q3 n5 c5 al c3 AB w6 hr5 hrb hn5.out HAL.out.symm)
  have HRY := Lib.hid (ready_any g 5#64 rv 1 2 0 true true none w6 hs6)
  have HF : Hid (ReadyAt w.heap.size w6 g rv 5#64 1 ∧ Below w.heap.size w w6) := Lib.hid ⟨⟨hs6, ⟨v5, Blk.stays HR5.out hst6 (fun e => by have : rv = g := e; omega), HV5.out.stays hst6 (fun k hk e => HV5A.out (by rw [hk, show k = g from e]))⟩, by rw [HRV.out]; exact Nat.le_refl _, by have := HRV.out; omega⟩, HBW5.out.trans (hst6.below HBW5.out.size (fun k hk => by have : k = g := hk; have := HRV.out; omega))⟩
  clear ho5 he5 hn5' hr5 hrb hs6 hst6 ho6 HH HO5 HRB HR5 HV5 HB5
  go_wp2_with fail
  refine HEQ.out.mono ?_
  rintro e w7 ⟨rfl, hw⟩
  replace hw := hw.symm
  subst hw
  go_wp2_with fail
  refine HRY.out.mono ?_
  rintro e w7 ⟨rfl, hw⟩
  replace hw := hw.symm
  subst hw
  go_wp2_with fail
  go_ret
  exact ⟨g, rv, rfl, HF.out⟩
end Go.Proofs.YtjbijcjcejfpcaaGreatDoor
