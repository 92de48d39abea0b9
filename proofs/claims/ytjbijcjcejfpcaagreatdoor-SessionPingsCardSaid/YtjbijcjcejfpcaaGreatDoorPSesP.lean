/- sporranlaw20.SessionPings: the walk.  -/
import Derived.Test.YtjbijcjcejfpcaaGreatDoorPSesG
namespace Go.Proofs.YtjbijcjcejfpcaaGreatDoor
open Go Go.RowKit
set_option linter.unusedVariables false
def RowU (w : World) (p : Option Addr) (zs : List (BitVec 64)) : Prop :=
  zs ≠ [] → ∃ b o, p = some ⟨b, o, none⟩ ∧ b < w.heap.size ∧ ∀ i z, zs[i]? = some z → w.cell? ⟨b, o + i, none⟩ = some (.int .u64 (iv64 z))
theorem RowU.fut {w w' : World} {B : Nat} {p : Option Addr} {zs : List (BitVec 64)} (h : RowU w p zs) (hb : Below B w w') (hB : w.heap.size ≤ B) : RowU w' p zs := fun hn => by
  obtain ⟨b, o, rfl, hlt, hc⟩ := h hn
  exact ⟨b, o, rfl, Nat.lt_of_lt_of_le hlt hb.size, fun i z hz => (hb.cell (p := ⟨b, o + i, none⟩) (Nat.lt_of_lt_of_le hlt hB)).trans (hc i z hz)⟩
theorem built_k3 (no : BitVec 64) : Tryz.prog.built 41 [(0, .int .i64 3), (2, .int .u64 (iv64 no))] = some (msgK 3 0#32 no).toArray := by kernel_rfl
theorem pong_ref (no : BitVec 64) (W : World) : Calls Tryz.prog 9 #[.agg (msgK 4 0#32 no).toArray] W (OutSl W (shortB 4 no, 0)) := by
  have h := refMsgBytesS_of (msgK 4 0#32 no) (tK 4 0#32 no) W (fun V hv => refMsgEncode_of (tK 4 0#32 no) _ V (fun W2 h2 => pay_r4 0#32 no noHash noHash [] [] [] noBlk _ W2 h2) hv) (msgK_o 0 W 4 0#32 no).c
  have hp : (payP (tK 4 0#32 no)) = (low no 8, 0) := rfl
  have e : bytesP (tK 4 0#32 no) = (shortB 4 no, 0) := by
    rw [short4, bytes_good (by rw [hp]) (by rw [hp]; show (low no 8).length ≤ 200000; rw [low_len]; omega) (show cmdOk (cmdB 4) = true by decide), hp]
  rw [e] at h
  exact h
theorem short4_ne (no : BitVec 64) : shortB 4 no ≠ [] := fun h => by have := short4_len no; rw [h] at this; cases this
theorem ping_all (no : BitVec 64) : feedP [] 0 (Ev.ping no).b = ([(Ev.ping no).f], [], 0) := by
  unfold feedP
  rw [if_pos rfl, List.nil_append]
  have h := (Ev.ping no).all []
  rw [List.append_nil, frmAll_nil] at h
  rw [h]
theorem ping_run (no : BitVec 64) : runS ⟨true, true⟩ [(Ev.ping no).f] = some (⟨true, true⟩, shortB 4 no) := by
  rw [run_ping]
  show (some ((⟨true, true⟩ : Gr), ([] : Bs))).map _ = _
  simp
set_option maxRecDepth 100000 in
set_option maxHeartbeats 8000000 in
theorem sessionPings_walk (q : Option Addr) (N c : Nat) (zs : List (BitVec 64)) (W : World) (hK : Laid W) (hn : zs.length = N) (hl : N ≤ c) (hc : c ≤ maxLen) (hr : RowU W q zs) :
    Calls Tryz.prog 3 #[.slice q N c] W fun e w' => e = .returned (.bool true) ∧ Below W.heap.size W w' := by
  have HN := Lib.hid hn
  have HR := Lib.hid hr
  have HK := Lib.hid hK
  have hKs := hK.size
  have HG := Lib.hid (greeted_any W hK)
  have hc2 : c ≤ 9223372036854775807 := by unfold maxLen at hc; omega
  clear hn hr hK hc
  go_enter Tryz.func3, Tryz.ntmps3
  go_wp2_with fail
  refine HG.out.mono ?_
  rintro e w1 ⟨g, rv, rfl, hra, hb1⟩
  have HRA := Lib.hid hra
  have HB1 := Lib.hid hb1
  clear hra hb1 HG
  go_upto_block 0 with fail
  go_cut [] (fun wx => Hid (ReadyAt W.heap.size wx g rv 5#64 1) ∧ Hid (Below W.heap.size W wx))
  case first =>
    go_wp2_with fail
    go_loopw [18] (fun i wx => ∃ k : Nat, k ≤ N ∧ k ≤ 21 ∧ i = .int .i64 k ∧ Hid (ReadyAt W.heap.size wx g rv 5#64 1) ∧ Hid (Below W.heap.size W wx)) (fun i _ => N - (intOf i).toNat)
    case atStart => exact ⟨0, by omega, by omega, rfl, HRA, HB1⟩
    case round =>
      obtain ⟨k, hk, hk21, rfl, HRD, HB⟩ := hrel
      by_cases hkn : k < N
      · have hlt : (k : Int) < (N : Int) := by omega
        obtain ⟨z, hz⟩ : ∃ z, zs[k]? = some z := ⟨_, List.getElem?_eq_getElem (by rw [HN.out]; exact hkn)⟩
        obtain ⟨bz, oz, rfl, _, hcz⟩ := (HR.out.fut HB.out (Nat.le_refl _)) (fun e => by rw [e] at hz; cases hz)
        have hcell := hcz k z hz
        clear hz hcz
        by_cases h20 : 20 < k
        · have h20' : (20 : Int) < (k : Int) := by omega
          go_wp2_with fail
          go_meet
          exact ⟨HRD, HB⟩
        · have h20' : ¬ (20 : Int) < (k : Int) := by omega
          have hbt3 := built_k3 z
          have hbt4 := built_k4 z
          obtain ⟨M3, hM3⟩ : ∃ M, M = (msgK 3 0#32 z).toArray := ⟨_, rfl⟩
          obtain ⟨M4, hM4⟩ : ∃ M, M = (msgK 4 0#32 z).toArray := ⟨_, rfl⟩
          have hf3 := fun V => (Ev.ping z).ref (msgK 3 0#32 z) V (msgK_o 0 V 3 0#32 z).c
          have hf4 := fun V => pong_ref z V
          rw [← hM3] at hbt3
          rw [← hM4] at hbt4
          simp only [← hM3] at hf3
          simp only [← hM4] at hf4
          have HF3 := Lib.hid hf3
          have HF4 := Lib.hid hf4
          clear hM3 hM4 hf3 hf4
          go_wp2_with ((with_reducible refine wp_build (o := ⟨some 27, _, _, _, _, _⟩) ?_ 41 #[(0, .const (.int .i64 3)), (2, .tmp 26)] ?_ [(0, .int .i64 3), (2, .int .u64 (iv64 z))] ?_ M3 hbt3 ?_
                        · rfl
                        · rfl
                        · rfl))
          refine (HF3.out _).mono ?_
          intro e w2 h2
          obtain ⟨v2, rfl, hsl2, hb2⟩ := h2.sl (Ev.b_ne _)
          obtain ⟨q2, c2, rfl, hlc2, hr2⟩ := hsl2.row
          have HR2 := Lib.hid hr2
          have hrw : g < wr.heap.size ∧ rv < wr.heap.size := ⟨HRD.out.1.lt, HRD.out.2.1.elim fun v h => h.1.lt⟩
          have HRW := Lib.hid hrw
          have hw2 := hb2.size
          obtain ⟨pl, hpl⟩ : ∃ pl, pl = (Ev.ping z).b.length := ⟨_, rfl⟩
          rw [← hpl] at hlc2 ⊢
          have HPL := Lib.hid hpl
          have HB2 := Lib.hid hb2
          clear h2 hsl2 hr2 hrw hb2 hpl HF3 hbt3
          go_wp2_with ((with_reducible refine wp_build (o := ⟨some 33, _, _, _, _, _⟩) ?_ 41 #[(0, .const (.int .i64 4)), (2, .tmp 32)] ?_ [(0, .int .i64 4), (2, .int .u64 (iv64 z))] ?_ M4 hbt4 ?_
                        · rfl
                        · rfl
                        · rfl))
          refine (HF4.out _).mono ?_
          intro e w3 h3
          obtain ⟨v3, rfl, hsl3, hb3⟩ := h3.sl (short4_ne _)
          have hq3 := hsl3.blk
          obtain ⟨q3, c3, rfl, hlc3, hr3⟩ := hsl3.row
          have HQ3 : Hid (∀ a, q3 = some a → w2.heap.size ≤ a.block ∧ a.block < w3.heap.size) := Lib.hid (fun a ha => hq3 _ _ _ rfl a ha)
          have hb23 : Below wr.heap.size wr w3 := below_fut HB2.out hb3 (Nat.le_refl _)
          obtain ⟨⟨v5, hrd5, hsf5⟩, hBr, hBg⟩ := HRD.out.2
          have hs3 : SesB w3 g 5#64 rv 1 2 0 true true none := HRD.out.1.fut hb23
          have hrd3 : Rd w3 rv v5 0 := hrd5.fut hb23
          have hsf3 : Sfx8 w3 W.heap.size v5 [] := hsf5.fut hb23
          have hbw3 : Below W.heap.size W w3 := below_fut HB.out hb23 (Nat.le_refl _)
          have hall := ping_all z
          have hfd := feed_small W.heap.size g rv v5 [] (Ev.ping z).b 0 q2 pl c2 w3 5#64 1 ⟨true, true⟩ (HK.out.below hbw3 hKs) hKs ⟨hBr, hBg⟩ hs3 hrd3 hsf3 (fun h => absurd rfl h) (HR2.out.fut hb3) HPL.out.symm (by have := (Ev.ping z).b_len; have := HPL.out; simp only [List.length_nil]; omega) (by rw [hall]; show 1 ≤ 1000000000; decide) (by
            rw [hall]
            exact ⟨Ev.ping z, rfl, rfl, rfl, trivial⟩)
          rw [hall] at hfd
          replace hfd : Calls Tryz.prog 10 #[.pointer (some ⟨g, 0, none⟩), .slice q2 pl c2] w3 (FeedQ W.heap.size v5 w3 g rv 5#64 1 ([(Ev.ping z).f], [], 0) (runS ⟨true, true⟩ [(Ev.ping z).f])) := hfd
          rw [ping_run] at hfd
          have HFD := Lib.hid hfd
          have HQN : Hid (∀ a, q3 = some a → ¬ (a.block = g ∨ a.block = rv ∨ v5.ownBlock = some a.block)) := Lib.hid (fun a ha h => by
            have h1 := HQ3.out a ha
            have h2 := HRW.out
            rcases h with h | h | h
            · omega
            · omega
            · have := (hsf5.lt _ h).2; omega)
          have HR3 := Lib.hid hr3
          have HBW3 := Lib.hid hbw3
          have HBG : Hid (W.heap.size ≤ rv ∧ W.heap.size ≤ g) := Lib.hid ⟨hBr, hBg⟩
          obtain ⟨OB, hOB⟩ : ∃ OB, OB = shortB 4 z := ⟨_, rfl⟩
          rw [← hOB] at HFD HR3 hlc3 ⊢
          obtain ⟨ol, hol⟩ : ∃ ol, ol = OB.length := ⟨_, rfl⟩
          have HOL := Lib.hid hol
          rw [← hol] at hlc3 ⊢
          clear h3 hsl3 hq3 hb3 hb23 hrd5 hsf5 hs3 hrd3 hsf3 hbw3 hall hfd hr3 hBr hBg hOB hol HF4 hbt4 HRD HB HB2 HR2
          go_wp2_with fail
          refine HFD.out.mono ?_
          intro e w5 h5
          obtain ⟨hb5, hst5, u5, v6, rfl, ho5, hs5, hr5, hv5⟩ := h5
          replace hs5 : SesB w5 g 5#64 rv 1 2 0 true true none := hs5
          replace hr5 : Rd w5 rv v6 0 := hr5
          replace hv5 : Sfx8 w5 W.heap.size v6 [] := hv5
          obtain ⟨q5, n5, c5, rfl, hn5, _, _, hr5b⟩ := ho5.open
          have hrb := HR3.out.stays hst5 (fun _ a ha hS => HQN.out a ha hS)
          have HEQ := Lib.hid (equal_same q5 q3 n5 c5 ol c3 OB w5 hr5b hrb hn5.out HOL.out.symm)
          have HRD2 : Hid (ReadyAt W.heap.size w5 g rv 5#64 1) := Lib.hid ⟨hs5, ⟨v6, hr5, hv5⟩, HBG.out.1, HBG.out.2⟩
          have HB5 := Lib.hid (HBW3.out.trans hb5)
          clear hb5 hst5 ho5 hs5 hr5 hv5 hr5b hrb HFD
          go_wp2_with fail
          refine HEQ.out.mono ?_
          rintro e w7 ⟨rfl, hw⟩
          replace hw := hw.symm
          subst hw
          go_wp2_with fail
          go_roundw
          case rel => exact ⟨k + 1, by omega, by omega, by go_num, HRD2, HB5⟩
          case measure => simp [intOf]; omega
      · have hlt : ¬ (k : Int) < (N : Int) := by omega
        go_wp2_with fail
        go_meet
        exact ⟨HRD, HB⟩
  case rest =>
  obtain ⟨HRD, HB⟩ := hcut
  have HRY := Lib.hid (ready_any g 5#64 rv 1 2 0 true true none wc HRD.out.1)
  have HHA := Lib.hid (hello_again g 5#64 rv 1 2 0 (by decide) true true none wc HRD.out.1)
  go_wp2_with fail
  refine HRY.out.mono ?_
  rintro e w7 ⟨rfl, hw⟩
  replace hw := hw.symm
  subst hw
  go_wp2_with fail
  refine HHA.out.mono ?_
  rintro e w8 ⟨rfl, hb8⟩
  have HB8 := Lib.hid (below_fut HB.out hb8 (Nat.le_refl _))
  clear hb8
  go_wp2_with fail
  go_ret
  exact ⟨rfl, HB8.out⟩
end Go.Proofs.YtjbijcjcejfpcaaGreatDoor
