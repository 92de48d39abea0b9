/- SipHash, the program: the sum. -/
import Derived.Test.YtlopmnepodbefaaSipB
namespace Go.Proofs.Ytlopmnepodbefaa
open Go.RowKit
attribute [local go_sem] add64 xor64 or64 shlp64 shrp64 alloc_drewN setCell_drewN

/-- the four words at first -/
def S4.start (k0 k1 : BitVec 64) : S4 := ⟨k0 ^^^ 8317987319222330741#64, k1 ^^^ 7237128888997146477#64, k0 ^^^ 7816392313619706465#64, k1 ^^^ 8387220255154660723#64⟩
/-- behind k words -/
def S4.words (s : S4) (bs : List (BitVec 8)) : Nat → S4
  | 0 => s
  | k + 1 => (S4.words s bs k).take (wordTo ((bs.drop (8 * k)).take 8) 8)
def S4.rounds (s : S4) : Nat → S4
  | 0 => s
  | k + 1 => (S4.rounds s k).round
def S4.ended (s : S4) : BitVec 64 :=
  let t := S4.rounds { s with c := s.c ^^^ 255#64 } 4
  t.a ^^^ t.b ^^^ t.c ^^^ t.d
def sipSum (k0 k1 : BitVec 64) (bs : List (BitVec 8)) : BitVec 64 :=
  ((S4.words (S4.start k0 k1) bs (bs.length / 8)).take ((BitVec.ofNat 64 bs.length <<< 56) ||| wordTo (bs.drop (8 * (bs.length / 8))) 8)).ended

theorem words_succ (s : S4) (bs : List (BitVec 8)) (k : Nat) : S4.words s bs (k + 1) = (S4.words s bs k).take (wordTo ((bs.drop (8 * k)).take 8) 8) := rfl
theorem word_len (n : Nat) (p : Option Addr) (c : Nat) (bs : List (BitVec 8)) (w : World) (hr : Row8 w p bs) (hn : bs.length = n) :
    Calls Try.prog 30 #[.slice p n c] w fun e w' => e = .returned (u64 (wordTo bs 8)) ∧ Below w.heap.size w w' := by
  subst hn; exact word_any p c bs w hr
def S4.cells (s : S4) : Array Value := #[u64 s.a, u64 s.b, u64 s.c, u64 s.d]
theorem take_cells (s : S4) (m : BitVec 64) (w : World) (a b c d : BitVec 64) (h : s = ⟨a, b, c, d⟩) :
    Calls Try.prog 29 #[.agg #[u64 a, u64 b, u64 c, u64 d], u64 m] w fun e w' => e = .returned (.agg #[u64 (s.take m).a, u64 (s.take m).b, u64 (s.take m).c, u64 (s.take m).d]) ∧ Below w.heap.size w w' := by
  subst h; exact take_any _ m w
theorem round_cells (s : S4) (w : World) (a b c d : BitVec 64) (h : s = ⟨a, b, c, d⟩) :
    Calls Try.prog 31 #[.agg #[u64 a, u64 b, u64 c, u64 d]] w fun e w' => e = .returned (.agg #[u64 s.round.a, u64 s.round.b, u64 s.round.c, u64 s.round.d]) ∧ Below w.heap.size w w' := by
  subst h; exact round_any _ w

set_option maxRecDepth 100000 in
set_option maxHeartbeats 1000000 in
theorem sum_any (k0 k1 : BitVec 64) (p : Option Addr) (c : Nat) (bs : List (BitVec 8)) (w : World) (hr : Row8 w p bs) (hc : bs.length ≤ c) (hm : c ≤ maxLen) :
    Calls Try.prog 22 #[u64 k0, u64 k1, .slice p bs.length c] w fun e w' => e = .returned (u64 (sipSum k0 k1 bs)) ∧ Below w.heap.size w w' := by
  unfold maxLen at hm
  have x0 : bits .xor .u64 (iv64 k0) 8317987319222330741 = iv64 (S4.start k0 k1).a := by
    rw [show (8317987319222330741 : Int) = iv64 8317987319222330741#64 from by simp [iv64], xor64]; rfl
  have x1 : bits .xor .u64 (iv64 k1) 7237128888997146477 = iv64 (S4.start k0 k1).b := by
    rw [show (7237128888997146477 : Int) = iv64 7237128888997146477#64 from by simp [iv64], xor64]; rfl
  have x2 : bits .xor .u64 (iv64 k0) 7816392313619706465 = iv64 (S4.start k0 k1).c := by
    rw [show (7816392313619706465 : Int) = iv64 7816392313619706465#64 from by simp [iv64], xor64]; rfl
  have x3 : bits .xor .u64 (iv64 k1) 8387220255154660723 = iv64 (S4.start k0 k1).d := by
    rw [show (8387220255154660723 : Int) = iv64 8387220255154660723#64 from by simp [iv64], xor64]; rfl
  have x9 : IntKind.u64.wrap ((bs.length : Int) * 72057594037927936) = iv64 (BitVec.ofNat 64 bs.length <<< 56) := by
    rw [iv64_lit bs.length (by omega)]; exact shl64 _ 56 _ (by decide)
  have hlen : (bs.length : Int) ≤ 9223372036854775807 := by omega
  go_enter Try.func22, Try.ntmps22
  go_wp2
  clear x0 x1 x2 x3 x9
  obtain ⟨wo, hwo⟩ : ∃ wo : World, wo = (w.alloc (.cells #[.int .u64 8317987319222330741, .int .u64 7237128888997146477, .int .u64 7816392313619706465, .int .u64 8387220255154660723] 60)).alloc (.cells #[u64 (S4.start k0 k1).a, u64 (S4.start k0 k1).b, u64 (S4.start k0 k1).c, u64 (S4.start k0 k1).d] 60) := ⟨_, rfl⟩
  rw [← hwo]
  have hk0 : Blk wo (w.heap.size + 1) 60 (S4.start k0 k1).cells := by rw [hwo]; exact Blk.new2 _ _ _ _
  have hb0 : Below w.heap.size w wo := by rw [hwo]; exact ((Below.refl _ _).alloc (Nat.le_refl _) _).alloc (by simp) _
  clear hwo
  go_loopw [2] (fun b wr => ∃ (k n c' : Nat) (pk : Option Addr), Hid (n + 8 * k = bs.length) ∧ n ≤ c' ∧ c' ≤ 9223372036854775807 ∧ b = .slice pk n c' ∧ Row8 w pk (bs.drop (8 * k)) ∧ Blk wr (w.heap.size + 1) 60 (S4.words (S4.start k0 k1) bs k).cells ∧ Below w.heap.size w wr)
    (fun b _ => match b with | .slice _ n _ => n | _ => 0)
  case atStart => exact ⟨0, bs.length, c, p, rfl, hc, hm, rfl, hr, hk0, hb0⟩
  case round =>
    obtain ⟨k, n, c', pk, hn, hnc, hcm, rfl, hrow, hblk, hbel⟩ := hrel
    clear hk0 hb0
    by_cases hlt : 8 ≤ n
    · have hlt' : (8 : Int) ≤ (n : Int) := by omega
      obtain ⟨s, hs⟩ : ∃ s, s = S4.words (S4.start k0 k1) bs k := ⟨_, rfl⟩
      rw [← hs] at hblk
      have hlen2 : ((bs.drop (8 * k)).take 8).length = 8 := by have := hn.out; simp; omega
      have HS := Lib.hid hs
      have HL := Lib.hid hlen2
      clear hs hlen2
      obtain ⟨a, b, d, e⟩ := s
      obtain ⟨T, f, hf, hsurj⟩ := worlds_below wr
      obtain ⟨t0, h0⟩ := hsurj wr.drew (Below.refl _ _).drew
      have hne : Nonempty T := ⟨t0⟩
      have hcell : ∀ t i, (f t).cell? ⟨w.heap.size + 1, i, none⟩ = #[u64 a, u64 b, u64 d, u64 e][i]? := fun t i => (hblk.below (hf t) hblk.lt).cell i
      have H0 := Lib.hid h0
      clear h0
      go_wp2
      refine quiet_tail_in f t0 H0.out 5 (by kernel_rfl) (by kernel_rfl) ?_
      simp only [List.take_succ_cons, List.take_zero, List.drop_succ_cons, List.drop_zero]
      repeat (go_big_quiet_step (first
        | exact (word_len 8 pk _ _ (f _) ((hrow.take 8).below (hbel.trans ((hf _).mono hbel.size)) (Nat.le_refl _)) HL.out).mono fun _ w2 ⟨he, hb⟩ => ⟨he, hsurj w2 ((hf _).trans (hb.mono (hf _).size))⟩
        | exact (take_cells _ _ (f _) a b d e rfl).mono fun _ w2 ⟨he, hb⟩ => ⟨he, hsurj w2 ((hf _).trans (hb.mono (hf _).size))⟩))
      refine wpQuiet_nil ?_
      rintro _ ⟨t, rfl⟩
      have hb2 := hf t
      have hk2 : Blk (f t) (w.heap.size + 1) 60 #[u64 a, u64 b, u64 d, u64 e] := hblk.below (hf t) hblk.lt
      generalize f t = w2 at *
      clear hcell hsurj hf H0 hne
      have hc2 := hk2.cell
      have hf2 := hk2.frozen
      have hdl : (bs.drop (8 * k)).length = n := by have := hn.out; simp; omega
      have hrow2 := hrow.drop (k := 8) (c := c') (by omega)
      rw [List.drop_drop] at hrow2
      have hb3 := hbel.trans (hb2.mono hbel.size)
      have hne : bs.drop (8 * k) ≠ [] := fun e => by rw [e] at hdl; simp at hdl; omega
      obtain ⟨bb, of, rfl, hbl, _⟩ := hrow hne
      have HK := Lib.hid hk2
      have HD := Lib.hid hdl
      clear hk2 hblk hdl hne
      by_cases h8 : c' = 8
      all_goals
        first | rw [if_pos h8] at hrow2 | rw [if_neg h8] at hrow2
        go_wp2
        go_roundw
        case rel =>
          refine ⟨k + 1, n - 8, c' - 8, _, ?_, by omega, by omega, ?_, hrow2, ?_, ?_⟩
          · have := hn.out; show _ = _; omega
          · first | rfl | (subst h8; rfl) | simp [Addr.add_lit]
          · have := (((HK.out.set 0 (u64 ((S4.mk a b d e).take (wordTo ((bs.drop (8 * k)).take 8) 8)).a)).set 1 (u64 ((S4.mk a b d e).take (wordTo ((bs.drop (8 * k)).take 8) 8)).b)).set 2 (u64 ((S4.mk a b d e).take (wordTo ((bs.drop (8 * k)).take 8) 8)).c)).set 3 (u64 ((S4.mk a b d e).take (wordTo ((bs.drop (8 * k)).take 8) 8)).d)
            rw [words_succ, ← HS.out]
            exact this
          · exact (((hb3.setCell (by simp) _).setCell (by simp) _).setCell (by simp) _).setCell (by simp) _
        case measure => simp; omega
    · have hlt' : (n : Int) < 8 := by omega
      have hdl : (bs.drop (8 * k)).length = n := by have := hn.out; simp; omega
      have hkd : k = bs.length / 8 := by have := hn.out; omega
      obtain ⟨s, hs⟩ : ∃ s, s = S4.words (S4.start k0 k1) bs k := ⟨_, rfl⟩
      rw [← hs] at hblk
      have HS := Lib.hid hs
      have HL := Lib.hid hdl
      have HKD := Lib.hid hkd
      clear hs hdl hkd
      obtain ⟨a, b, d, e⟩ := s
      obtain ⟨T, f, hf, hsurj⟩ := worlds_below wr
      obtain ⟨t0, h0⟩ := hsurj wr.drew (Below.refl _ _).drew
      have hne : Nonempty T := ⟨t0⟩
      have hcell : ∀ t i, (f t).cell? ⟨w.heap.size + 1, i, none⟩ = #[u64 a, u64 b, u64 d, u64 e][i]? := fun t i => (hblk.below (hf t) hblk.lt).cell i
      have H0 := Lib.hid h0
      clear h0
      go_wp2
      refine quiet_tail_in f t0 H0.out 6 (by kernel_rfl) (by kernel_rfl) ?_
      simp only [List.take_succ_cons, List.take_zero, List.drop_succ_cons, List.drop_zero]
      repeat (go_big_quiet_step (first
        | exact (word_len n pk _ _ (f _) (hrow.below (hbel.trans ((hf _).mono hbel.size)) (Nat.le_refl _)) HL.out).mono fun _ w2 ⟨he, hb⟩ => ⟨he, hsurj w2 ((hf _).trans (hb.mono (hf _).size))⟩
        | exact (take_cells _ _ (f _) a b d e rfl).mono fun _ w2 ⟨he, hb⟩ => ⟨he, hsurj w2 ((hf _).trans (hb.mono (hf _).size))⟩))
      refine wpQuiet_nil ?_
      rintro _ ⟨t, rfl⟩
      have hb2 := hf t
      have hk2 : Blk (f t) (w.heap.size + 1) 60 #[u64 a, u64 b, u64 d, u64 e] := hblk.below (hf t) hblk.lt
      generalize f t = w2 at *
      clear hcell hsurj hf H0 hne
      have hc2 := hk2.cell
      have hf2 := hk2.frozen
      have hb3 := hbel.trans (hb2.mono hbel.size)
      have HK := Lib.hid hk2
      clear hk2 hblk
      obtain ⟨s3, hs3⟩ : ∃ s3, s3 = (S4.mk a b d e).take ((BitVec.ofNat 64 bs.length <<< 56) ||| wordTo (bs.drop (8 * k)) 8) := ⟨_, rfl⟩
      rw [← hs3]
      have HS3 := Lib.hid hs3
      clear hs3
      obtain ⟨a3, b3, d3, e3⟩ := s3
      have hx : bits .xor .u64 (iv64 d3) 255 = iv64 (d3 ^^^ 255#64) := by
        rw [show (255 : Int) = iv64 255#64 from by simp [iv64], xor64]
      go_wp2
      obtain ⟨w4, hw4⟩ : ∃ w4 : World, w4 = ((((w2.setCell ⟨w.heap.size + 1, 0, none⟩ (u64 a3)).setCell ⟨w.heap.size + 1, 1, none⟩ (u64 b3)).setCell ⟨w.heap.size + 1, 2, none⟩ (u64 d3)).setCell ⟨w.heap.size + 1, 3, none⟩ (u64 e3)).setCell ⟨w.heap.size + 1, 2, none⟩ (u64 (d3 ^^^ 255#64)) := ⟨_, rfl⟩
      rw [← hw4]
      have hk4 : Blk w4 (w.heap.size + 1) 60 (S4.mk a3 b3 (d3 ^^^ 255#64) e3).cells := by
        rw [hw4]; exact ((((HK.out.set 0 (u64 a3)).set 1 (u64 b3)).set 2 (u64 d3)).set 3 (u64 e3)).set 2 (u64 (d3 ^^^ 255#64))
      have hb4 : Below w.heap.size w w4 := by
        rw [hw4]; exact ((((hb3.setCell (by simp) _).setCell (by simp) _).setCell (by simp) _).setCell (by simp) _).setCell (by simp) _
      clear hw4 hc2 hf2 hb3 hb2 hbel HK hx
      go_loopw [52] (fun i wr => ∃ j : Nat, j ≤ 4 ∧ i = .int .i64 j ∧ Blk wr (w.heap.size + 1) 60 (S4.rounds ⟨a3, b3, d3 ^^^ 255#64, e3⟩ j).cells ∧ Below w.heap.size w wr) (fun i _ => 4 - (intOf i).toNat)
      case atStart => exact ⟨0, by omega, rfl, hk4, hb4⟩
      case round =>
        obtain ⟨j, hj, rfl, hkj, hbj⟩ := hrel
        clear hk4 hb4
        obtain ⟨r, hr4⟩ : ∃ r, r = S4.rounds ⟨a3, b3, d3 ^^^ 255#64, e3⟩ j := ⟨_, rfl⟩
        rw [← hr4] at hkj
        have HR := Lib.hid hr4
        clear hr4
        obtain ⟨ra, rb, rc, rd⟩ := r
        have hcj : ∀ i, wr.cell? ⟨w.heap.size + 1, i, none⟩ = #[u64 ra, u64 rb, u64 rc, u64 rd][i]? := hkj.cell
        by_cases hlt4 : j < 4
        · go_wp2_with (go_at_call 31
                       refine (round_cells ⟨ra, rb, rc, rd⟩ _ _ _ _ _ rfl).mono ?_
                       rintro e w5 ⟨rfl, hb5⟩
                       have hk5 : Blk w5 (w.heap.size + 1) 60 #[u64 ra, u64 rb, u64 rc, u64 rd] := hkj.below hb5 hkj.lt
                       have hc5 := hk5.cell
                       have hf5 := hk5.frozen
                       have HK5 := Lib.hid hk5
                       clear hk5)
          go_roundw
          case rel =>
            refine ⟨j + 1, by omega, by go_num, ?_, ?_⟩
            · show Blk _ _ _ (S4.round (S4.rounds ⟨a3, b3, d3 ^^^ 255#64, e3⟩ j)).cells
              rw [← HR.out]
              exact (((HK5.out.set 0 _).set 1 _).set 2 _).set 3 _
            · exact ((((hbj.trans (hb5.mono hbj.size)).setCell (by simp) _).setCell (by simp) _).setCell (by simp) _).setCell (by simp) _
          case measure => simp [intOf]; omega
        · obtain rfl : j = 4 := by omega
          go_wp2
          go_ret
          refine ⟨ret_int ?_, hbj⟩
          unfold sipSum
          rw [← HKD.out, ← HS.out, ← HS3.out]
          show _ = iv64 (S4.ended _)
          unfold S4.ended
          simp only [← HR.out]
end Go.Proofs.Ytlopmnepodbefaa
