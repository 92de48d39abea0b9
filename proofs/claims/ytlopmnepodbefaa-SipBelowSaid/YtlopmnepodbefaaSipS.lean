/- SipHash, the reference: the sum; it is the program's. -/
import Derived.Test.YtlopmnepodbefaaSipR
namespace Go.Proofs.Ytlopmnepodbefaa
open Go.RowKit
attribute [local go_sem] add64 xor64 or64 shlp64 shrp64 ext8_64 alloc_drewN setCell_drewN

/-- the word that is being gathered behind i bytes -/
def gath (bs : List (BitVec 8)) (i : Nat) : BitVec 64 := wordTo (bs.drop (8 * (i / 8))) (i % 8)
theorem getD_drop (bs : List (BitVec 8)) (k j : Nat) : (bs.drop k).getD j 0 = bs.getD (k + j) 0 := by
  simp [List.getD, List.getElem?_drop]
theorem wordTo_take (bs : List (BitVec 8)) (n k : Nat) (h : k ≤ n) : wordTo (bs.take n) k = wordTo bs k := by
  induction k with
  | zero => rfl
  | succ k ih =>
    rw [wordTo_succ, wordTo_succ, ih (by omega)]
    congr 3
    simp [List.getD, show k < n by omega]
theorem wordTo_more (bs : List (BitVec 8)) (k j : Nat) (h : bs.length ≤ k) : wordTo bs (k + j) = wordTo bs k := by
  induction j with
  | zero => rfl
  | succ j ih =>
    rw [← Nat.add_assoc, wordTo_succ, ih]
    have : bs.getD (k + j) 0 = 0 := by simp [List.getD, List.getElem?_eq_none (show bs.length ≤ k + j by omega)]
    rw [this]; simp
/-- a byte more, the word not full -/
theorem gath_in (bs : List (BitVec 8)) (i : Nat) (h : i % 8 ≠ 7) : gath bs (i + 1) = gath bs i ||| ((bs.getD i 0).setWidth 64 <<< (8 * (i % 8))) := by
  unfold gath
  rw [show (i + 1) / 8 = i / 8 by omega, show (i + 1) % 8 = i % 8 + 1 by omega, wordTo_succ, getD_drop, show 8 * (i / 8) + i % 8 = i by omega]
/-- a byte more, the word full -/
theorem gath_full (bs : List (BitVec 8)) (i : Nat) (h : i % 8 = 7) : wordTo ((bs.drop (8 * (i / 8))).take 8) 8 = gath bs i ||| ((bs.getD i 0).setWidth 64 <<< (8 * (i % 8))) ∧ gath bs (i + 1) = 0#64 ∧ (i + 1) / 8 = i / 8 + 1 := by
  refine ⟨?_, ?_, by omega⟩
  · rw [wordTo_take _ _ _ (by omega)]
    unfold gath
    have := wordTo_succ (bs.drop (8 * (i / 8))) 7
    rw [getD_drop, show 8 * (i / 8) + 7 = i by omega] at this
    rw [h]; exact this
  · unfold gath
    rw [show (i + 1) % 8 = 0 by omega]; rfl
theorem gath_end (bs : List (BitVec 8)) : gath bs bs.length = wordTo (bs.drop (8 * (bs.length / 8))) 8 := by
  unfold gath
  have := wordTo_more (bs.drop (8 * (bs.length / 8))) (bs.length % 8) (8 - bs.length % 8) (by simp; omega)
  rw [show bs.length % 8 + (8 - bs.length % 8) = 8 by omega] at this
  exact this.symm
theorem top_byte (n : Nat) : (BitVec.ofNat 64 (n % 256)) <<< 56 = (BitVec.ofNat 64 n) <<< 56 := by
  apply BitVec.eq_of_toNat_eq
  simp only [BitVec.toNat_shiftLeft, BitVec.toNat_ofNat, Nat.shiftLeft_eq]
  omega

theorem refTake_cells (s : S4) (m : BitVec 64) (g : Nat) (w : World) (a b c d : BitVec 64) (hk : Blk w g 66 #[u64 a, u64 b, u64 c, u64 d]) (h : s = ⟨a, b, c, d⟩) (B : Nat) (w0 : World) (hb : Below B w0 w) (hB : B ≤ g) :
    Calls Try.prog 32 #[.pointer (some ⟨g, 0, none⟩), u64 m] w fun e w' => e = .returned (.tuple #[]) ∧ Blk w' g 66 (s.take m).cells ∧ Below B w0 w' := by
  subst h; exact refTake_any ⟨a, b, c, d⟩ m g w hk B w0 hb hB

set_option maxRecDepth 100000 in
set_option maxHeartbeats 2000000 in
theorem refSum_any (k0 k1 : BitVec 64) (p : Option Addr) (c : Nat) (bs : List (BitVec 8)) (w : World) (hr : Row8 w p bs) (hc : bs.length ≤ c) (hm : c ≤ maxLen) :
    Calls Try.prog 23 #[u64 k0, u64 k1, .slice p bs.length c] w fun e w' => e = .returned (u64 (sipSum k0 k1 bs)) ∧ Below w.heap.size w w' := by
  unfold maxLen at hm
  have x0 : bits .xor .u64 (iv64 k0) 8317987319222330741 = iv64 (S4.start k0 k1).a := by
    rw [show (8317987319222330741 : Int) = iv64 8317987319222330741#64 from by simp [iv64], xor64]; rfl
  have x1 : bits .xor .u64 (iv64 k1) 7237128888997146477 = iv64 (S4.start k0 k1).b := by
    rw [show (7237128888997146477 : Int) = iv64 7237128888997146477#64 from by simp [iv64], xor64]; rfl
  have x2 : bits .xor .u64 (iv64 k0) 7816392313619706465 = iv64 (S4.start k0 k1).c := by
    rw [show (7816392313619706465 : Int) = iv64 7816392313619706465#64 from by simp [iv64], xor64]; rfl
  have x3 : bits .xor .u64 (iv64 k1) 8387220255154660723 = iv64 (S4.start k0 k1).d := by
    rw [show (8387220255154660723 : Int) = iv64 8387220255154660723#64 from by simp [iv64], xor64]; rfl
  have hlen : (bs.length : Int) ≤ 9223372036854775807 := by omega
  go_enter Try.func23, Try.ntmps23
  go_wp2
  clear x0 x1 x2 x3
  refine wp_abst (fun w' => Blk w' w.heap.size 66 (S4.start k0 k1).cells ∧ Below w.heap.size w w') ⟨Blk.new _ _ _, (Below.refl _ _).alloc (Nat.le_refl _) _⟩ ?_
  rintro wo ⟨hk0, hb0⟩
  go_loopw [8, 23] (fun m i wr => ∃ k : Nat, k ≤ bs.length ∧ i = .int .i64 k ∧ m = u64 (gath bs k) ∧ Blk wr w.heap.size 66 (S4.words (S4.start k0 k1) bs (k / 8)).cells ∧ Below w.heap.size w wr)
    (fun _ i _ => bs.length - (intOf i).toNat)
  case atStart => exact ⟨0, by omega, rfl, rfl, hk0, hb0⟩
  case round =>
    obtain ⟨k, hk, rfl, rfl, hblk, hbel⟩ := hrel
    clear hk0 hb0
    by_cases hlt : k < bs.length
    · obtain ⟨bb, of, rfl, hbl, hcell⟩ := hr (fun e => by rw [e] at hlt; simp at hlt)
      obtain ⟨x, hxd⟩ : ∃ x, x = bs.getD k 0 := ⟨_, rfl⟩
      have hx : wr.cell? ⟨bb, of + k, none⟩ = some (u8 x) := (hbel.cell (p := ⟨bb, of + k, none⟩) hbl).trans (hcell k _ (by rw [hxd]; simp [List.getD, hlt]))
      have HX := Lib.hid hxd
      clear hcell hxd
      have h8a : (0 : Int) ≤ (k : Int) % 8 := by omega
      have h8b : (k : Int) % 8 < 8 := by omega
      by_cases h7 : k % 8 = 7
      · have h7b : ((k : Int) % 8 == 7) = true := by simp; omega
        have hgf := gath_full bs k h7
        rw [← HX.out, h7] at hgf
        have HG := Lib.hid hgf
        clear hgf
        obtain ⟨s, hs⟩ : ∃ s, s = S4.words (S4.start k0 k1) bs (k / 8) := ⟨_, rfl⟩
        rw [← hs] at hblk
        have HS := Lib.hid hs
        clear hs
        go_wp2_with (go_at_call 32
                     refine (refTake_any s _ w.heap.size _ hblk w.heap.size w hbel (Nat.le_refl _)).mono ?_
                     rintro e w5 ⟨rfl, hk5, hb5⟩)
        go_roundw
        case rel =>
          refine ⟨k + 1, by omega, by go_num, ?_, ?_, hb5⟩
          · rw [HG.out.2.1]; rfl
          · rw [HG.out.2.2, words_succ, ← HS.out, HG.out.1]; exact hk5
        case measure => simp [intOf]; omega
      · have h7b : ((k : Int) % 8 == 7) = false := by simp; omega
        have hgi := gath_in bs k h7
        rw [← HX.out] at hgi
        have HG := Lib.hid hgi
        clear hgi
        go_wp2
        go_roundw
        case rel =>
          refine ⟨k + 1, by omega, by go_num, ?_, ?_, hbel⟩
          · rw [HG.out]
          · rw [show (k + 1) / 8 = k / 8 by omega]; exact hblk
        case measure => simp [intOf]; omega
    · obtain rfl : k = bs.length := by omega
      clear hlt
      have hge : bits .or .u64 (iv64 (gath bs bs.length)) (((bs.length : Int) % 256) * 72057594037927936) = iv64 ((BitVec.ofNat 64 bs.length <<< 56) ||| wordTo (bs.drop (8 * (bs.length / 8))) 8) := by
        rw [show ((bs.length : Int) % 256) * 72057594037927936 = IntKind.u64.wrap (((bs.length % 256 : Nat) : Int) * 72057594037927936) by rw [wrapU64]; omega, iv64_lit (bs.length % 256) (by omega), shl64 _ 56 _ (by decide), or64, top_byte, gath_end, BitVec.or_comm]
      obtain ⟨s, hs⟩ : ∃ s, s = (S4.words (S4.start k0 k1) bs (bs.length / 8)).take ((BitVec.ofNat 64 bs.length <<< 56) ||| wordTo (bs.drop (8 * (bs.length / 8))) 8) := ⟨_, rfl⟩
      have HS := Lib.hid hs
      clear hs
      go_wp2_with fail
      refine (refTake_any _ _ w.heap.size _ hblk w.heap.size w hbel (Nat.le_refl _)).mono ?_
      rintro e w5 ⟨rfl, hk5, hb5⟩
      rw [← HS.out] at hk5
      clear hblk hbel hge
      obtain ⟨a3, b3, d3, e3⟩ := s
      have hc5 : ∀ i, w5.cell? ⟨w.heap.size, i, none⟩ = #[u64 a3, u64 b3, u64 d3, u64 e3][i]? := hk5.cell
      have hf5 := hk5.frozen
      have HK5 := Lib.hid hk5
      clear hk5
      have hx : bits .xor .u64 (iv64 d3) 255 = iv64 (d3 ^^^ 255#64) := by
        rw [show (255 : Int) = iv64 255#64 from by simp [iv64], xor64]
      go_wp2_with fail
      clear hx hc5 hf5
      refine wp_abst (fun w' => Blk w' w.heap.size 66 (S4.mk a3 b3 (d3 ^^^ 255#64) e3).cells ∧ Below w.heap.size w w') ⟨HK5.out.set 2 _, hb5.setCell (Nat.le_refl _) _⟩ ?_
      rintro w6 ⟨hk6, hb6⟩
      go_loopw [60] (fun i wr => ∃ j : Nat, j ≤ 4 ∧ i = .int .i64 j ∧ Blk wr w.heap.size 66 (S4.rounds ⟨a3, b3, d3 ^^^ 255#64, e3⟩ j).cells ∧ Below w.heap.size w wr) (fun i _ => 4 - (intOf i).toNat)
      case atStart => exact ⟨0, by omega, rfl, hk6, hb6⟩
      case round =>
        obtain ⟨j, hj, rfl, hkj, hbj⟩ := hrel
        clear hk6 hb6
        by_cases hlt4 : j < 4
        · go_wp2_with (go_at_call 33
                       refine (refRound_any _ w.heap.size _ hkj w.heap.size w hbj (Nat.le_refl _)).mono ?_
                       rintro e w7 ⟨rfl, hk7, hb7⟩)
          go_roundw
          case rel => exact ⟨j + 1, by omega, by go_num, hk7, hb7⟩
          case measure => simp [intOf]; omega
        · obtain rfl : j = 4 := by omega
          obtain ⟨r, hr4⟩ : ∃ r, r = S4.rounds ⟨a3, b3, d3 ^^^ 255#64, e3⟩ 4 := ⟨_, rfl⟩
          rw [← hr4] at hkj
          have HR := Lib.hid hr4
          clear hr4
          obtain ⟨ra, rb, rc, rd⟩ := r
          have hcj : ∀ i, wr.cell? ⟨w.heap.size, i, none⟩ = #[.int .u64 (iv64 ra), .int .u64 (iv64 rb), .int .u64 (iv64 rc), .int .u64 (iv64 rd)][i]? := hkj.cell
          go_wp2
          go_quiet (fail)
          go_wp2
          go_ret
          refine ⟨ret_int ?_, below_drewN hbj _⟩
          unfold sipSum
          rw [← HS.out]
          show _ = iv64 (S4.ended _)
          unfold S4.ended
          simp only [← HR.out]
end Go.Proofs.Ytlopmnepodbefaa
