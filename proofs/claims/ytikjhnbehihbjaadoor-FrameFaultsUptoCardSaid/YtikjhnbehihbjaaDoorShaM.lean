/- (*sha.Hasher).Sum: the walk: it is the plain sha of all that came. -/
import Derived.Test.YtikjhnbehihbjaaDoorShaL
namespace Go.Proofs.YtikjhnbehihbjaaDoor
open Go.RowKit

/-- a hasher that no call made -/
def hsZ : List Value := [.bool false] ++ (List.replicate 8 (u32 0#32) ++ (List.replicate 64 (u8 0#8) ++ [.int .u64 0]))
theorem zeroHs : ∀ w, (zeroValue 99).run Tryd.prog w = .ok (.agg hsZ.toArray) w := zero_of2 (by kernel_rfl)
theorem zeroTl : ∀ w, (zeroValue 101).run Tryd.prog w = .ok (.agg ((noughts 72).map u8).toArray) w := zero_of2 (by kernel_rfl)
theorem built_tl : Tryd.prog.built 101 [(0, .int .u8 128)] = some ((([128#8] ++ noughts 71).map u8).toArray) := by kernel_rfl
theorem mapu8_one (l : List (BitVec 8)) : (l.map u8).toArray.all (·.oneCell') = true := by
  rw [List.all_toArray, List.all_eq_true]; exact map_u8_one l
theorem tl_info : (Tryd.prog.info? 101).map (·.size) = some 72 := by kernel_rfl

theorem hsC_words (s : S8) (part : List (BitVec 8)) (L : Nat) (j : Nat) (v : Value) (h : s.cells[j]? = some v) : (hsC s part L).toArray[1 + j]? = some v := by
  have hj : j < s.cells.length := (List.getElem?_eq_some_iff.1 h).1
  rw [List.getElem?_toArray, hsC, List.getElem?_append_right (by simp), show 1 + j - [Value.bool true].length = j by simp]
  show (s.cells ++ _)[j]? = _
  rw [List.getElem?_append_left hj]
  exact h
/-- four bytes in a block of their own -/
theorem row_new4 (w : World) (t : TypeId) (x0 x1 x2 x3 : BitVec 8) : Row8 (w.alloc (.cells #[.int .u8 (iv8 x0), .int .u8 (iv8 x1), .int .u8 (iv8 x2), .int .u8 (iv8 x3)] t)) (some ⟨w.heap.size, 0, none⟩) [x0, x1, x2, x3] :=
  hCells_row (l := [x0, x1, x2, x3]) (Blk.new w t _)

set_option maxRecDepth 100000 in
set_option maxHeartbeats 4000000 in
theorem hsum_any (H : Nat) (all : List (BitVec 8)) (w : World) (hK : Laid w) (hbig : all.length ≤ 1152921504606846976) (hh : Hasher w H all) :
    Calls Tryd.prog 44 #[.pointer (some ⟨H, 0, none⟩)] w fun e w' => e = .returned (.agg (hCells (sha all)).toArray) ∧ Below w.heap.size w w' := by
  have hHlt := hh.lt
  obtain ⟨part, hp, ht, hB⟩ := hh
  obtain ⟨L, hL⟩ : ∃ L, L = all.length := ⟨_, rfl⟩
  obtain ⟨S, hS⟩ : ∃ S, S = blocks all (all.length / 64) := ⟨_, rfl⟩
  rw [← hS, ← hL] at hB
  rw [← hL] at hbig
  have c0 : w.cell? ⟨H, 0, none⟩ = some (.bool true) := by rw [hB.cell]; exact hsC_made _ _ _
  have HB := Lib.hid hB
  have HP := Lib.hid hp
  have HT := Lib.hid ht
  have HS := Lib.hid hS
  have HL := Lib.hid hL
  have HK := Lib.hid hK
  clear hB hp ht hS hL hK
  have hz := zero32
  obtain ⟨Y, hY⟩ : ∃ Y, Y = ((noughts 32).map u8).toArray := ⟨_, rfl⟩
  rw [← hY] at hz
  have HY := Lib.hid hY
  clear hY
  go_enter Tryd.func44, Tryd.ntmps44
  go_upto_region 3 with fail
  refine wp_abst (fun w' => Hid (Blk w' w.heap.size 59 Y) ∧ Below w.heap.size w w' ∧ w.heap.size < w'.heap.size) ⟨Lib.hid (Blk.new w _ _), (Below.refl _ _).alloc (Nat.le_refl _) _, by simp⟩ ?_
  rintro w1 ⟨hy1, hb1, hz1⟩
  have hz := zeroHs
  obtain ⟨Z, hZ⟩ : ∃ Z, Z = hsZ.toArray := ⟨_, rfl⟩
  rw [← hZ] at hz
  have HZ := Lib.hid hZ
  have hrg : w1.rangeAt H 0 (hsC S part L) := (HB.out.below hb1 hHlt).rangeAt 0 _ (fun j v hv => by rw [Nat.zero_add, List.getElem?_toArray]; exact hv)
  clear hZ c0
  go_upto_region 4 with (first
    | (with_reducible refine wpList_load_mid (op := ⟨some 22, _, _, _, _, _⟩) ?_ 99 (.tmp 21) ?_ H 0 ?_ (hsC S part L) _ hrg Tryd.underlying99 ?_ ?_ ?_
       · rfl
       · rfl
       · rfl
       · rfl
       · exact hsC_infoL _ _ _ HP.out)
    | (with_reducible refine wp_store_blk (o := ⟨none, _, _, _, _, _⟩) ?_ 99 (.tmp 3) (.tmp 22) ?_ w1.heap.size 99 Z (hsC S part L).toArray ?_ ?_ (Blk.new w1 _ _) ?_ ?_ ?_ w.heap.size w ?_ ?_ ?_
       · rfl
       · rfl
       · rfl
       · rfl
       · exact hsC_info _ _ _ HP.out
       · rw [HZ.out, List.size_toArray, List.size_toArray, hsC_len _ _ _ HP.out]; rfl
       · exact hsC_one _ _ _
       · exact hb1.alloc hb1.size _
       · exact hb1.size
       intro w2 hB2 hb2 hg2 hs2))
  obtain ⟨C, hC⟩ : ∃ C, C = w1.heap.size := ⟨_, rfl⟩
  rw [← hC] at hB2 hg2 hz1 ⊢
  have hCs : C < w2.heap.size := by rw [hs2.out, hC]; simp
  have hy2 : Hid (Blk w2 w.heap.size 59 Y) := Lib.hid ((hy1.out.alloc _).kept hg2.out (by omega))
  clear hC hy1 hb1 hrg hz hs2 hg2
  obtain ⟨at0, hat⟩ : ∃ x, x = L % 64 := ⟨_, rfl⟩
  obtain ⟨z, hzz⟩ : ∃ x, x = padZ L := ⟨_, rfl⟩
  have hz63 : z ≤ 63 := by rw [hzz]; exact padZ_le L
  have a0 : (0 : Int) ≤ (at0 : Int) := by omega
  have a1 : (at0 : Int) ≤ 63 := by omega
  have a2 : (0 : Int) ≤ (L : Int) := by omega
  have a3 : (L : Int) ≤ 1152921504606846976 := by omega
  have a4 : (L : Int) % 64 = (at0 : Int) := by omega
  have a5 : (119 - (at0 : Int)) % 64 = (z : Int) := by rw [hzz]; unfold padZ; omega
  have a6 : (0 : Int) ≤ (z : Int) := by omega
  have a7 : (z : Int) ≤ 63 := by omega
  have HZZ := Lib.hid hzz
  clear hat hzz
  have cn : w2.cell? ⟨H, 73, none⟩ = some (.int .u64 (L : Int)) := by rw [(HB.out.below hb2 hHlt).cell]; exact hsC_n _ _ _ HP.out
  have hz := zeroTl
  obtain ⟨TZ, hTZ⟩ : ∃ x, x = ((noughts 72).map u8).toArray := ⟨_, rfl⟩
  obtain ⟨T0, hT0⟩ : ∃ x, x = (([128#8] ++ noughts 71).map u8).toArray := ⟨_, rfl⟩
  rw [← hTZ] at hz
  have hbt := built_tl
  rw [← hT0] at hbt
  have HBT := Lib.hid hbt
  have HTZ := Lib.hid hTZ
  have HT0 := Lib.hid hT0
  clear hTZ hT0 hbt
  go_upto_region 5 with (first
    | (with_reducible refine wp_build (o := ⟨some 23, _, _, _, _, _⟩) ?_ 101 #[(0, .const (.int .u8 128))] ?_ [(0, .int .u8 128)] ?_ T0 HBT.out ?_
       · rfl
       · rfl
       · rfl)
    | (with_reducible refine wp_store_blk (o := ⟨none, _, _, _, _, _⟩) ?_ 101 (.tmp 4) (.tmp 23) ?_ w2.heap.size 101 TZ T0 ?_ ?_ (Blk.new w2 _ _) ?_ ?_ ?_ w.heap.size w ?_ ?_ ?_
       · rfl
       · rfl
       · rfl
       · rfl
       · rw [HT0.out]; exact tl_info
       · rw [HT0.out, HTZ.out]; rfl
       · rw [HT0.out]; exact mapu8_one _
       · exact hb2.alloc hb2.size _
       · exact hb2.size
       intro w3 hT3 hb3 hg3 hs3))
  obtain ⟨D, hD⟩ : ∃ D, D = w2.heap.size := ⟨_, rfl⟩
  rw [← hD] at hT3 hg3 hCs ⊢
  have hDs : D < w3.heap.size := by rw [hs3.out, hD]; simp
  have hy3 : Hid (Blk w3 w.heap.size 59 Y) := Lib.hid ((hy2.out.alloc _).kept hg3.out (by omega))
  have hB3 : Hid (Blk w3 C 99 (hsC S part L).toArray) := Lib.hid ((hB2.out.alloc _).kept hg3.out (by omega))
  have cn3 : w3.cell? ⟨H, 73, none⟩ = some (.int .u64 (L : Int)) := by rw [(HB.out.below hb3 hHlt).cell]; exact hsC_n _ _ _ HP.out
  clear hD hy2 hB2 hb2 hz hs3 hg3 cn
  go_wp2_with fail
  obtain ⟨N, hN⟩ : ∃ x, x = BitVec.ofNat 64 (8 * L) := ⟨_, rfl⟩
  have hiv : iv64 N = (L : Int) * 8 := by
    rw [hN]; unfold iv64; rw [BitVec.toNat_ofNat, Nat.mod_eq_of_lt (by omega)]; omega
  have HIV := Lib.hid hiv
  have HN := Lib.hid hN
  have hT4 : Hid (Blk w3 D 101 ((tlC N z 0).map u8).toArray) := Lib.hid (by rw [tlC_zero N z (by omega), ← HT0.out]; exact hT3.out)
  clear hiv hN hT3 a4 a5 cn3
  go_loopw [33] (fun i wr => ∃ k : Nat, k ≤ 8 ∧ i = .int .i64 k ∧ Hid (Blk wr D 101 ((tlC N z k).map u8).toArray) ∧ Hid (Blk wr w.heap.size 59 Y) ∧ Hid (Blk wr C 99 (hsC S part L).toArray) ∧ Below w.heap.size w wr) (fun i _ => 8 - (intOf i).toNat)
  case atStart => exact ⟨0, by omega, rfl, hT4, hy3, hB3, hb3⟩
  case round =>
    obtain ⟨k, hk, rfl, hT5, hy5, hB5, hb5⟩ := hrel
    clear hT4 hy3 hB3 hb3
    by_cases hk8 : k < 8
    · have hlt : (k : Int) < 8 := by omega
      have cn5 : wr.cell? ⟨H, 73, none⟩ = some (.int .u64 (L : Int)) := by rw [(HB.out.below hb5 hHlt).cell]; exact hsC_n _ _ _ HP.out
      have fr5 := hT5.out.frozen (z + 1 + k)
      have ch5 : wr.cell? ⟨D, z + 1 + k, none⟩ = some (.int .u8 (iv8 0#8)) := by rw [hT5.out.cell]; exact tlC_here N z k (by omega)
      have b1 : (0 : Int) ≤ (z : Int) + 1 + (k : Int) := by omega
      have b2 : (z : Int) + 1 + (k : Int) < 72 := by omega
      have b3 : ((z : Int) + 1 + (k : Int)).toNat = z + 1 + k := by omega
      have b4 : (0 : Int) ≤ 8 * (k : Int) := by omega
      have b5 : 8 * (k : Int) ≤ 56 := by omega
      have b6 : (0 : Int) ≤ 56 - 8 * (k : Int) := by omega
      have hsh : IntKind.u8.wrap ((L : Int) * 8 / 2 ^ (56 - 8 * k)) = iv8 (beN N k) := by rw [← HIV.out, shrp64, cut64_8]; rfl
      go_wp2_with fail
      refine ⟨⟨k + 1, by omega, by go_num, Lib.hid ?_, Lib.hid (hy5.out.far (by show _ ≠ D; omega) _), Lib.hid (hB5.out.far (by show _ ≠ D; omega) _), hb5.setCell (by show _ ≤ D; omega) _⟩, by simp [intOf]; omega⟩
      rw [← tlC_set N z k (by omega)]
      exact hT5.out.set _ _
    · have hk8' : k = 8 := by omega
      subst hk8'
      have hge : ¬ ((8 : Nat) : Int) < 8 := by omega
      have b1 : (0 : Int) ≤ (z : Int) + 1 + 8 := by omega
      have b2 : (z : Int) + 1 + 8 ≤ 72 := by omega
      have b3 : ((z : Int) + 1 + 8).toNat = z + 9 := by omega
      have hrT : Row8 wr (some ⟨D, 0, none⟩) ((tlC N z 8).take (z + 9)) := (hCells_row (l := tlC N z 8) hT5.out).take _
      have hlT : ((tlC N z 8).take (z + 9)).length = z + 9 := by rw [List.length_take, tlC_len _ _ _ (by omega)]; omega
      have HLT := Lib.hid hlT
      have hKr : Laid wr := HK.out.below hb5 HK.out.size
      have hgC : gTop ≤ C := by have := HK.out.size; omega
      have hhr : Hasher wr C all := ⟨part, HP.out, HT.out, by rw [← HL.out, HL.out, ← HS.out, ← HL.out]; exact hB5.out⟩
      have hpad : Hid (all ++ (tlC N z 8).take (z + 9) = pad all) := Lib.hid (by rw [HN.out, HZZ.out, HL.out]; exact pad_tail all)
      clear hlT
      go_wp2_with fail
      refine (write_any C all ((tlC N z 8).take (z + 9)) (some ⟨D, 0, none⟩) (z + 9) 72 _ hKr hgC hrT HLT.out (by omega) (by omega) (by intro _ a ha; injection ha with ha; subst ha; show D ≠ C; omega) (by rw [← HL.out]; omega) hhr).mono ?_
      rintro e w6 ⟨rfl, hh6, hg6⟩
      rw [hpad.out] at hh6
      have hy6 : Hid (Blk w6 w.heap.size 59 Y) := Lib.hid (hy5.out.kept hg6 (by omega))
      have hb6 : Below w.heap.size w w6 := hb5.grown hg6 hb5.size (fun k hk => by injection hk with hk; omega)
      clear hKr hhr hrT hg6 hT5 hy5 hB5 b1 b2 b3
      obtain ⟨part6, hp6, ht6, hB6⟩ := hh6
      obtain ⟨S6, hS6⟩ : ∃ x, x = blocks (pad all) ((pad all).length / 64) := ⟨_, rfl⟩
      have hsha : Hid (S6.hashTo 32 = sha all) := Lib.hid (by rw [hS6]; rfl)
      rw [← hS6] at hB6
      have hrg6 : (w6.alloc (.cells Y 59)).rangeAt C 1 S6.cells := (hB6.alloc _).rangeAt 1 _ (fun j v hv => hsC_words _ _ _ _ _ hv)
      clear hS6 hp6 ht6 hB6
      obtain ⟨CL, hCL⟩ : ∃ x, x = S6.cells := ⟨_, rfl⟩
      rw [← hCL] at hrg6
      have hil : Hid ((Tryd.prog.info? 96).map (·.size) = some CL.length) := Lib.hid (by rw [hCL, S8.cells_len]; kernel_rfl)
      obtain ⟨CS, hCS⟩ : ∃ x, x = CL.toArray := ⟨_, rfl⟩
      have HCS := Lib.hid hCS
      have hsz : CS.size = 8 := by rw [hCS, hCL]; rfl
      have HEL : Hid (∀ q, q < 8 → atA CS q = .int .u32 (iv32 (atS S6 q))) := Lib.hid (fun q hq => by rw [hCS, hCL]; exact atA_cells S6 q hq)
      obtain ⟨ti, hti, hts⟩ : ∃ ti, Tryd.prog.info? 63 = some ti ∧ ti.size = 1 := by
        have : (Tryd.prog.info? 63).map (·.size) = some 1 := by kernel_rfl
        exact Option.map_eq_some_iff.1 this
      have HIX := Lib.hid (run_index_arr (P := Tryd.prog) 96 63 8 .u32 ti Tryd.underlying96 Tryd.underlying63 hti hts)
      have hG := hb6.size
      have hyG := hy6.out.lt
      clear hCL hCS hti hts
      go_wp2_with (with_reducible refine wpList_load_mid (op := ⟨some 56, _, _, _, _, _⟩) ?_ 96 (.tmp 55) ?_ C 1 ?_ CL _ hrg6 Tryd.underlying96 ?_ ?_ ?_
                   · rfl
                   · rfl
                   · rfl
                   · rfl
                   · exact hil.out)
      rw [← HCS.out]
      have hO7 : Hid (Blk (w6.alloc (.cells Y 59)) w6.heap.size 59 (oC S6 0).toArray) := Lib.hid (by rw [oC_zero, ← HY.out]; exact Blk.new w6 _ _)
      have hy7 : Hid (Blk (w6.alloc (.cells Y 59)) w.heap.size 59 Y) := Lib.hid (hy6.out.alloc _)
      have hb7 := hb6.alloc hG (.cells Y 59)
      clear hrg6 hy6 hil
      go_loopw [57] (fun i wr2 => ∃ q : Nat, q ≤ 8 ∧ i = .int .i64 q ∧ Hid (Blk wr2 w6.heap.size 59 (oC S6 q).toArray) ∧ Hid (Blk wr2 w.heap.size 59 Y) ∧ Below w.heap.size w wr2) (fun i _ => 8 - (intOf i).toNat)
      case atStart => exact ⟨0, by omega, rfl, hO7, hy7, hb7⟩
      case round =>
        obtain ⟨q, hq, rfl, hO8, hy8, hb8⟩ := hrel
        clear hO7 hy7 hb7
        have hO8lt := hO8.out.lt
        have hs8 := hb8.size
        by_cases hq8 : q < 8
        · have hlt : (q : Int) < 8 := by omega
          have hix := HIX.out
          have hx := HEL.out q hq8
          go_upto_region 16 with fail
          clear hix hx
          obtain ⟨x, hx⟩ : ∃ x, x = atS S6 q := ⟨_, rfl⟩
          rw [← hx]
          have HX := Lib.hid hx
          clear hx
          have q0 : (0 : Int) ≤ 4 * (q : Int) := by omega
          have q1 : 4 * (q : Int) ≤ 32 := by omega
          have q2 : (4 * (q : Int)).toNat = 4 * q := by omega
          have q3 : ¬ (32 = 4 * q) := by omega
          have r0 := shr32 x 24 16777216 (by rfl)
          have r1 := shr32 x 16 65536 (by rfl)
          have r2 := shr32 x 8 256 (by rfl)
          have t0 := cut32_8 (x >>> 24)
          have t1 := cut32_8 (x >>> 16)
          have t2 := cut32_8 (x >>> 8)
          have t3 := cut32_8 x
          have hO9 := Lib.hid (hO8.out.alloc (.cells #[.int .u8 (iv8 ((x >>> 24).setWidth 8)), .int .u8 (iv8 ((x >>> 16).setWidth 8)), .int .u8 (iv8 ((x >>> 8).setWidth 8)), .int .u8 (iv8 (x.setWidth 8))] 5))
          have hy9 := Lib.hid (hy8.out.alloc (.cells #[.int .u8 (iv8 ((x >>> 24).setWidth 8)), .int .u8 (iv8 ((x >>> 16).setWidth 8)), .int .u8 (iv8 ((x >>> 8).setWidth 8)), .int .u8 (iv8 (x.setWidth 8))] 5))
          have hb9 := hb8.alloc hs8 (.cells #[.int .u8 (iv8 ((x >>> 24).setWidth 8)), .int .u8 (iv8 ((x >>> 16).setWidth 8)), .int .u8 (iv8 ((x >>> 8).setWidth 8)), .int .u8 (iv8 (x.setWidth 8))] 5)
          have hR9 := row_new4 wr 5 ((x >>> 24).setWidth 8) ((x >>> 16).setWidth 8) ((x >>> 8).setWidth 8) (x.setWidth 8)
          have hmn : Hid (4 = min 4 (32 - 4 * q)) := Lib.hid (by omega)
          have hft : 4 * q + 4 ≤ (oC S6 q).length := by rw [oC_len _ _ hq]; omega
          have hsp : Hid (splice (oC S6 q) (4 * q) ((([(x >>> 24).setWidth 8, (x >>> 16).setWidth 8, (x >>> 8).setWidth 8, x.setWidth 8] : List (BitVec 8)).take (32 - 4 * q)).map Go.Proofs.YtikjhnbehihbjaaDoor.u8) = oC S6 (q + 1)) := Lib.hid (by
            rw [List.take_of_length_le (by simp only [List.length_cons, List.length_nil]; omega), HX.out]; exact oC_next S6 q hq8)
          go_wp2_with (with_reducible refine wp_copy8g (o := ⟨some 76, _, _, _, _, _⟩) ?_ (.tmp 63) (.tmp 75) 22 22 ?_ 5 Tryd.underlying22 ?_ (32 - 4 * q) (32 - 4 * q) 4 4 (some ⟨wr.heap.size, 0, none⟩) [(x >>> 24).setWidth 8, (x >>> 16).setWidth 8, (x >>> 8).setWidth 8, x.setWidth 8] w6.heap.size (4 * q) ?_ ?_ rfl hR9 (oC S6 q) _ hO9.out 4 hmn.out hft ?_
                       · rfl
                       · rfl
                       · rfl
                       · rfl
                       · rfl
                       intro w8 hB8 hg8 hz8)
          refine ⟨⟨q + 1, by omega, by go_num, Lib.hid (by rw [← hsp.out]; exact hB8.out), Lib.hid (hy9.out.kept hg8 (by omega)), hb9.grown hg8 (by simp; omega) (fun k hk => by injection hk with hk; omega)⟩, by simp [intOf]; omega⟩
        · have hq8' : q = 8 := by omega
          subst hq8'
          have hge8 : ¬ ((8 : Nat) : Int) < 8 := by omega
          obtain ⟨RS, hRS⟩ : ∃ x, x = sha all := ⟨_, rfl⟩
          have hRl : RS.length = 32 := by rw [hRS]; exact sha_len _
          rw [oC_end, hsha.out, ← hRS] at hO8
          have HRS := Lib.hid hRS
          have HRL := Lib.hid hRl
          have hrO : wr.rangeAt w6.heap.size 0 (hCells RS) := hO8.out.rangeAt 0 _ (fun j v hv => by rw [Nat.zero_add, List.getElem?_toArray]; exact hv)
          clear hRS hRl
          go_wp2_with (first
            | (with_reducible refine wpList_load_mid (op := ⟨some 78, _, _, _, _, _⟩) ?_ 59 (.tmp 7) ?_ w6.heap.size 0 ?_ (hCells RS) _ hrO Tryd.underlying59 ?_ ?_ ?_
               · rfl
               · rfl
               · rfl
               · rfl
               · exact hCells_info HRL.out)
            | (with_reducible refine wp_store_blk (o := ⟨none, _, _, _, _, _⟩) ?_ 59 (.tmp 2) (.tmp 78) ?_ w.heap.size 59 Y (hCells RS).toArray ?_ ?_ hy8.out ?_ ?_ ?_ w.heap.size w hb8 ?_ ?_
               · rfl
               · rfl
               · rfl
               · rfl
               · exact hCells_info' HRL.out
               · rw [HY.out, List.size_toArray, List.size_toArray, hCells, List.length_map, List.length_map, HRL.out]; rfl
               · exact hCells_one _
               · exact Nat.le_refl _
               intro w9 hR9 hb9 hg9 hs9))
          refine bodyPost_ret (results_cell1 rfl _ _ _ w.heap.size _ (hCells RS) _ rfl hR9.out Tryd.underlying59 rfl (hCells_info HRL.out)) rfl ?_
          exact ⟨by rw [HRS.out], hb9⟩
end Go.Proofs.YtikjhnbehihbjaaDoor
