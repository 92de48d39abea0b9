/- sporranref05.Encode: the walk. · sporran/size.Encode: the walk. · sporran/size.Text; sporranref05.Text: the walks. · sporran/size.width: the walk. · sporran/size.cut: the walk. · sporran/size.Decode: the walk. · Plain: a count's bytes, read. · sporran/size.ReadText: plain; the walk is still to be written (regions 0 - 8 are plain; region 9 draws its order around two calls of bytes.Clone: go_region_with). · sporran/size.ReadText: the walk. · sporranref05.Decode: the walk. · sporranref05.ReadText: the walk.  -/
import Derived.RegionTactic
import Derived.ChangeAlike
import Derived.Deep.RegionWith
import Derived.Deep.DeepCutAuto
import Derived.Deep.CutBlock
import Derived.Deep.RegionLaw
import Derived.Test.YtndobjlodpkknaaGreatDoorWGB
namespace Go.Proofs.YtndobjlodpkknaaGreatDoor
open Go.RowKit
def enc (n : BitVec 64) : List (BitVec 8) :=
  if iv64 n < 253 then [n.setWidth 8] else if iv64 n ≤ 65535 then 253#8 :: low n 2 else if iv64 n ≤ 4294967295 then 254#8 :: low n 4 else 255#8 :: low n 8
theorem own_one (w : World) (b : BitVec 8) : Own8 (w.alloc (.cells #[u8 b] 5)) w.heap.size (.slice (some ⟨w.heap.size, 0, none⟩) 1 1) [b] :=
  ⟨rfl, .inr ⟨w.heap.size, 1, #[u8 b], rfl, Nat.le_refl _, Blk.new w _ _, Nat.le_refl _, by unfold maxLen; omega, rfl, rfl⟩⟩
theorem GivesOwn.of {w w' : World} {bs cs : List (BitVec 8)} {v : Value} (h : Hid (bs = cs)) (ho : Own8 w' w.heap.size v cs) (hb : Below w.heap.size w w') : GivesOwn w bs (.returned v) w' := by
  rw [h.out]; exact ⟨v, rfl, ho, hb⟩
set_option maxRecDepth 100000 in
set_option maxHeartbeats 2000000 in
theorem refEncode_any (n : BitVec 64) (w : World) : Calls Tryz.prog 29 #[.int .u64 (iv64 n)] w (GivesOwn w (enc n)) := by
  have hlo := iv64_lo n
  go_enter Tryz.func29, Tryz.ntmps29
  by_cases h1 : iv64 n < 253
  · have HE : Hid (enc n = [n.setWidth 8]) := Lib.hid (by unfold enc; rw [if_pos h1])
    have hc := cut64_8 n
    have ho := own_one w (n.setWidth 8)
    have hb0 : Below w.heap.size w (w.alloc (.cells #[u8 (n.setWidth 8)] 5)) := (Below.refl _ _).alloc (Nat.le_refl _) _
    go_wp2
    go_ret
    exact GivesOwn.of HE ho hb0
  by_cases h2 : iv64 n ≤ 65535
  · have HE : Hid (enc n = 253#8 :: low n 2) := Lib.hid (by unfold enc; rw [if_neg h1, if_pos h2])
    have hb0 : Below w.heap.size w (w.alloc (.cells #[u8 253#8] 5)) := (Below.refl _ _).alloc (Nat.le_refl _) _
    have ho := own_one w 253#8
    go_wp2_with fail
    refine (low_any n 2 (by omega) (w.alloc (.cells #[u8 253#8] 5))).mono ?_
    rintro e w1 ⟨v1, rfl, ho1, hb1⟩
    obtain ⟨p1, c1, rfl, hl1, hm1, hr1⟩ := ho1.row
    have hl2 := low_len n 2
    have hsz := hb0.size
    have hsz1 := hb1.size
    have hbw := hb0.trans (hb1.mono hsz)
    have ho2 := ho.below hb1 (Nat.le_refl _)
    clear ho ho1 hb1
    go_wp2_with (with_reducible refine wp_append8 (o := ⟨some 15, _, _, _, _, _⟩) ?_ (.tmp 12) (.tmp 14) ?_ w.heap.size _ [253#8] ?_ ho2 p1 (low n 2).length c1 (low n 2) ?_ rfl hr1 ?_ ?_ w.heap.size w hbw ?_ ?_
                 · rfl
                 · rfl
                 · rfl
                 · rfl
                 · rw [hl2]; simp only [List.length_cons, List.length_nil]; omega
                 · exact hbw.size
                 · exact Nat.le_refl _
                 intro v3 w3 ho3 hb3 _ _)
    go_ret
    exact GivesOwn.of HE ho3 hb3
  by_cases h3 : iv64 n ≤ 4294967295
  · have HE : Hid (enc n = 254#8 :: low n 4) := Lib.hid (by unfold enc; rw [if_neg h1, if_neg h2, if_pos h3])
    have hb0 : Below w.heap.size w (w.alloc (.cells #[u8 254#8] 5)) := (Below.refl _ _).alloc (Nat.le_refl _) _
    have ho := own_one w 254#8
    go_wp2_with fail
    refine (low_any n 4 (by omega) (w.alloc (.cells #[u8 254#8] 5))).mono ?_
    rintro e w1 ⟨v1, rfl, ho1, hb1⟩
    obtain ⟨p1, c1, rfl, hl1, hm1, hr1⟩ := ho1.row
    have hl4 := low_len n 4
    have hsz := hb0.size
    have hsz1 := hb1.size
    have hbw := hb0.trans (hb1.mono hsz)
    have ho2 := ho.below hb1 (Nat.le_refl _)
    clear ho ho1 hb1
    go_wp2_with (with_reducible refine wp_append8 (o := ⟨some 22, _, _, _, _, _⟩) ?_ (.tmp 19) (.tmp 21) ?_ w.heap.size _ [254#8] ?_ ho2 p1 (low n 4).length c1 (low n 4) ?_ rfl hr1 ?_ ?_ w.heap.size w hbw ?_ ?_
                 · rfl
                 · rfl
                 · rfl
                 · rfl
                 · rw [hl4]; simp only [List.length_cons, List.length_nil]; omega
                 · exact hbw.size
                 · exact Nat.le_refl _
                 intro v3 w3 ho3 hb3 _ _)
    go_ret
    exact GivesOwn.of HE ho3 hb3
  · have HE : Hid (enc n = 255#8 :: low n 8) := Lib.hid (by unfold enc; rw [if_neg h1, if_neg h2, if_neg h3])
    have hb0 : Below w.heap.size w (w.alloc (.cells #[u8 255#8] 5)) := (Below.refl _ _).alloc (Nat.le_refl _) _
    have ho := own_one w 255#8
    go_wp2_with fail
    refine (low_any n 8 (by omega) (w.alloc (.cells #[u8 255#8] 5))).mono ?_
    rintro e w1 ⟨v1, rfl, ho1, hb1⟩
    obtain ⟨p1, c1, rfl, hl1, hm1, hr1⟩ := ho1.row
    have hl8 := low_len n 8
    have hsz := hb0.size
    have hsz1 := hb1.size
    have hbw := hb0.trans (hb1.mono hsz)
    have ho2 := ho.below hb1 (Nat.le_refl _)
    clear ho ho1 hb1
    go_wp2_with (with_reducible refine wp_append8 (o := ⟨some 26, _, _, _, _, _⟩) ?_ (.tmp 23) (.tmp 25) ?_ w.heap.size _ [255#8] ?_ ho2 p1 (low n 8).length c1 (low n 8) ?_ rfl hr1 ?_ ?_ w.heap.size w hbw ?_ ?_
                 · rfl
                 · rfl
                 · rfl
                 · rfl
                 · rw [hl8]; simp only [List.length_cons, List.length_nil]; omega
                 · exact hbw.size
                 · exact Nat.le_refl _
                 intro v3 w3 ho3 hb3 _ _)
    go_ret
    exact GivesOwn.of HE ho3 hb3
end Go.Proofs.YtndobjlodpkknaaGreatDoor
namespace Go.Proofs.YtndobjlodpkknaaGreatDoor
open Go.RowKit
def allCells (f : BitVec 8) (n : BitVec 64) (k : Nat) : Array Value := (u8 f :: ((low n k).map u8 ++ List.replicate (8 - k) (u8 0#8))).toArray
theorem allCells_size (f : BitVec 8) (n : BitVec 64) (k : Nat) (hk : k ≤ 8) : (allCells f n k).size = 9 := by simp [allCells, low_len]; omega
theorem allCells_set (f : BitVec 8) (n : BitVec 64) (k : Nat) (hk : k < 8) : (allCells f n k).setIfInBounds (k + 1) (u8 (byteN n k)) = allCells f n (k + 1) := by
  unfold allCells
  rw [List.setIfInBounds_toArray, List.set_cons_succ, low_succ, List.map_append]
  congr 2
  rw [List.set_append_right _ _ (by simp [low_len]), show k - ((low n k).map u8).length = 0 by simp [low_len], show 8 - k = (8 - (k + 1)) + 1 by omega, List.replicate_succ]
  simp
theorem allCells_first (f g : BitVec 8) (n : BitVec 64) (k : Nat) : (allCells f n k).setIfInBounds 0 (u8 g) = allCells g n k := by
  unfold allCells; simp
theorem allCells_row {w : World} {g : Nat} {t : TypeId} {f : BitVec 8} {n : BitVec 64} (h : Blk w g t (allCells f n 8)) (j : Nat) (hj : j ≤ 8) : Row8 w (some ⟨g, 0, none⟩) (f :: low n j) := fun _ =>
  ⟨g, 0, rfl, h.lt, fun i x hx => by
    rw [Nat.zero_add, h.cell]
    unfold allCells
    cases i with
    | zero => simp at hx ⊢; rw [hx]
    | succ i =>
      simp only [List.getElem?_cons_succ] at hx
      have hi : i < j := by
        have := (List.getElem?_eq_some_iff.1 hx).1
        simpa [low_len] using this
      have e : (low n 8)[i]? = some x := by
        rw [← hx]; simp [low, hi, show i < 8 by omega]
      obtain ⟨_, e2⟩ := List.getElem?_eq_some_iff.1 e
      simp [low_len, show i < 8 by omega, e2]⟩
theorem own_nothing (w : World) (B : Nat) (hB : B ≤ w.heap.size) : Own8 (w.alloc (.cells #[] 5)) B (.slice (some ⟨w.heap.size, 0, none⟩) 0 0) [] :=
  ⟨rfl, .inr ⟨w.heap.size, 0, #[], rfl, hB, Blk.new w _ _, Nat.le_refl _, by unfold maxLen; omega, rfl, rfl⟩⟩
set_option maxRecDepth 100000 in
set_option maxHeartbeats 2000000 in
theorem encode_any (n : BitVec 64) (w : World) : Calls Tryz.prog 14 #[.int .u64 (iv64 n)] w (GivesOwn w (enc n)) := by
  have hlo := iv64_lo n
  go_enter Tryz.func14, Tryz.ntmps14
  by_cases h1 : iv64 n < 253
  · have HE : Hid (enc n = [n.setWidth 8]) := Lib.hid (by unfold enc; rw [if_pos h1])
    have hc := cut64_8 n
    have ho := own_one w (n.setWidth 8)
    have hb0 : Below w.heap.size w (w.alloc (.cells #[u8 (n.setWidth 8)] 5)) := (Below.refl _ _).alloc (Nat.le_refl _) _
    go_wp2
    go_ret
    exact GivesOwn.of HE ho hb0
  go_wp2
  go_loopw [11] (fun i wr => ∃ k : Nat, k ≤ 8 ∧ i = .int .i64 k ∧ Hid (Blk wr w.heap.size 63 (allCells 255#8 n k)) ∧ Below w.heap.size w wr) (fun i _ => 8 - (intOf i).toNat)
  case atStart => exact ⟨0, by omega, rfl, Lib.hid (by exact Blk.new w _ _), (Below.refl _ _).alloc (Nat.le_refl _) _⟩
  case round =>
    obtain ⟨k, hk, rfl, hblk, hbel⟩ := hrel
    by_cases hkm : k < 8
    · have hlt : (k : Int) < 8 := by omega
      have hsh := shrB n k
      have hcell : wr.cell? ⟨w.heap.size, k + 1, none⟩ = (allCells 255#8 n k)[k + 1]? := hblk.out.cell _
      rw [Array.getElem?_eq_getElem (by rw [allCells_size _ _ _ hk]; omega)] at hcell
      have hfz := hblk.out.frozen (k + 1)
      go_wp2
      clear hcell hfz hsh
      go_roundw
      case rel => exact ⟨k + 1, by omega, by go_num, Lib.hid (by rw [← allCells_set _ _ _ hkm]; exact hblk.out.set (k + 1) _), hbel.setCell (Nat.le_refl _) _⟩
      case measure => simp [intOf]; omega
    · have hge : ¬ (k : Int) < 8 := by omega
      have hb8 := hblk.out
      rw [show k = 8 by omega] at hb8
      have hblk := Lib.hid hb8
      clear hb8 hk hkm
      have hsz := hbel.size
      have hcell : wr.cell? ⟨w.heap.size, 0, none⟩ = some (.int .u8 (iv8 255#8)) := hblk.out.cell _
      have hfz := hblk.out.frozen 0
      by_cases h2 : iv64 n < 65536
      · have HE : Hid (enc n = 253#8 :: low n 2) := Lib.hid (by unfold enc; rw [if_neg (by omega), if_pos (by omega)])
        have hblk3 := hblk.out.set 0 (u8 253#8)
        have hb3 := hbel.setCell (p := ⟨w.heap.size, 0, none⟩) (Nat.le_refl _) (u8 253#8)
        rw [allCells_first] at hblk3
        obtain ⟨W, hW⟩ : ∃ W, W = wr.setCell ⟨w.heap.size, 0, none⟩ (u8 253#8) := ⟨_, rfl⟩
        rw [← hW] at hblk3 hb3
        replace hW : W = wr.setCell ⟨w.heap.size, 0, none⟩ (.int .u8 253) := hW
        have hWs : W.heap.size = wr.heap.size := by rw [hW]; simp [World.setCell]
        have hrow := (allCells_row hblk3 2 (by omega)).below ((Below.refl W.heap.size W).alloc (Nat.le_refl _) (.cells #[] 5)) (Nat.le_refl _)
        have hown := own_nothing W w.heap.size hb3.size
        have hbw := hb3.alloc hb3.size (.cells #[] 5)
        have hsz2 := hbw.size
        rw [hWs] at hown
        rw [hW] at hrow hown hbw hsz2
        clear hblk3 hblk hb3 hW hWs
        go_wp2_with (with_reducible refine wp_append8 (o := ⟨some 29, _, _, _, _, _⟩) ?_ (.tmp 27) (.tmp 28) ?_ w.heap.size _ [] ?_ hown (some ⟨w.heap.size, 0, none⟩) 3 9 (253#8 :: low n 2) ?_ (by rw [List.length_cons, low_len]) hrow ?_ ?_ w.heap.size w ?_ ?_ ?_
                     · rfl
                     · rfl
                     · rfl
                     · rfl
                     · rw [List.length_cons, low_len]; simp only [List.length_nil]; omega
                     · exact hsz2
                     · exact hbw
                     · exact Nat.le_refl _
                     intro v3 w3 ho3 hb3 _ _)
        go_ret
        exact GivesOwn.of HE ho3 hb3
      by_cases h3 : iv64 n < 4294967296
      · have HE : Hid (enc n = 254#8 :: low n 4) := Lib.hid (by unfold enc; rw [if_neg (by omega), if_neg (by omega), if_pos (by omega)])
        have hblk3 := hblk.out.set 0 (u8 254#8)
        have hb3 := hbel.setCell (p := ⟨w.heap.size, 0, none⟩) (Nat.le_refl _) (u8 254#8)
        rw [allCells_first] at hblk3
        obtain ⟨W, hW⟩ : ∃ W, W = wr.setCell ⟨w.heap.size, 0, none⟩ (u8 254#8) := ⟨_, rfl⟩
        rw [← hW] at hblk3 hb3
        replace hW : W = wr.setCell ⟨w.heap.size, 0, none⟩ (.int .u8 254) := hW
        have hWs : W.heap.size = wr.heap.size := by rw [hW]; simp [World.setCell]
        have hrow := (allCells_row hblk3 4 (by omega)).below ((Below.refl W.heap.size W).alloc (Nat.le_refl _) (.cells #[] 5)) (Nat.le_refl _)
        have hown := own_nothing W w.heap.size hb3.size
        have hbw := hb3.alloc hb3.size (.cells #[] 5)
        have hsz2 := hbw.size
        rw [hWs] at hown
        rw [hW] at hrow hown hbw hsz2
        clear hblk3 hblk hb3 hW hWs
        go_wp2_with (with_reducible refine wp_append8 (o := ⟨some 36, _, _, _, _, _⟩) ?_ (.tmp 34) (.tmp 35) ?_ w.heap.size _ [] ?_ hown (some ⟨w.heap.size, 0, none⟩) 5 9 (254#8 :: low n 4) ?_ (by rw [List.length_cons, low_len]) hrow ?_ ?_ w.heap.size w ?_ ?_ ?_
                     · rfl
                     · rfl
                     · rfl
                     · rfl
                     · rw [List.length_cons, low_len]; simp only [List.length_nil]; omega
                     · exact hsz2
                     · exact hbw
                     · exact Nat.le_refl _
                     intro v3 w3 ho3 hb3 _ _)
        go_ret
        exact GivesOwn.of HE ho3 hb3
      · have HE : Hid (enc n = 255#8 :: low n 8) := Lib.hid (by unfold enc; rw [if_neg (by omega), if_neg (by omega), if_neg (by omega)])
        have hrow := (allCells_row hblk.out 8 (by omega)).below ((Below.refl wr.heap.size wr).alloc (Nat.le_refl _) (.cells #[] 5)) (Nat.le_refl _)
        have hown := own_nothing wr w.heap.size hbel.size
        have hbw := hbel.alloc hbel.size (.cells #[] 5)
        have hsz2 := hbw.size
        clear hblk
        go_wp2_with (with_reducible refine wp_append8 (o := ⟨some 39, _, _, _, _, _⟩) ?_ (.tmp 37) (.tmp 38) ?_ w.heap.size _ [] ?_ hown (some ⟨w.heap.size, 0, none⟩) 9 9 (255#8 :: low n 8) ?_ (by rw [List.length_cons, low_len]) hrow ?_ ?_ w.heap.size w ?_ ?_ ?_
                     · rfl
                     · rfl
                     · rfl
                     · rfl
                     · rw [List.length_cons, low_len]; simp only [List.length_nil]; omega
                     · exact hsz2
                     · exact hbw
                     · exact Nat.le_refl _
                     intro v3 w3 ho3 hb3 _ _)
        go_ret
        exact GivesOwn.of HE ho3 hb3
end Go.Proofs.YtndobjlodpkknaaGreatDoor
namespace Go.Proofs.YtndobjlodpkknaaGreatDoor
open Go.RowKit
def text (bs : List (BitVec 8)) : List (BitVec 8) := enc (BitVec.ofNat 64 bs.length) ++ bs
theorem enc_len (n : BitVec 64) : (enc n).length ≤ 9 := by
  unfold enc
  split
  · simp
  · split
    · simp [low_len]
    · split <;> simp [low_len]
theorem iv64_nat (n : Nat) (h : n < 18446744073709551616) : iv64 (BitVec.ofNat 64 n) = (n : Int) := by
  unfold iv64; rw [BitVec.toNat_ofNat, Nat.mod_eq_of_lt (by omega)]
set_option maxRecDepth 100000 in
set_option maxHeartbeats 2000000 in
theorem text_any (p : Option Addr) (n c : Nat) (bs : List (BitVec 8)) (w : World) (hr : Row8 w p bs) (hn : bs.length = n) (hbig : n ≤ 140737488355000) :
    Calls Tryz.prog 16 #[.slice p n c] w (GivesOwn w (text bs)) := by
  have HN := Lib.hid hn
  clear hn
  have hiv := iv64_nat n (by omega)
  have hel := enc_len (BitVec.ofNat 64 n)
  have HT : Hid (text bs = enc (BitVec.ofNat 64 n) ++ bs) := Lib.hid (by unfold text; rw [HN.out])
  go_enter Tryz.func16, Tryz.ntmps16
  go_wp2_with fail
  rw [← hiv]
  refine (encode_any (BitVec.ofNat 64 n) _).mono ?_
  rintro e w1 ⟨v, rfl, hown, hb1⟩
  have hr1 := hr.below hb1 (Nat.le_refl _)
  have hsz := hb1.size
  obtain ⟨E, hE⟩ : ∃ E, E = enc (BitVec.ofNat 64 n) := ⟨_, rfl⟩
  rw [← hE] at hown hel HT
  clear hE hiv
  go_wp2_with (with_reducible refine wp_append8 (o := ⟨some 8, _, _, _, _, _⟩) ?_ (.tmp 6) (.tmp 7) ?_ w.heap.size v E ?_ hown p n c bs ?_ HN.out hr1 ?_ hsz w.heap.size w hb1 ?_ ?_
               · rfl
               · rfl
               · rfl
               · rfl
               · rw [HN.out]; omega
               · exact Nat.le_refl _
               intro v3 w3 ho3 hb3 _ _)
  go_ret
  exact GivesOwn.of HT ho3 hb3
set_option maxRecDepth 100000 in
set_option maxHeartbeats 2000000 in
theorem refText_any (p : Option Addr) (n c : Nat) (bs : List (BitVec 8)) (w : World) (hr : Row8 w p bs) (hn : bs.length = n) (hbig : n ≤ 140737488355000) :
    Calls Tryz.prog 31 #[.slice p n c] w (GivesOwn w (text bs)) := by
  have HN := Lib.hid hn
  clear hn
  have hiv := iv64_nat n (by omega)
  have hel := enc_len (BitVec.ofNat 64 n)
  have HT : Hid (text bs = enc (BitVec.ofNat 64 n) ++ bs) := Lib.hid (by unfold text; rw [HN.out])
  go_enter Tryz.func31, Tryz.ntmps31
  go_wp2_with fail
  rw [← hiv]
  refine (refEncode_any (BitVec.ofNat 64 n) _).mono ?_
  rintro e w1 ⟨v, rfl, hown, hb1⟩
  have hr1 := hr.below hb1 (Nat.le_refl _)
  have hsz := hb1.size
  obtain ⟨E, hE⟩ : ∃ E, E = enc (BitVec.ofNat 64 n) := ⟨_, rfl⟩
  rw [← hE] at hown hel HT
  clear hE hiv
  go_wp2_with (with_reducible refine wp_append8 (o := ⟨some 8, _, _, _, _, _⟩) ?_ (.tmp 6) (.tmp 7) ?_ w.heap.size v E ?_ hown p n c bs ?_ HN.out hr1 ?_ hsz w.heap.size w hb1 ?_ ?_
               · rfl
               · rfl
               · rfl
               · rfl
               · rw [HN.out]; omega
               · exact Nat.le_refl _
               intro v3 w3 ho3 hb3 _ _)
  go_ret
  exact GivesOwn.of HT ho3 hb3
end Go.Proofs.YtndobjlodpkknaaGreatDoor
namespace Go.Proofs.YtndobjlodpkknaaGreatDoor
open Go.RowKit
def widthP (b : BitVec 8) : Nat := if b = 253#8 then 2 else if b = 254#8 then 4 else if b = 255#8 then 8 else 0
def leastP (b : BitVec 8) : Int := if b = 253#8 then 253 else if b = 254#8 then 65536 else if b = 255#8 then 4294967296 else 0
end Go.Proofs.YtndobjlodpkknaaGreatDoor
namespace Go.Proofs.YtndobjlodpkknaaGreatDoor
open Go.RowKit
def cutP : List (BitVec 8) → BitVec 64 × List (BitVec 8) × Int
  | [] => (0#64, [], 50)
  | b :: r => if widthP b = 0 then (b.setWidth 64, r, 0) else if r.length < widthP b then (0#64, [], 50) else if iv64 (numTo r (widthP b)) < leastP b then (0#64, [], 51) else (numTo r (widthP b), r.drop (widthP b), 0)
end Go.Proofs.YtndobjlodpkknaaGreatDoor
namespace Go.Proofs.YtndobjlodpkknaaGreatDoor
open Go.RowKit
theorem own_none (w : World) (B : Nat) : Own8 w B (.slice none 0 0) [] := ⟨rfl, .inl ⟨rfl, rfl⟩⟩
end Go.Proofs.YtndobjlodpkknaaGreatDoor
