/- sporranref05.Encode: the walk. · sporran/size.Encode: the walk. · sporran/size.Text; sporranref05.Text: the walks. · sporran/size.width: the walk. · sporran/size.cut: the walk. · sporran/size.Decode: the walk. · Plain: a count's bytes, read. · sporran/size.ReadText: plain; the walk is still to be written (regions 0 - 8 are plain; region 9 draws its order around two calls of bytes.Clone: go_region_with). · sporran/size.ReadText: the walk. · sporranref05.Decode: the walk. · sporranref05.ReadText: the walk. -/
import Derived.RegionTactic
import Derived.ChangeAlike
import Derived.Deep.RegionWith
import Derived.Deep.DeepCutAuto
import Derived.Deep.CutBlock
import Derived.Deep.RegionLaw
import Derived.Test.YthglocpbdfcfnaaDoorGB
namespace Go.Proofs.YthglocpbdfcfnaaDoor
open Go.RowKit

/-- a count's bytes -/
def enc (n : BitVec 64) : List (BitVec 8) :=
  if iv64 n < 253 then [n.setWidth 8] else if iv64 n ≤ 65535 then 253#8 :: low n 2 else if iv64 n ≤ 4294967295 then 254#8 :: low n 4 else 255#8 :: low n 8
theorem own_one (w : World) (b : BitVec 8) : Own8 (w.alloc (.cells #[u8 b] 5)) w.heap.size (.slice (some ⟨w.heap.size, 0, none⟩) 1 1) [b] :=
  ⟨rfl, .inr ⟨w.heap.size, 1, #[u8 b], rfl, Nat.le_refl _, Blk.new w _ _, Nat.le_refl _, by unfold maxLen; omega, rfl, rfl⟩⟩
theorem GivesOwn.of {w w' : World} {bs cs : List (BitVec 8)} {v : Value} (h : Hid (bs = cs)) (ho : Own8 w' w.heap.size v cs) (hb : Below w.heap.size w w') : GivesOwn w bs (.returned v) w' := by
  rw [h.out]; exact ⟨v, rfl, ho, hb⟩

set_option maxRecDepth 100000 in
set_option maxHeartbeats 2000000 in
theorem refEncode_any (n : BitVec 64) (w : World) : Calls Tryd.prog 36 #[.int .u64 (iv64 n)] w (GivesOwn w (enc n)) := by
  have hlo := iv64_lo n
  go_enter Tryd.func36, Tryd.ntmps36
  by_cases h1 : iv64 n < 253
  · have HE : Hid (enc n = [n.setWidth 8]) := Lib.hid (by unfold enc; rw [if_pos h1])
    have hc := cut64_8 n
    have ho := own_one w (n.setWidth 8)
    have hb0 : Below w.heap.size w (w.alloc (.cells #[u8 (n.setWidth 8)] 5)) := (Below.refl _ _).alloc (Nat.le_refl _) _
    go_wp2
    go_ret
    exact GivesOwn.of HE ho hb0
  by_cases h2 : iv64 n ≤ 65535
  · have HE : Hid (enc n = 253#8 :: low n 2) := Lib.hid (by unfold enc; rw [if_neg h1, if_pos h2])
    have hb0 : Below w.heap.size w (w.alloc (.cells #[u8 253#8] 5)) := (Below.refl _ _).alloc (Nat.le_refl _) _
    have ho := own_one w 253#8
    go_wp2_with fail
    refine (low_any n 2 (by omega) (w.alloc (.cells #[u8 253#8] 5))).mono ?_
    rintro e w1 ⟨v1, rfl, ho1, hb1⟩
    obtain ⟨p1, c1, rfl, hl1, hm1, hr1⟩ := ho1.row
    have hl2 := low_len n 2
    have hsz := hb0.size
    have hsz1 := hb1.size
    have hbw := hb0.trans (hb1.mono hsz)
    have ho2 := ho.below hb1 (Nat.le_refl _)
    clear ho ho1 hb1
    go_wp2_with (with_reducible refine wp_append8 (o := ⟨some 15, _, _, _, _, _⟩) ?_ (.tmp 12) (.tmp 14) ?_ w.heap.size _ [253#8] ?_ ho2 p1 (low n 2).length c1 (low n 2) ?_ rfl hr1 ?_ ?_ w.heap.size w hbw ?_ ?_
                 · rfl
                 · rfl
                 · rfl
                 · rfl
                 · rw [hl2]; simp only [List.length_cons, List.length_nil]; omega
                 · exact hbw.size
                 · exact Nat.le_refl _
                 intro v3 w3 ho3 hb3 _ _)
    go_ret
    exact GivesOwn.of HE ho3 hb3
  by_cases h3 : iv64 n ≤ 4294967295
  · have HE : Hid (enc n = 254#8 :: low n 4) := Lib.hid (by unfold enc; rw [if_neg h1, if_neg h2, if_pos h3])
    have hb0 : Below w.heap.size w (w.alloc (.cells #[u8 254#8] 5)) := (Below.refl _ _).alloc (Nat.le_refl _) _
    have ho := own_one w 254#8
    go_wp2_with fail
    refine (low_any n 4 (by omega) (w.alloc (.cells #[u8 254#8] 5))).mono ?_
    rintro e w1 ⟨v1, rfl, ho1, hb1⟩
    obtain ⟨p1, c1, rfl, hl1, hm1, hr1⟩ := ho1.row
    have hl4 := low_len n 4
    have hsz := hb0.size
    have hsz1 := hb1.size
    have hbw := hb0.trans (hb1.mono hsz)
    have ho2 := ho.below hb1 (Nat.le_refl _)
    clear ho ho1 hb1
    go_wp2_with (with_reducible refine wp_append8 (o := ⟨some 22, _, _, _, _, _⟩) ?_ (.tmp 19) (.tmp 21) ?_ w.heap.size _ [254#8] ?_ ho2 p1 (low n 4).length c1 (low n 4) ?_ rfl hr1 ?_ ?_ w.heap.size w hbw ?_ ?_
                 · rfl
                 · rfl
                 · rfl
                 · rfl
                 · rw [hl4]; simp only [List.length_cons, List.length_nil]; omega
                 · exact hbw.size
                 · exact Nat.le_refl _
                 intro v3 w3 ho3 hb3 _ _)
    go_ret
    exact GivesOwn.of HE ho3 hb3
  · have HE : Hid (enc n = 255#8 :: low n 8) := Lib.hid (by unfold enc; rw [if_neg h1, if_neg h2, if_neg h3])
    have hb0 : Below w.heap.size w (w.alloc (.cells #[u8 255#8] 5)) := (Below.refl _ _).alloc (Nat.le_refl _) _
    have ho := own_one w 255#8
    go_wp2_with fail
    refine (low_any n 8 (by omega) (w.alloc (.cells #[u8 255#8] 5))).mono ?_
    rintro e w1 ⟨v1, rfl, ho1, hb1⟩
    obtain ⟨p1, c1, rfl, hl1, hm1, hr1⟩ := ho1.row
    have hl8 := low_len n 8
    have hsz := hb0.size
    have hsz1 := hb1.size
    have hbw := hb0.trans (hb1.mono hsz)
    have ho2 := ho.below hb1 (Nat.le_refl _)
    clear ho ho1 hb1
    go_wp2_with (with_reducible refine wp_append8 (o := ⟨some 26, _, _, _, _, _⟩) ?_ (.tmp 23) (.tmp 25) ?_ w.heap.size _ [255#8] ?_ ho2 p1 (low n 8).length c1 (low n 8) ?_ rfl hr1 ?_ ?_ w.heap.size w hbw ?_ ?_
                 · rfl
                 · rfl
                 · rfl
                 · rfl
                 · rw [hl8]; simp only [List.length_cons, List.length_nil]; omega
                 · exact hbw.size
                 · exact Nat.le_refl _
                 intro v3 w3 ho3 hb3 _ _)
    go_ret
    exact GivesOwn.of HE ho3 hb3
end Go.Proofs.YthglocpbdfcfnaaDoor
namespace Go.Proofs.YthglocpbdfcfnaaDoor
open Go.RowKit

def allCells (f : BitVec 8) (n : BitVec 64) (k : Nat) : Array Value := (u8 f :: ((low n k).map u8 ++ List.replicate (8 - k) (u8 0#8))).toArray
theorem allCells_size (f : BitVec 8) (n : BitVec 64) (k : Nat) (hk : k ≤ 8) : (allCells f n k).size = 9 := by simp [allCells, low_len]; omega
theorem allCells_set (f : BitVec 8) (n : BitVec 64) (k : Nat) (hk : k < 8) : (allCells f n k).setIfInBounds (k + 1) (u8 (byteN n k)) = allCells f n (k + 1) := by
  unfold allCells
  rw [List.setIfInBounds_toArray, List.set_cons_succ, low_succ, List.map_append]
  congr 2
  rw [List.set_append_right _ _ (by simp [low_len]), show k - ((low n k).map u8).length = 0 by simp [low_len], show 8 - k = (8 - (k + 1)) + 1 by omega, List.replicate_succ]
  simp
theorem allCells_first (f g : BitVec 8) (n : BitVec 64) (k : Nat) : (allCells f n k).setIfInBounds 0 (u8 g) = allCells g n k := by
  unfold allCells; simp
theorem allCells_row {w : World} {g : Nat} {t : TypeId} {f : BitVec 8} {n : BitVec 64} (h : Blk w g t (allCells f n 8)) (j : Nat) (hj : j ≤ 8) : Row8 w (some ⟨g, 0, none⟩) (f :: low n j) := fun _ =>
  ⟨g, 0, rfl, h.lt, fun i x hx => by
    rw [Nat.zero_add, h.cell]
    unfold allCells
    cases i with
    | zero => simp at hx ⊢; rw [hx]
    | succ i =>
      simp only [List.getElem?_cons_succ] at hx
      have hi : i < j := by
        have := (List.getElem?_eq_some_iff.1 hx).1
        simpa [low_len] using this
      have e : (low n 8)[i]? = some x := by
        rw [← hx]; simp [low, hi, show i < 8 by omega]
      obtain ⟨_, e2⟩ := List.getElem?_eq_some_iff.1 e
      simp [low_len, show i < 8 by omega, e2]⟩

theorem own_nothing (w : World) (B : Nat) (hB : B ≤ w.heap.size) : Own8 (w.alloc (.cells #[] 5)) B (.slice (some ⟨w.heap.size, 0, none⟩) 0 0) [] :=
  ⟨rfl, .inr ⟨w.heap.size, 0, #[], rfl, hB, Blk.new w _ _, Nat.le_refl _, by unfold maxLen; omega, rfl, rfl⟩⟩

set_option maxRecDepth 100000 in
set_option maxHeartbeats 2000000 in
theorem encode_any (n : BitVec 64) (w : World) : Calls Tryd.prog 52 #[.int .u64 (iv64 n)] w (GivesOwn w (enc n)) := by
  have hlo := iv64_lo n
  go_enter Tryd.func52, Tryd.ntmps52
  by_cases h1 : iv64 n < 253
  · have HE : Hid (enc n = [n.setWidth 8]) := Lib.hid (by unfold enc; rw [if_pos h1])
    have hc := cut64_8 n
    have ho := own_one w (n.setWidth 8)
    have hb0 : Below w.heap.size w (w.alloc (.cells #[u8 (n.setWidth 8)] 5)) := (Below.refl _ _).alloc (Nat.le_refl _) _
    go_wp2
    go_ret
    exact GivesOwn.of HE ho hb0
  go_wp2
  go_loopw [11] (fun i wr => ∃ k : Nat, k ≤ 8 ∧ i = .int .i64 k ∧ Hid (Blk wr w.heap.size 94 (allCells 255#8 n k)) ∧ Below w.heap.size w wr) (fun i _ => 8 - (intOf i).toNat)
  case atStart => exact ⟨0, by omega, rfl, Lib.hid (by exact Blk.new w _ _), (Below.refl _ _).alloc (Nat.le_refl _) _⟩
  case round =>
    obtain ⟨k, hk, rfl, hblk, hbel⟩ := hrel
    by_cases hkm : k < 8
    · have hlt : (k : Int) < 8 := by omega
      have hsh := shrB n k
      have hcell : wr.cell? ⟨w.heap.size, k + 1, none⟩ = (allCells 255#8 n k)[k + 1]? := hblk.out.cell _
      rw [Array.getElem?_eq_getElem (by rw [allCells_size _ _ _ hk]; omega)] at hcell
      have hfz := hblk.out.frozen (k + 1)
      go_wp2
      clear hcell hfz hsh
      go_roundw
      case rel => exact ⟨k + 1, by omega, by go_num, Lib.hid (by rw [← allCells_set _ _ _ hkm]; exact hblk.out.set (k + 1) _), hbel.setCell (Nat.le_refl _) _⟩
      case measure => simp [intOf]; omega
    · have hge : ¬ (k : Int) < 8 := by omega
      have hb8 := hblk.out
      rw [show k = 8 by omega] at hb8
      have hblk := Lib.hid hb8
      clear hb8 hk hkm
      have hsz := hbel.size
      have hcell : wr.cell? ⟨w.heap.size, 0, none⟩ = some (.int .u8 (iv8 255#8)) := hblk.out.cell _
      have hfz := hblk.out.frozen 0
      by_cases h2 : iv64 n < 65536
      · have HE : Hid (enc n = 253#8 :: low n 2) := Lib.hid (by unfold enc; rw [if_neg (by omega), if_pos (by omega)])
        have hblk3 := hblk.out.set 0 (u8 253#8)
        have hb3 := hbel.setCell (p := ⟨w.heap.size, 0, none⟩) (Nat.le_refl _) (u8 253#8)
        rw [allCells_first] at hblk3
        obtain ⟨W, hW⟩ : ∃ W, W = wr.setCell ⟨w.heap.size, 0, none⟩ (u8 253#8) := ⟨_, rfl⟩
        rw [← hW] at hblk3 hb3
        replace hW : W = wr.setCell ⟨w.heap.size, 0, none⟩ (.int .u8 253) := hW
        have hWs : W.heap.size = wr.heap.size := by rw [hW]; simp [World.setCell]
        have hrow := (allCells_row hblk3 2 (by omega)).below ((Below.refl W.heap.size W).alloc (Nat.le_refl _) (.cells #[] 5)) (Nat.le_refl _)
        have hown := own_nothing W w.heap.size hb3.size
        have hbw := hb3.alloc hb3.size (.cells #[] 5)
        have hsz2 := hbw.size
        rw [hWs] at hown
        rw [hW] at hrow hown hbw hsz2
        clear hblk3 hblk hb3 hW hWs
        go_wp2_with (with_reducible refine wp_append8 (o := ⟨some 29, _, _, _, _, _⟩) ?_ (.tmp 27) (.tmp 28) ?_ w.heap.size _ [] ?_ hown (some ⟨w.heap.size, 0, none⟩) 3 9 (253#8 :: low n 2) ?_ (by rw [List.length_cons, low_len]) hrow ?_ ?_ w.heap.size w ?_ ?_ ?_
                     · rfl
                     · rfl
                     · rfl
                     · rfl
                     · rw [List.length_cons, low_len]; simp only [List.length_nil]; omega
                     · exact hsz2
                     · exact hbw
                     · exact Nat.le_refl _
                     intro v3 w3 ho3 hb3 _ _)
        go_ret
        exact GivesOwn.of HE ho3 hb3
      by_cases h3 : iv64 n < 4294967296
      · have HE : Hid (enc n = 254#8 :: low n 4) := Lib.hid (by unfold enc; rw [if_neg (by omega), if_neg (by omega), if_pos (by omega)])
        have hblk3 := hblk.out.set 0 (u8 254#8)
        have hb3 := hbel.setCell (p := ⟨w.heap.size, 0, none⟩) (Nat.le_refl _) (u8 254#8)
        rw [allCells_first] at hblk3
        obtain ⟨W, hW⟩ : ∃ W, W = wr.setCell ⟨w.heap.size, 0, none⟩ (u8 254#8) := ⟨_, rfl⟩
        rw [← hW] at hblk3 hb3
        replace hW : W = wr.setCell ⟨w.heap.size, 0, none⟩ (.int .u8 254) := hW
        have hWs : W.heap.size = wr.heap.size := by rw [hW]; simp [World.setCell]
        have hrow := (allCells_row hblk3 4 (by omega)).below ((Below.refl W.heap.size W).alloc (Nat.le_refl _) (.cells #[] 5)) (Nat.le_refl _)
        have hown := own_nothing W w.heap.size hb3.size
        have hbw := hb3.alloc hb3.size (.cells #[] 5)
        have hsz2 := hbw.size
        rw [hWs] at hown
        rw [hW] at hrow hown hbw hsz2
        clear hblk3 hblk hb3 hW hWs
        go_wp2_with (with_reducible refine wp_append8 (o := ⟨some 36, _, _, _, _, _⟩) ?_ (.tmp 34) (.tmp 35) ?_ w.heap.size _ [] ?_ hown (some ⟨w.heap.size, 0, none⟩) 5 9 (254#8 :: low n 4) ?_ (by rw [List.length_cons, low_len]) hrow ?_ ?_ w.heap.size w ?_ ?_ ?_
                     · rfl
                     · rfl
                     · rfl
                     · rfl
                     · rw [List.length_cons, low_len]; simp only [List.length_nil]; omega
                     · exact hsz2
                     · exact hbw
                     · exact Nat.le_refl _
                     intro v3 w3 ho3 hb3 _ _)
        go_ret
        exact GivesOwn.of HE ho3 hb3
      · have HE : Hid (enc n = 255#8 :: low n 8) := Lib.hid (by unfold enc; rw [if_neg (by omega), if_neg (by omega), if_neg (by omega)])
        have hrow := (allCells_row hblk.out 8 (by omega)).below ((Below.refl wr.heap.size wr).alloc (Nat.le_refl _) (.cells #[] 5)) (Nat.le_refl _)
        have hown := own_nothing wr w.heap.size hbel.size
        have hbw := hbel.alloc hbel.size (.cells #[] 5)
        have hsz2 := hbw.size
        clear hblk
        go_wp2_with (with_reducible refine wp_append8 (o := ⟨some 39, _, _, _, _, _⟩) ?_ (.tmp 37) (.tmp 38) ?_ w.heap.size _ [] ?_ hown (some ⟨w.heap.size, 0, none⟩) 9 9 (255#8 :: low n 8) ?_ (by rw [List.length_cons, low_len]) hrow ?_ ?_ w.heap.size w ?_ ?_ ?_
                     · rfl
                     · rfl
                     · rfl
                     · rfl
                     · rw [List.length_cons, low_len]; simp only [List.length_nil]; omega
                     · exact hsz2
                     · exact hbw
                     · exact Nat.le_refl _
                     intro v3 w3 ho3 hb3 _ _)
        go_ret
        exact GivesOwn.of HE ho3 hb3
end Go.Proofs.YthglocpbdfcfnaaDoor
namespace Go.Proofs.YthglocpbdfcfnaaDoor
open Go.RowKit

theorem Row8.none_len {w : World} {q : Option Addr} {bs : List (BitVec 8)} (h : Row8 w q bs) (hq : q = none) : bs.length = 0 := by
  by_cases hb : bs = []
  · rw [hb]; rfl
  · obtain ⟨b, off, e, _⟩ := h hb
    rw [hq] at e; cases e
/-- bytes with their count ahead -/
def text (bs : List (BitVec 8)) : List (BitVec 8) := enc (BitVec.ofNat 64 bs.length) ++ bs
theorem enc_len (n : BitVec 64) : (enc n).length ≤ 9 := by
  unfold enc
  split
  · simp
  · split
    · simp [low_len]
    · split <;> simp [low_len]
theorem iv64_nat (n : Nat) (h : n < 18446744073709551616) : iv64 (BitVec.ofNat 64 n) = (n : Int) := by
  unfold iv64; rw [BitVec.toNat_ofNat, Nat.mod_eq_of_lt (by omega)]

set_option maxRecDepth 100000 in
set_option maxHeartbeats 2000000 in
theorem text_any (p : Option Addr) (n c : Nat) (bs : List (BitVec 8)) (w : World) (hr : Row8 w p bs) (hn : bs.length = n) (hbig : n ≤ 140737488355000) :
    Calls Tryd.prog 57 #[.slice p n c] w (GivesOwn w (text bs)) := by
  have HN := Lib.hid hn
  clear hn
  have hiv := iv64_nat n (by omega)
  have hel := enc_len (BitVec.ofNat 64 n)
  have HT : Hid (text bs = enc (BitVec.ofNat 64 n) ++ bs) := Lib.hid (by unfold text; rw [HN.out])
  go_enter Tryd.func57, Tryd.ntmps57
  go_wp2_with fail
  rw [← hiv]
  refine (encode_any (BitVec.ofNat 64 n) _).mono ?_
  rintro e w1 ⟨v, rfl, hown, hb1⟩
  have hr1 := hr.below hb1 (Nat.le_refl _)
  have hsz := hb1.size
  obtain ⟨E, hE⟩ : ∃ E, E = enc (BitVec.ofNat 64 n) := ⟨_, rfl⟩
  rw [← hE] at hown hel HT
  clear hE hiv
  go_wp2_with (with_reducible refine wp_append8 (o := ⟨some 8, _, _, _, _, _⟩) ?_ (.tmp 6) (.tmp 7) ?_ w.heap.size v E ?_ hown p n c bs ?_ HN.out hr1 ?_ hsz w.heap.size w hb1 ?_ ?_
               · rfl
               · rfl
               · rfl
               · rfl
               · rw [HN.out]; omega
               · exact Nat.le_refl _
               intro v3 w3 ho3 hb3 _ _)
  go_ret
  exact GivesOwn.of HT ho3 hb3
set_option maxRecDepth 100000 in
set_option maxHeartbeats 2000000 in
theorem refText_any (p : Option Addr) (n c : Nat) (bs : List (BitVec 8)) (w : World) (hr : Row8 w p bs) (hn : bs.length = n) (hbig : n ≤ 140737488355000) :
    Calls Tryd.prog 37 #[.slice p n c] w (GivesOwn w (text bs)) := by
  have HN := Lib.hid hn
  clear hn
  have hiv := iv64_nat n (by omega)
  have hel := enc_len (BitVec.ofNat 64 n)
  have HT : Hid (text bs = enc (BitVec.ofNat 64 n) ++ bs) := Lib.hid (by unfold text; rw [HN.out])
  go_enter Tryd.func37, Tryd.ntmps37
  go_wp2_with fail
  rw [← hiv]
  refine (refEncode_any (BitVec.ofNat 64 n) _).mono ?_
  rintro e w1 ⟨v, rfl, hown, hb1⟩
  have hr1 := hr.below hb1 (Nat.le_refl _)
  have hsz := hb1.size
  obtain ⟨E, hE⟩ : ∃ E, E = enc (BitVec.ofNat 64 n) := ⟨_, rfl⟩
  rw [← hE] at hown hel HT
  clear hE hiv
  go_wp2_with (with_reducible refine wp_append8 (o := ⟨some 8, _, _, _, _, _⟩) ?_ (.tmp 6) (.tmp 7) ?_ w.heap.size v E ?_ hown p n c bs ?_ HN.out hr1 ?_ hsz w.heap.size w hb1 ?_ ?_
               · rfl
               · rfl
               · rfl
               · rfl
               · rw [HN.out]; omega
               · exact Nat.le_refl _
               intro v3 w3 ho3 hb3 _ _)
  go_ret
  exact GivesOwn.of HT ho3 hb3
end Go.Proofs.YthglocpbdfcfnaaDoor
namespace Go.Proofs.YthglocpbdfcfnaaDoor
open Go.RowKit

/-- how many bytes stand behind a count's first one -/
def widthP (b : BitVec 8) : Nat := if b = 253#8 then 2 else if b = 254#8 then 4 else if b = 255#8 then 8 else 0
/-- the least number that needs them -/
def leastP (b : BitVec 8) : Int := if b = 253#8 then 253 else if b = 254#8 then 65536 else if b = 255#8 then 4294967296 else 0
def WidthPost (w : World) (b : BitVec 8) (e : Ending) (w' : World) : Prop := e = .returned (.tuple #[.int .i64 (widthP b : Int), .int .u64 (leastP b)]) ∧ w' = w
end Go.Proofs.YthglocpbdfcfnaaDoor
namespace Go.Proofs.YthglocpbdfcfnaaDoor
open Go.RowKit

/-- the count at the beginning of bytes, what stands behind, the error -/
def cutP : List (BitVec 8) → BitVec 64 × List (BitVec 8) × Int
  | [] => (0#64, [], 50)
  | b :: r => if widthP b = 0 then (b.setWidth 64, r, 0) else if r.length < widthP b then (0#64, [], 50) else if iv64 (numTo r (widthP b)) < leastP b then (0#64, [], 51) else (numTo r (widthP b), r.drop (widthP b), 0)
def CutPost (w : World) (x : BitVec 64 × List (BitVec 8) × Int) (e : Ending) (w' : World) : Prop :=
  ∃ q d, e = .returned (.tuple #[.int .u64 (iv64 x.1), .slice q x.2.1.length d, .int .i64 x.2.2]) ∧ x.2.1.length ≤ d ∧ Row8 w' q x.2.1 ∧ Below w.heap.size w w'
theorem CutPost.bad {w w' : World} {x : BitVec 64 × List (BitVec 8) × Int} {k : Int} (h : Hid (x = (0#64, [], k))) (hb : Below w.heap.size w w') : CutPost w x (.returned (.tuple #[.int .u64 0, .slice none 0 0, .int .i64 k])) w' := by
  rw [h.out]; exact ⟨none, 0, rfl, Nat.le_refl _, Row8.nil _ _, hb⟩
theorem CutPost.good {w w' : World} {x : BitVec 64 × List (BitVec 8) × Int} {n : BitVec 64} {r : List (BitVec 8)} {q : Option Addr} {m d : Nat} (h : Hid (x = (n, r, 0))) (hm : Hid (r.length = m)) (hd : m ≤ d) (hr : Row8 w' q r) (hb : Below w.heap.size w w') :
    CutPost w x (.returned (.tuple #[.int .u64 (iv64 n), .slice q m d, .int .i64 0])) w' := by
  rw [h.out, ← hm.out]; exact ⟨q, d, rfl, by rw [hm.out]; exact hd, hr, hb⟩

end Go.Proofs.YthglocpbdfcfnaaDoor
namespace Go.Proofs.YthglocpbdfcfnaaDoor
open Go.RowKit

theorem cutP_short (bs : List (BitVec 8)) : (cutP bs).2.1.length ≤ bs.length := by
  cases bs with
  | nil => simp [cutP]
  | cons b r =>
    simp only [cutP]
    split
    · simp
    · split
      · simp
      · split
        · simp
        · simp; omega
def DecPost (w : World) (x : BitVec 64 × List (BitVec 8) × Int) (e : Ending) (w' : World) : Prop :=
  ∃ v, e = .returned (.tuple #[.int .u64 (iv64 x.1), v, .int .i64 x.2.2]) ∧ Own8 w' w.heap.size v x.2.1 ∧ Below w.heap.size w w'

end Go.Proofs.YthglocpbdfcfnaaDoor
namespace Go.Proofs.YthglocpbdfcfnaaDoor

theorem cutP_enc (n : BitVec 64) (r : List (BitVec 8)) : cutP (enc n ++ r) = (n, r, 0) := by
  have hv : iv64 n = (n.toNat : Int) := rfl
  have key : ∀ (f : BitVec 8) (k : Nat), widthP f = k → 0 < k → n.toNat < 2 ^ (8 * k) → ¬ iv64 n < leastP f → cutP ((f :: low n k) ++ r) = (n, r, 0) := by
    intro f k hw hk0 hn hl
    rw [List.cons_append]
    simp only [cutP, hw]
    rw [if_neg (by omega), if_neg (by simp [low_len]), numTo_low n k r hn, if_neg hl]
    simp [low_len]
  unfold enc
  split
  · rename_i h
    have hb : (n.setWidth 8).toNat = n.toNat := by rw [BitVec.toNat_setWidth]; omega
    have hw : widthP (n.setWidth 8) = 0 := by
      unfold widthP
      rw [if_neg (fun e => by rw [e] at hb; simp at hb; omega), if_neg (fun e => by rw [e] at hb; simp at hb; omega), if_neg (fun e => by rw [e] at hb; simp at hb; omega)]
    simp only [List.cons_append, List.nil_append, cutP, hw, if_true]
    congr 1
    apply BitVec.eq_of_toNat_eq
    rw [BitVec.toNat_setWidth, hb]; omega
  · split
    · exact key 253#8 2 (by decide) (by omega) (by omega) (by rw [show leastP 253#8 = 253 by decide]; omega)
    · split
      · exact key 254#8 4 (by decide) (by omega) (by omega) (by rw [show leastP 254#8 = 65536 by decide]; omega)
      · exact key 255#8 8 (by decide) (by omega) n.isLt (by rw [show leastP 255#8 = 4294967296 by decide]; omega)
theorem cutP_cut (n : BitVec 64) (j : Nat) (hj : j < (enc n).length) : cutP ((enc n).take j) = (0#64, [], 50) := by
  have key : ∀ (f : BitVec 8) (k : Nat), widthP f = k → 0 < k → j < (f :: low n k).length → cutP ((f :: low n k).take j) = (0#64, [], 50) := by
    intro f k hw hk0 hl
    cases j with
    | zero => rfl
    | succ i =>
      rw [List.take_succ_cons]
      simp only [cutP, hw]
      rw [if_neg (by omega), if_pos (by simp [low_len] at hl ⊢; omega)]
  unfold enc at hj ⊢
  split at hj
  · rename_i h
    rw [if_pos h]
    have : j = 0 := by simp at hj; omega
    subst this; rfl
  · rename_i h
    rw [if_neg h]
    split at hj
    · rename_i h2
      rw [if_pos h2]
      exact key 253#8 2 (by decide) (by omega) hj
    · rename_i h2
      rw [if_neg h2]
      split at hj
      · rename_i h3
        rw [if_pos h3]
        exact key 254#8 4 (by decide) (by omega) hj
      · rename_i h3
        rw [if_neg h3]
        exact key 255#8 8 (by decide) (by omega) hj
theorem cutP_wide (n : BitVec 64) : (cutP (255#8 :: low n 8)).2.2 = if iv64 n < 4294967296 then 51 else 0 := by
  have hw : widthP 255#8 = 8 := by decide
  have hl : leastP 255#8 = 4294967296 := by decide
  have hn := numTo_low n 8 [] n.isLt
  rw [List.append_nil] at hn
  simp only [cutP, hw, hl, hn]
  rw [if_neg (by omega), if_neg (by simp [low_len])]
  split <;> rfl
theorem enc_pos (n : BitVec 64) : 0 < (enc n).length := by
  unfold enc
  split
  · simp
  · split
    · simp
    · split <;> simp
end Go.Proofs.YthglocpbdfcfnaaDoor
namespace Go.Proofs.YthglocpbdfcfnaaDoor

/-- the text at the beginning of bytes, what stands behind, the error -/
def textP (bs : List (BitVec 8)) (most : Int) : List (BitVec 8) × List (BitVec 8) × Int :=
  if (cutP bs).2.2 ≠ 0 then ([], [], (cutP bs).2.2)
  else if most < 0 ∧ 0 < iv64 (cutP bs).1 ∨ 0 ≤ most ∧ most < iv64 (cutP bs).1 then ([], [], 4)
  else if ((cutP bs).2.1.length : Int) < iv64 (cutP bs).1 then ([], [], 50)
  else ((cutP bs).2.1.take (cutP bs).1.toNat, (cutP bs).2.1.drop (cutP bs).1.toNat, 0)
theorem textP_text (bs rest : List (BitVec 8)) (most : Int) (hb : bs.length ≤ 140737488355000) :
    textP (text bs ++ rest) most = if most < 0 ∧ 0 < bs.length ∨ 0 ≤ most ∧ most < bs.length then ([], [], 4) else (bs, rest, 0) := by
  have hv := iv64_nat bs.length (by omega)
  have hn : (BitVec.ofNat 64 bs.length).toNat = bs.length := by rw [BitVec.toNat_ofNat, Nat.mod_eq_of_lt (by omega)]
  unfold textP text
  rw [List.append_assoc, cutP_enc]
  simp only [hv, hn]
  rw [if_neg (by simp)]
  split
  · rename_i h
    rw [if_pos (by omega)]
  · rename_i h
    rw [if_neg (by rw [List.length_append]; omega), if_neg (by omega)]
    simp
end Go.Proofs.YthglocpbdfcfnaaDoor
namespace Go.Proofs.YthglocpbdfcfnaaDoor
open Go.RowKit

def ReadPost (w : World) (x : List (BitVec 8) × List (BitVec 8) × Int) (e : Ending) (w' : World) : Prop :=
  ∃ v1 v2, e = .returned (.tuple #[v1, v2, .int .i64 x.2.2]) ∧ Own8 w' w.heap.size v1 x.1 ∧ Own8 w' w.heap.size v2 x.2.1 ∧ Below w.heap.size w w'
theorem own_none (w : World) (B : Nat) : Own8 w B (.slice none 0 0) [] := ⟨rfl, .inl ⟨rfl, rfl⟩⟩
theorem ReadPost.bad {w w' : World} {x : List (BitVec 8) × List (BitVec 8) × Int} {k : Int} (h : Hid (x = ([], [], k))) (hb : Below w.heap.size w w') : ReadPost w x (.returned (.tuple #[.slice none 0 0, .slice none 0 0, .int .i64 k])) w' := by
  rw [h.out]; exact ⟨_, _, rfl, own_none _ _, own_none _ _, hb⟩
theorem ReadPost.good {w w' : World} {x : List (BitVec 8) × List (BitVec 8) × Int} {l r : List (BitVec 8)} {v1 v2 : Value} (h : Hid (x = (l, r, 0))) (h1 : Own8 w' w.heap.size v1 l) (h2 : Own8 w' w.heap.size v2 r) (hb : Below w.heap.size w w') :
    ReadPost w x (.returned (.tuple #[v1, v2, .int .i64 0])) w' := by
  rw [h.out]; exact ⟨_, _, rfl, h1, h2, hb⟩

theorem below_drew (w : World) : Below w.heap.size w w.drew := ⟨rfl, rfl, rfl, Nat.le_refl _, fun _ _ => rfl⟩

end Go.Proofs.YthglocpbdfcfnaaDoor
namespace Go.Proofs.YthglocpbdfcfnaaDoor
open Go.RowKit

/-- the number at the beginning, read in as many bytes as the first one says -/
def numW (b : BitVec 8) (r : List (BitVec 8)) : BitVec 64 := if widthP b = 0 then b.setWidth 64 else numTo r (widthP b)
theorem enc_width (b : BitVec 8) (r : List (BitVec 8)) : (enc (numW b r)).length = 1 + widthP b ↔ ¬ iv64 (numW b r) < leastP b := by
  have hv : iv64 (numW b r) = ((numW b r).toNat : Int) := rfl
  have h8 := b.isLt
  have hlt := numTo_lt r (widthP b) (by unfold widthP; repeat (first | split | omega))
  unfold numW at *
  by_cases h1 : b = 253#8
  · subst h1
    rw [show widthP 253#8 = 2 by decide] at *
    rw [show leastP 253#8 = 253 by decide] at *
    rw [if_neg (by omega)] at *
    unfold enc
    split
    · simp; omega
    · rw [if_pos (by omega)]; simp [low_len]; omega
  by_cases h2 : b = 254#8
  · subst h2
    rw [show widthP 254#8 = 4 by decide] at *
    rw [show leastP 254#8 = 65536 by decide] at *
    rw [if_neg (by omega)] at *
    unfold enc
    split
    · simp; omega
    · split
      · simp [low_len]; omega
      · rw [if_pos (by omega)]; simp [low_len]; omega
  by_cases h3 : b = 255#8
  · subst h3
    rw [show widthP 255#8 = 8 by decide] at *
    rw [show leastP 255#8 = 4294967296 by decide] at *
    rw [if_neg (by omega)] at *
    unfold enc
    split
    · simp; omega
    · split
      · simp [low_len]; omega
      · split
        · simp [low_len]; omega
        · simp [low_len]; omega
  · have hw : widthP b = 0 := by unfold widthP; simp [h1, h2, h3]
    have hl : leastP b = 0 := by unfold leastP; simp [h1, h2, h3]
    have n1 : b.toNat ≠ 253 := fun e => h1 (BitVec.eq_of_toNat_eq (by simpa using e))
    have n2 : b.toNat ≠ 254 := fun e => h2 (BitVec.eq_of_toNat_eq (by simpa using e))
    have n3 : b.toNat ≠ 255 := fun e => h3 (BitVec.eq_of_toNat_eq (by simpa using e))
    rw [hw, hl] at *
    rw [if_pos rfl] at *
    have : (b.setWidth 64).toNat = b.toNat := by rw [BitVec.toNat_setWidth]; omega
    have hv2 : iv64 (b.setWidth 64) = ((b.setWidth 64).toNat : Int) := rfl
    unfold enc
    rw [if_pos (by omega)]
    simp
    omega
theorem cutP_numW (b : BitVec 8) (r : List (BitVec 8)) : cutP (b :: r) = if r.length < widthP b then (0#64, [], 50) else if (enc (numW b r)).length = 1 + widthP b then (numW b r, r.drop (widthP b), 0) else (0#64, [], 51) := by
  have he := enc_width b r
  simp only [cutP]
  by_cases hw : widthP b = 0
  · have hl : leastP b = 0 := by
      unfold widthP at hw; unfold leastP
      split at hw <;> (try omega)
      split at hw <;> (try omega)
      split at hw <;> (try omega)
      simp [*]
    rw [if_pos hw, if_neg (by omega), if_pos (he.2 (by rw [hl]; have : iv64 (numW b r) = ((numW b r).toNat : Int) := rfl; omega)), hw]
    unfold numW; rw [if_pos hw]; rfl
  · have e : numW b r = numTo r (widthP b) := by unfold numW; rw [if_neg hw]
    rw [if_neg hw]
    split
    · rfl
    · rw [← e]
      by_cases h : iv64 (numW b r) < leastP b
      · rw [if_pos h, if_neg (by rw [he]; omega)]
      · rw [if_neg h, if_pos (he.2 h)]

end Go.Proofs.YthglocpbdfcfnaaDoor
namespace Go.Proofs.YthglocpbdfcfnaaDoor
open Go.RowKit

def RefReadPost (w : World) (x : List (BitVec 8) × List (BitVec 8) × Int) (e : Ending) (w' : World) : Prop :=
  ∃ q d v2, e = .returned (.tuple #[.slice q x.1.length d, v2, .int .i64 x.2.2]) ∧ x.1.length ≤ d ∧ Row8 w' q x.1 ∧ Own8 w' w.heap.size v2 x.2.1 ∧ Below w.heap.size w w'
theorem RefReadPost.bad {w w' : World} {x : List (BitVec 8) × List (BitVec 8) × Int} {k : Int} (h : Hid (x = ([], [], k))) (hb : Below w.heap.size w w') : RefReadPost w x (.returned (.tuple #[.slice none 0 0, .slice none 0 0, .int .i64 k])) w' := by
  rw [h.out]; exact ⟨none, 0, _, rfl, Nat.le_refl _, Row8.nil _ _, own_none _ _, hb⟩
theorem RefReadPost.good {w w' : World} {x : List (BitVec 8) × List (BitVec 8) × Int} {l r : List (BitVec 8)} {q : Option Addr} {j d : Nat} {v2 : Value} (h : Hid (x = (l, r, 0))) (hj : Hid (l.length = j)) (hd : j ≤ d) (h1 : Row8 w' q l) (h2 : Own8 w' w.heap.size v2 r) (hb : Below w.heap.size w w') :
    RefReadPost w x (.returned (.tuple #[.slice q j d, v2, .int .i64 0])) w' := by
  rw [h.out, ← hj.out]; exact ⟨_, _, _, rfl, by rw [hj.out]; exact hd, h1, h2, hb⟩

end Go.Proofs.YthglocpbdfcfnaaDoor
