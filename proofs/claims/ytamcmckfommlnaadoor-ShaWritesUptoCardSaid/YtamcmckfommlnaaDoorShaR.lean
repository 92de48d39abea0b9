/- sporranlaw01.ShaWrites: the walk. -/
import Derived.Test.YtamcmckfommlnaaDoorShaQ
import Derived.Test.YtamcmckfommlnaaDoorRows8
import Derived.Test.YtamcmckfommlnaaDoorSpoil
namespace Go.Proofs.YtamcmckfommlnaaDoor
open Go.RowKit

theorem grown_via {w w1 w2 : World} {r : Option Nat} {B : Nat} (h : w.grownBy w1 r) (hb : Below B w1 w2) (hB : w.heap.size ≤ B) : w.grownBy w2 r :=
  ⟨hb.os.trans h.os, hb.tape.trans h.tape, hb.output.trans h.output, Nat.le_trans h.size hb.size, fun k hk hn => (hb.block k (by omega)).trans (h.block k hk hn)⟩
theorem Own8.keptH {w w' : World} {B H : Nat} {v : Value} {bs : List (BitVec 8)} (h : Own8 w B v bs) (hg : w.grownBy w' (some H)) (hH : H < B) : Own8 w' B v bs := by
  refine h.kept hg ?_
  cases hv : v.ownBlock with
  | none => exact .inl rfl
  | some k =>
    have := (World.ownsRow.lt h k hv).1
    exact .inr (by intro e; injection e with e; omega)
theorem Hasher.keptR {w w' : World} {H : Nat} {all : List (BitVec 8)} {r : Option Nat} (h : Hasher w H all) (hg : w.grownBy w' r) (hne : some H ≠ r) : Hasher w' H all := by
  obtain ⟨part, h1, h2, h3⟩ := h
  exact ⟨part, h1, h2, (hg.block H h3.lt hne).trans h3⟩
theorem flat_len (ls : List (List (BitVec 8))) : ls.flatten.length = lensSum ls := by
  induction ls with
  | nil => rfl
  | cons x ls ih => simp only [List.flatten_cons, List.length_append, lensSum, ih]
theorem flat_next (ls : List (List (BitVec 8))) (k : Nat) (bs : List (BitVec 8)) (h : ls[k]? = some bs) : (ls.take k).flatten ++ bs = (ls.take (k + 1)).flatten := by
  obtain ⟨hk, rfl⟩ := List.getElem?_eq_some_iff.1 h
  rw [List.take_succ_eq_append_getElem hk, List.flatten_append]
  simp

set_option maxRecDepth 100000 in
set_option maxHeartbeats 4000000 in
theorem shaWrites_walk (p : Option Addr) (n c : Nat) (ls : List (List (BitVec 8))) (w : World) (hK : Laid w) (hn : ls.length = n) (hl : n ≤ c) (hcm : c ≤ maxLen) (hr : Rows8 w p ls) (hsum : lensSum ls ≤ 1048576) :
    Calls Tryd.prog 6 #[.slice p n c] w fun e w' => e = .returned (.bool true) ∧ Below w.heap.size w w' := by
  unfold maxLen at hcm
  have HN := Lib.hid hn
  have HK := Lib.hid hK
  have hKs := hK.size
  have HR := Lib.hid hr
  have HLEN : Hid (∀ k, (ls.take k).flatten.length ≤ 1048576) := Lib.hid (fun k => by rw [flat_len]; have := lensSum_take ls k; omega)
  clear hn hK hr
  go_enter Tryd.func6, Tryd.ntmps6
  go_wp2_with fail
  refine (new_any w HK.out).mono ?_
  rintro e w1 ⟨rfl, hh1, hb1⟩
  have hlt1 := hh1.lt
  have HH1 := Lib.hid hh1
  have ho1 := Own8.nil w1 w1.heap.size
  clear hh1
  go_wp2_with fail
  go_loopw [4, 11] (fun v i wr => ∃ k : Nat, k ≤ n ∧ i = .int .i64 k ∧ Own8 wr w1.heap.size v (ls.take k).flatten ∧ Hid (Hasher wr w.heap.size (ls.take k).flatten) ∧ Below w.heap.size w wr ∧ w1.heap.size ≤ wr.heap.size) (fun _ i _ => n - (intOf i).toNat)
  case atStart => exact ⟨0, by omega, rfl, ho1, HH1, hb1, Nat.le_refl _⟩
  case round =>
    obtain ⟨k, hk, rfl, ho2, hh2, hb2, hs2⟩ := hrel
    clear ho1 HH1 hb1
    by_cases hkn : k < n
    · have hlt : (k : Int) < (n : Int) := by omega
      have hk63 : (k : Int) + 1 ≤ 9223372036854775807 := by omega
      obtain ⟨b, off, rfl, hbl, hall⟩ := HR.out (by intro e; have := HN.out; rw [e] at this; simp at this; omega)
      obtain ⟨bs, hbs⟩ : ∃ bs, ls[k]? = some bs := ⟨ls[k]'(by rw [HN.out]; exact hkn), List.getElem?_eq_getElem _⟩
      obtain ⟨v, hv, pb, m, cb, rfl, hbm, hmc, hcb, hrb, hpb⟩ := hall k bs hbs
      have hcell : wr.cell? ⟨b, off + k, none⟩ = some (.slice pb m cb) := (hb2.cell (p := ⟨b, off + k, none⟩) hbl).trans hv
      unfold maxLen at hcb
      have hm20 : m ≤ 1048576 := by
        have := lensSum_mem (List.mem_of_getElem? hbs)
        omega
      have HBM := Lib.hid hbm
      have HRB := Lib.hid hrb
      have HPB := Lib.hid hpb
      have HNX := Lib.hid (flat_next ls k bs hbs)
      clear hall hv hbs hbm hrb hpb
      by_cases hk40 : 40 < k
      · have hgt : (40 : Int) < (k : Int) := by omega
        have hs4 := hb2.size
        have hKt := HK.out.below hb2 hKs
        obtain ⟨q, L, C, rfl, HL, hLC, hC, hrA⟩ := own_open ho2
        have hLb : L ≤ 1048576 := by rw [← HL.out]; exact HLEN.out _
        obtain ⟨A, hA⟩ : ∃ x, x = (ls.take k).flatten := ⟨_, rfl⟩
        rw [← hA] at hrA HL hh2
        clear hA ho2
        have sm1 := hash_same (sha A) (sha_len _)
        obtain ⟨X, hX⟩ : ∃ x, x = hCells (sha A) := ⟨_, rfl⟩
        rw [← hX] at sm1
        have HX := Lib.hid hX
        clear hX
        go_wp2_with fail
        refine (hsum_any w.heap.size A _ hKt (by rw [HL.out]; omega) hh2.out).mono ?_
        rw [← HX.out]
        rintro e wa ⟨rfl, hba⟩
        have hha := hh2.out.below hba hh2.out.lt
        have hra := hrA.below hba (Nat.le_refl _)
        have hbwa := hb2.trans (hba.mono hs4)
        have hKa := HK.out.below hbwa hKs
        have HHA := Lib.hid hha
        clear hba hrA hha hKt
        go_wp2_with fail
        refine (shaSum_any q L C A _ hKa hra HL.out hLC hC (by omega)).mono ?_
        rw [← HX.out]
        rintro e wb ⟨rfl, hbb⟩
        have hhb := HHA.out.below hbb HHA.out.lt
        have hrb := hra.below hbb (Nat.le_refl _)
        have hbwb := hbwa.trans (hbb.mono hbwa.size)
        have hKb := HK.out.below hbwb hKs
        clear hbb hra hKa
        go_wp2_with fail
        refine (hsum_any w.heap.size A _ hKb (by rw [HL.out]; omega) hhb).mono ?_
        rw [← HX.out]
        rintro e wc ⟨rfl, hbc⟩
        have hrc := hrb.below hbc (Nat.le_refl _)
        have hbwc := hbwb.trans (hbc.mono hbwb.size)
        clear hbc hrb hKb hhb HHA
        go_wp2_with fail
        refine (refSum_h q L C A _ hrc HL.out (by omega)).mono ?_
        rw [← HX.out]
        rintro e wd ⟨rfl, hbd⟩
        have hbwd := hbwc.trans (hbd.mono hbwc.size)
        go_wp2
        go_ret
        exact ⟨rfl, hbwd⟩
      · have hgt : ¬ (40 : Int) < (k : Int) := by omega
        go_wp2_with fail
        refine (clone_any pb m cb bs _ (HRB.out.below hb2 (Nat.le_refl _)) HBM.out (by omega) (fun h => by have := HPB.out h; omega)).mono ?_
        rintro e w3 ⟨v3, rfl, ho3, hb3⟩
        obtain ⟨p3, c3, rfl, hc3, hm3, hr3, hmi3⟩ := Mine.of ho3
        rw [HBM.out] at hc3 hmi3 ⊢
        unfold maxLen at hm3
        have hbw3 := hb2.trans (hb3.mono hb2.size)
        have hh3 := hh2.out.below hb3 hh2.out.lt
        have hg3 : wr.grownBy w3 (some w.heap.size) := grown_below hb3 (Nat.le_refl _)
        have hf3 : bs ≠ [] → Far p3 w.heap.size := fun hne a ha => by
          rcases hmi3 with h0 | ⟨g, o, cs, h1, h2, h3, h4⟩
          · rw [← HBM.out] at h0; exact absurd (List.eq_nil_of_length_eq_zero h0) hne
          · rw [h1] at ha; injection ha with ha; subst ha; show g ≠ _; have := hb2.size; have := hh2.out.lt; omega
        have hK3 := HK.out.below hbw3 hKs
        have HMI3 := Lib.hid hmi3
        clear ho3 hmi3 hb3 hcell
        go_wp2_with fail
        refine (write_any w.heap.size _ bs p3 m c3 w3 hK3 hKs hr3 HBM.out hc3 hm3 hf3 (by have := HLEN.out k; omega) hh3).mono ?_
        rintro e w4 ⟨rfl, hh4, hg4⟩
        have hg4' := grown_trans hg3 hg4
        have hs4 := hg4'.size
        have hmi4 := HMI3.out.kept hg4 (by have := hh2.out.lt; omega)
        have HH4 := Lib.hid hh4
        have hwr := hh2.out.lt
        have hbw4 := hbw3.grown hg4 hbw3.size (fun k hk => by injection hk with hk; omega)
        clear hg3 hg4 hr3 hf3 hK3 hh3 hh4 HMI3 hbw3
        have hmr : MineRows (w4.alloc (.cells #[.slice p3 m c3] 22)) wr.heap.size (some ⟨w4.heap.size, 0, none⟩) 1 := by
          refine .inr ⟨w4.heap.size, 0, rfl, by simp, fun i hi => ?_⟩
          obtain rfl : i = 0 := by omega
          refine ⟨p3, m, c3, ?_, hc3, hm3, ?_, ?_⟩
          · rw [(Blk.new w4 _ _).cell]; rfl
          · exact hmi4.below ((Below.refl _ _).alloc (Nat.le_refl _) _) (Nat.le_refl _)
          · intro hm0 a ha
            rcases hmi4 with h0 | ⟨g, o, cs, h1, h2, h3, h4⟩
            · exact absurd h0 hm0
            · rw [h1] at ha; injection ha with ha; subst ha; have := h3.lt; show g ≠ _; omega
        clear hmi4
        go_wp2_with fail
        refine (spoil_any wr.heap.size (some ⟨w4.heap.size, 0, none⟩) 1 1 _ (by omega) (by omega) hmr).mono ?_
        rintro e w5 ⟨rfl, hb5⟩
        have hb45 : Below wr.heap.size w4 w5 := ((Below.refl _ _).alloc hs4 _).trans hb5
        have hg5 : wr.grownBy w5 (some w.heap.size) := grown_via hg4' hb45 (Nat.le_refl _)
        have hh5 := HH4.out.below hb45 hwr
        have ho5 := ho2.keptH hg5 hlt1
        have hbw5 := hbw4.trans (hb45.mono hb2.size)
        have hs5 := hg5.size
        have HH5 := Lib.hid hh5
        have hrb5 := HRB.out.below hbw5 (Nat.le_refl _)
        have hbnd : (ls.take k).flatten.length + bs.length ≤ 140737488355328 := by have := HLEN.out k; have := HBM.out; omega
        clear hmr hb5 hb45 hg4' HH4 hg5 hh5 ho2 hh2 hb2 hbw4
        go_wp2_with (with_reducible refine wp_append8 (o := ⟨some 29, _, _, _, _, _⟩) ?_ (.tmp 27) (.tmp 28) ?_ w1.heap.size _ _ ?_ ho5 pb m cb bs ?_ HBM.out hrb5 hbnd ?_ w.heap.size w hbw5 ?_ ?_
                     · rfl
                     · rfl
                     · rfl
                     · rfl
                     · omega
                     · omega
                     intro v6 w6 ho6 hb6 hg6 _)
        rw [HNX.out] at ho6
        have hh6 : Hasher w6 w.heap.size (ls.take (k + 1)).flatten := by
          rw [← HNX.out]
          refine HH5.out.keptR hg6 ?_
          intro e
          have := (World.ownsRow.lt ho5 _ e.symm).1
          omega
        have HH6 := Lib.hid hh6
        have hs6 := hg6.size
        have hK6 := HK.out.below hb6 hKs
        have hbig6 := HLEN.out (k + 1)
        have sm6 := hash_same (sha (ls.take (k + 1)).flatten) (sha_len _)
        obtain ⟨X, hX⟩ : ∃ x, x = hCells (sha (ls.take (k + 1)).flatten) := ⟨_, rfl⟩
        rw [← hX] at sm6
        have HX := Lib.hid hX
        clear hX hg6 ho5 HH5 hrb5 hbnd hbw5 hh6
        go_wp2_with fail
        refine (hsum_any w.heap.size _ w6 hK6 (by omega) HH6.out).mono ?_
        rw [← HX.out]
        rintro e w7 ⟨rfl, hb7⟩
        have hbw7 := hb6.trans (hb7.mono hb6.size)
        have ho7 := ho6.below hb7 (Nat.le_refl _)
        have HH7 := Lib.hid (HH6.out.below hb7 HH6.out.lt)
        have hs7 := hb7.size
        obtain ⟨q, L, C, rfl, HL, hLC, hC, hrA⟩ := own_open ho7
        clear ho6 HH6 hb6 hb7 hK6
        go_wp2_with fail
        refine (refSum_h q L C _ w7 hrA HL.out (by rw [← HL.out]; omega)).mono ?_
        rw [← HX.out]
        rintro e w8 ⟨rfl, hb8⟩
        have hbw8 := hbw7.trans (hb8.mono hbw7.size)
        have ho8 := ho7.below hb8 (Nat.le_refl _)
        have HH8 := Lib.hid (HH7.out.below hb8 HH7.out.lt)
        have hs8 := hb8.size
        clear ho7 HH7 hbw7 hb8 hrA
        go_wp2_with fail
        clear sm6
        go_roundw
        case rel => exact ⟨k + 1, by omega, by go_num, ho8, HH8, hbw8, by omega⟩
        case measure => simp [intOf]; omega
    · have hge : ¬ (k : Int) < (n : Int) := by omega
      have hs4 := hb2.size
      have hKt := HK.out.below hb2 hKs
      obtain ⟨q, L, C, rfl, HL, hLC, hC, hrA⟩ := own_open ho2
      have hLb : L ≤ 1048576 := by rw [← HL.out]; exact HLEN.out _
      obtain ⟨A, hA⟩ : ∃ x, x = (ls.take k).flatten := ⟨_, rfl⟩
      rw [← hA] at hrA HL hh2
      clear hA ho2
      have sm1 := hash_same (sha A) (sha_len _)
      obtain ⟨X, hX⟩ : ∃ x, x = hCells (sha A) := ⟨_, rfl⟩
      rw [← hX] at sm1
      have HX := Lib.hid hX
      clear hX
      go_wp2_with fail
      refine (hsum_any w.heap.size A _ hKt (by rw [HL.out]; omega) hh2.out).mono ?_
      rw [← HX.out]
      rintro e wa ⟨rfl, hba⟩
      have hha := hh2.out.below hba hh2.out.lt
      have hra := hrA.below hba (Nat.le_refl _)
      have hbwa := hb2.trans (hba.mono hs4)
      have hKa := HK.out.below hbwa hKs
      have HHA := Lib.hid hha
      clear hba hrA hha hKt
      go_wp2_with fail
      refine (shaSum_any q L C A _ hKa hra HL.out hLC hC (by omega)).mono ?_
      rw [← HX.out]
      rintro e wb ⟨rfl, hbb⟩
      have hhb := HHA.out.below hbb HHA.out.lt
      have hrb := hra.below hbb (Nat.le_refl _)
      have hbwb := hbwa.trans (hbb.mono hbwa.size)
      have hKb := HK.out.below hbwb hKs
      clear hbb hra hKa
      go_wp2_with fail
      refine (hsum_any w.heap.size A _ hKb (by rw [HL.out]; omega) hhb).mono ?_
      rw [← HX.out]
      rintro e wc ⟨rfl, hbc⟩
      have hrc := hrb.below hbc (Nat.le_refl _)
      have hbwc := hbwb.trans (hbc.mono hbwb.size)
      clear hbc hrb hKb hhb HHA
      go_wp2_with fail
      refine (refSum_h q L C A _ hrc HL.out (by omega)).mono ?_
      rw [← HX.out]
      rintro e wd ⟨rfl, hbd⟩
      have hbwd := hbwc.trans (hbd.mono hbwc.size)
      go_wp2
      go_ret
      exact ⟨rfl, hbwd⟩
end Go.Proofs.YtamcmckfommlnaaDoor
