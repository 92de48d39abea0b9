/- Two hashes compared; the reference's sums, said with hCells; sporranlaw01.ShaSums, ShaTwice, ShaBorders: the walks. -/
import Derived.Test.YtamcmckfommlnaaDoorShaN
import Derived.Test.YtamcmckfommlnaaDoorBytes
namespace Go.Proofs.YtamcmckfommlnaaDoor
open Go.RowKit

theorem of_fn32 {α : Type} (p : List α) (n : Nat) (h : p.length = n) : ∃ x : Fin n → α, p = List.ofFn x := by
  subst h
  exact ⟨fun i => p[i], List.ofFn_getElem.symm⟩
def hLits (l : List (BitVec 8)) : List Lit := l.map fun x => .int .u8 (iv8 x)
theorem mapM_someH {α β : Type} {f : α → Option β} (g : α → β) : ∀ (l : List α), (∀ i ∈ l, f i = some (g i)) → l.mapM f = some (l.map g)
  | [], _ => rfl
  | i :: l, h => by
    rw [List.mapM_cons, h i (by simp), mapM_someH g l (fun j hj => h j (by simp [hj]))]
    rfl
theorem litsH_u8 (d : Nat) (x : BitVec 8) : Tryd.prog.keyLits (d + 1) 5 [u8 x] = some [.int .u8 (iv8 x)] := by
  unfold Program.keyLits
  rw [Tryd.underlying5]
  simp only [wf8 x, and_self, if_true]
theorem cellsOfHash : Tryd.prog.cellsOf 25 = 32 := by kernel_rfl
theorem cellsOfByte : Tryd.prog.cellsOf 5 = 1 := by kernel_rfl
theorem hLits_of (d : Nat) (p : List (BitVec 8)) (hp : p.length = 32) : Tryd.prog.keyLits (d + 2) 25 (hCells p) = some (hLits p) := by
  unfold Program.keyLits hCells
  rw [Tryd.underlying25]
  simp only [cellsOfHash, cellsOfByte, List.length_map, hp, if_true]
  rw [mapM_someH (fun i => [Lit.int .u8 (iv8 (p[i]?.getD 0#8))]) (List.range 32) (fun i hi => by
    have hi' : i < 32 := List.mem_range.1 hi
    have hx : p[i]? = some (p[i]'(by omega)) := List.getElem?_eq_getElem (by omega)
    have e : ((p.map u8).drop (i * 1)).take 1 = [u8 (p[i]'(by omega))] := by
      rw [Nat.mul_one, List.drop_eq_getElem_cons (by simp; omega)]
      simp
    rw [e, litsH_u8, hx]
    rfl)]
  unfold hLits
  obtain ⟨x, rfl⟩ := of_fn32 p 32 hp
  kernel_rfl
theorem hash_formed (p : List (BitVec 8)) (hp : p.length = 32) : (Value.agg (hCells p).toArray).formed Tryd.prog 25 = true := by
  obtain ⟨x, rfl⟩ := of_fn32 p 32 hp
  kernel_rfl
theorem hLits_inj {p q : List (BitVec 8)} : hLits p = hLits q ↔ p = q := by
  constructor
  · intro h
    refine List.map_inj_right (f := fun x => Lit.int .u8 (iv8 x)) (fun x y hxy => ?_) |>.1 h
    injection hxy with _ h2
    exact iv8_inj.1 h2
  · rintro rfl; rfl
/-- two hashes compared -/
theorem hash_eq (p q : List (BitVec 8)) (hp : p.length = 32) (hq : q.length = 32) (w : World) :
    (Op.equalIn 10000 25 (.agg (hCells p).toArray) (.agg (hCells q).toArray)).run Tryd.prog w = .ok (decide (p = q)) w := by
  obtain ⟨r, hr, hiff⟩ := run_equalIn_deep (10000 - 3) 3 25 (by kernel_rfl) w 3 3 _ _ (hLits p) (hLits q) (hash_formed p hp) (hash_formed q hq) (hLits_of 1 p hp) (hLits_of 1 q hq)
  rw [show 10000 - 3 + 3 = 10000 by omega] at hr
  rw [hr]
  congr 1
  rw [Bool.eq_iff_iff, hiff, hLits_inj, decide_eq_true_iff]
theorem hash_same (p : List (BitVec 8)) (hp : p.length = 32) (w : World) :
    (Op.equalIn 10000 25 (.agg (hCells p).toArray) (.agg (hCells p).toArray)).run Tryd.prog w = .ok true w := by
  rw [hash_eq p p hp hp, decide_eq_true rfl]
theorem refSum_h (p : Option Addr) (n c : Nat) (bs : List (BitVec 8)) (w : World) (hr : Row8 w p bs) (hn : bs.length = n) (hbig : n ≤ 140737488355000) :
    Calls Tryd.prog 10 #[.slice p n c] w fun e w' => e = .returned (.agg (hCells (sha bs)).toArray) ∧ Below w.heap.size w w' := refSum_any p n c bs w hr hn hbig

set_option maxRecDepth 100000 in
set_option maxHeartbeats 4000000 in
theorem shaSums_walk (p : Option Addr) (n c : Nat) (bs : List (BitVec 8)) (w : World) (hK : Laid w) (hn : bs.length = n) (hl : n ≤ c) (hcb : c ≤ 140737488351232) (hr : Row8 w p bs) (hp : p = none → c = 0) :
    Calls Tryd.prog 7 #[.slice p n c] w fun e w' => e = .returned (.bool true) ∧ Below w.heap.size w w' := by
  have HN := Lib.hid hn
  have HK := Lib.hid hK
  have hKs := hK.size
  clear hn hK
  have sm1 := hash_same (sha bs) (sha_len _)
  have sm2 := hash_same (sha (sha bs)) (sha_len _)
  obtain ⟨X, hX⟩ : ∃ x, x = hCells (sha bs) := ⟨_, rfl⟩
  obtain ⟨Y, hY⟩ : ∃ x, x = hCells (sha (sha bs)) := ⟨_, rfl⟩
  rw [← hX] at sm1
  rw [← hY] at sm2
  have HX := Lib.hid hX
  have HY := Lib.hid hY
  clear hX hY
  go_enter Tryd.func7, Tryd.ntmps7
  go_wp2_with fail
  refine (clone_any p n c bs _ hr HN.out (by omega) (fun h => by have := hp h; omega)).mono ?_
  rintro e w1 ⟨v1, rfl, ho1, hb1⟩
  obtain ⟨p1, c1, rfl, hc1, hm1, hr1⟩ := ho1.row
  rw [HN.out] at hc1 ⊢
  unfold maxLen at hm1
  have hrw1 := hr.below hb1 (Nat.le_refl _)
  have hK1 := HK.out.below hb1 hKs
  clear ho1
  go_wp2_with fail
  refine (shaSum_any p1 n c1 bs _ hK1 hr1 HN.out hc1 hm1 (by omega)).mono ?_
  rw [← HX.out]
  rintro e w2 ⟨rfl, hb2⟩
  have hr12 := hr1.below hb2 (Nat.le_refl _)
  have hrw2 := hrw1.below hb2 (Nat.le_refl _)
  have hbw2 := hb1.trans (hb2.mono hb1.size)
  clear hr1 hrw1 hb1 hb2 hK1
  go_wp2_with fail
  refine (refSum_h p n c bs _ hrw2 HN.out (by omega)).mono ?_
  rw [← HX.out]
  rintro e w3 ⟨rfl, hb3⟩
  have hr13 := hr12.below hb3 (Nat.le_refl _)
  have hrw3 := hrw2.below hb3 (Nat.le_refl _)
  have hbw3 := hbw2.trans (hb3.mono hbw2.size)
  have hK3 := HK.out.below hbw3 hKs
  clear hr12 hrw2 hbw2 hb3
  go_wp2_with fail
  refine (shaDouble_any p1 n c1 bs _ hK3 hr13 HN.out hc1 hm1 (by omega)).mono ?_
  rw [← HY.out]
  rintro e w4 ⟨rfl, hb4⟩
  have hr14 := hr13.below hb4 (Nat.le_refl _)
  have hrw4 := hrw3.below hb4 (Nat.le_refl _)
  have hbw4 := hbw3.trans (hb4.mono hbw3.size)
  clear hr13 hrw3 hbw3 hb4 hK3
  go_wp2_with fail
  refine (refDouble_any p n c bs _ hrw4 HN.out (by omega)).mono ?_
  rw [← HY.out]
  rintro e w5 ⟨rfl, hb5⟩
  have hr15 := hr14.below hb5 (Nat.le_refl _)
  have hrw5 := hrw4.below hb5 (Nat.le_refl _)
  have hbw5 := hbw4.trans (hb5.mono hbw4.size)
  clear hr14 hrw4 hbw4 hb5
  go_wp2_with fail
  refine (equal_any p1 p n c1 n c bs bs _ hr15 hrw5 HN.out HN.out).mono ?_
  rintro e w6 ⟨rfl, hw6⟩
  replace hw6 := hw6.symm
  subst hw6
  rw [decide_eq_true rfl]
  go_wp2
  go_ret
  exact ⟨rfl, hbw5⟩

theorem act_put_noneD (cs : Array Value) (ds : List Deferred) (v : Value) : (Act.mk cs ds).put none v = ⟨cs, ds⟩ := rfl

set_option maxRecDepth 100000 in
set_option maxHeartbeats 4000000 in
theorem shaTwice_walk (p : Option Addr) (n c : Nat) (bs : List (BitVec 8)) (w : World) (hK : Laid w) (hn : bs.length = n) (hl : n ≤ c) (hcb : c ≤ 140737488351232) (hr : Row8 w p bs) (_hp : p = none → c = 0) :
    Calls Tryd.prog 5 #[.slice p n c] w fun e w' => e = .returned (.bool true) ∧ Below w.heap.size w w' := by
  have HN := Lib.hid hn
  have HK := Lib.hid hK
  have hKs := hK.size
  clear hn hK
  have hz := zero32
  obtain ⟨Z, hZ⟩ : ∃ Y, Y = ((noughts 32).map u8).toArray := ⟨_, rfl⟩
  rw [← hZ] at hz
  have HZ : Hid (Z.size = 32) := Lib.hid (by rw [hZ]; rfl)
  have sm1 := hash_same (sha bs) (sha_len _)
  have sm2 := hash_same (sha (sha bs)) (sha_len _)
  obtain ⟨X, hX⟩ : ∃ x, x = sha bs := ⟨_, rfl⟩
  rw [← hX] at sm1 sm2
  have hxl : X.length = 32 := by rw [hX]; exact sha_len _
  obtain ⟨Y, hY⟩ : ∃ x, x = hCells (sha X) := ⟨_, rfl⟩
  rw [← hY] at sm2
  have HX := Lib.hid hX
  have HXL := Lib.hid hxl
  have HY := Lib.hid hY
  clear hZ hX hY hxl
  go_enter Tryd.func5, Tryd.ntmps5
  go_wp2_with fail
  refine (shaSum_any p n c bs _ HK.out hr HN.out hl (by omega) (by omega)).mono ?_
  rw [← HX.out]
  rintro e w1 ⟨rfl, hb1⟩
  go_upto_region 2 with (with_reducible refine wp_store_blk (o := ⟨none, _, _, _, _, _⟩) ?_ 25 (.tmp 3) (.tmp 5) ?_ w1.heap.size 25 Z (hCells X).toArray ?_ ?_ (Blk.new w1 _ _) ?_ ?_ ?_ w.heap.size w ?_ ?_ ?_
                         · rfl
                         · rfl
                         · rfl
                         · rfl
                         · exact hCells_info' HXL.out
                         · exact HZ.out.trans (by rw [List.size_toArray, hCells, List.length_map, HXL.out])
                         · exact hCells_one X
                         · exact hb1.alloc hb1.size _
                         · exact hb1.size
                         intro w2 hx2 hb2 hg2 hs2)
  obtain ⟨G, hG⟩ : ∃ x, x = w1.heap.size := ⟨_, rfl⟩
  rw [← hG] at hx2 hg2 ⊢
  have hGlt := hx2.out.lt
  obtain ⟨T, f, hf, hsurj⟩ := worlds_below w2
  obtain ⟨t0, h0⟩ := hsurj w2.drew (Below.refl _ _).drew
  have hne : Nonempty T := ⟨t0⟩
  have H0 := Lib.hid h0
  have hcl : ∀ t w', Below (f t).heap.size (f t) w' → ∃ t', w' = f t' := fun t w' hb => hsurj w' ((hf t).trans (hb.mono (hf t).size))
  have hbl : ∀ t, Below w.heap.size w (f t) := fun t => hb2.trans ((hf t).mono hb2.size)
  have hxl : ∀ t, Blk (f t) G 25 (hCells X).toArray := fun t => hx2.out.below (hf t) hGlt
  have R1 : ∀ t, Calls Tryd.prog 13 #[.slice p n c] (f t) fun e w'' => e = .returned (.agg Y.toArray) ∧ ∃ t', w'' = f t' := fun t =>
    (shaDouble_any p n c bs (f t) (HK.out.below (hbl t) hKs) (hr.below (hbl t) (Nat.le_refl _)) HN.out hl (by omega) (by omega)).mono fun _ _ ⟨he, hb⟩ => ⟨by rw [he, ← HX.out, ← HY.out], hcl t _ hb⟩
  have R2 : ∀ t, Calls Tryd.prog 9 #[.slice (some ⟨G, 0, none⟩) 32 32] (f t) fun e w'' => e = .returned (.agg Y.toArray) ∧ ∃ t', w'' = f t' := fun t =>
    (shaSum_any (some ⟨G, 0, none⟩) 32 32 X (f t) (HK.out.below (hbl t) hKs) (hCells_row (hxl t)) HXL.out (by omega) (by omega) (by omega)).mono fun _ _ ⟨he, hb⟩ => ⟨by rw [he, ← HY.out], hcl t _ hb⟩
  have R3 : ∀ t, Calls Tryd.prog 10 #[.slice p n c] (f t) fun e w'' => e = .returned (.agg (hCells X).toArray) ∧ ∃ t', w'' = f t' := fun t =>
    (refSum_h p n c bs (f t) (hr.below (hbl t) (Nat.le_refl _)) HN.out (by omega)).mono fun _ _ ⟨he, hb⟩ => ⟨by rw [he, ← HX.out], hcl t _ hb⟩
  have hrg : ∀ t, (f t).rangeAt G 0 (hCells X) := fun t => (hxl t).rangeAt 0 _ (fun j v hv => by rw [Nat.zero_add, List.getElem?_toArray]; exact hv)
  have HRG := Lib.hid hrg
  have HBL := Lib.hid hbl
  clear h0 hcl hbl hxl hrg hr hf hsurj hx2 hg2 hs2 hb1 hb2 hG hz
  refine quiet_in f t0 H0.out (by kernel_rfl) (by kernel_rfl) ?_
  simp only [act_put_noneD]
  iterate 6 (go_big_quiet_step (first | exact R1 _ | exact R2 _))
  refine quiet_load_midS rfl 25 (.tmp 3) rfl G 0 rfl (hCells X) _ (fun w' ⟨j, hj⟩ => by rw [hj]; exact HRG.out j) Tryd.underlying25 rfl (hCells_info HXL.out) ?_
  simp only [act_put_someD, List.setIfInBounds_toArray, List.set_cons_succ, List.set_cons_zero]
  iterate 5 (go_big_quiet_step (exact R3 _))
  refine wpQuiet_nil ?_
  rintro _ ⟨t, rfl⟩
  go_wp2
  go_ret
  exact ⟨rfl, HBL.out t⟩

/-- make([]byte, j) -/
theorem make8 (w : World) (j : Nat) (h : j ≤ 140737488355328) : (Instr.makeSlice 22 (.int .i64 (j : Int)) (.int .i64 (j : Int))).run Tryd.prog w = .ok (.slice (some ⟨w.heap.size, 0, none⟩) j j) (w.alloc (.cells ((noughts j).map u8).toArray 5)) := by
  obtain ⟨i0, hi, hz0, hz1, hz2⟩ := info_parts u8info
  have hr := run_make (P := Tryd.prog) w 22 5 i0 (.int .u8 0) Tryd.underlying22 hi hz0 .i64 .i64 (j : Int) (j : Int) (by omega) (Int.le_refl _) (by rw [hz2]; omega) (by omega)
  rw [hr, Int.toNat_natCast, hz1, Nat.mul_one]
  have e : madeCells (Value.int IntKind.u8 0).cells j = ((noughts j).map u8).toArray := by
    unfold madeCells noughts
    refine Array.ext' ?_
    refine List.ext_getElem (by simp) fun i h1 h2 => ?_
    simp [Value.cells, u8, iv8, Nat.mod_one]
  rw [e]
set_option maxRecDepth 100000 in
set_option maxHeartbeats 4000000 in
theorem shaBorders_walk (x : Int) (w : World) (hK : Laid w) (_hx0 : -9223372036854775808 ≤ x) (_hx1 : x ≤ 9223372036854775807) :
    Calls Tryd.prog 3 #[.int .i64 x] w fun e w' => e = .returned (.bool true) ∧ Below w.heap.size w w' := by
  have HK := Lib.hid hK
  have hKs := hK.size
  have hw0 : 0 ≤ IntKind.u64.wrap x := by rw [wrapU64]; omega
  obtain ⟨j, hj⟩ : ∃ j : Nat, IntKind.u64.wrap x % 300 = (j : Int) := ⟨(IntKind.u64.wrap x % 300).toNat, by omega⟩
  have hj80 : j < 300 := by omega
  have HJ := Lib.hid hj
  clear hj hK
  have sm1 := hash_same (sha (noughts j)) (sha_len _)
  have sm2 := hash_same (sha []) (sha_len _)
  obtain ⟨X, hX⟩ : ∃ x, x = hCells (sha (noughts j)) := ⟨_, rfl⟩
  obtain ⟨Y, hY⟩ : ∃ x, x = hCells (sha []) := ⟨_, rfl⟩
  rw [← hX] at sm1
  rw [← hY] at sm2
  have HX := Lib.hid hX
  have HY := Lib.hid hY
  have hjl : Hid ((noughts j).length = j) := Lib.hid (noughts_len j)
  have hmk : ∀ w, (Instr.makeSlice 22 (.int .i64 (IntKind.u64.wrap x % 300)) (.int .i64 (IntKind.u64.wrap x % 300))).run Tryd.prog w = .ok (.slice (some ⟨w.heap.size, 0, none⟩) j j) (w.alloc (.cells ((noughts j).map u8).toArray 5)) := fun w => by rw [HJ.out]; exact make8 w j (by omega)
  clear hX hY
  go_enter Tryd.func3, Tryd.ntmps3
  have hb1 := (Below.refl w.heap.size w).alloc (Nat.le_refl _) (.cells ((noughts j).map u8).toArray 5)
  have hr1 : Row8 (w.alloc (.cells ((noughts j).map u8).toArray 5)) (some ⟨w.heap.size, 0, none⟩) (noughts j) := hCells_row (l := noughts j) (Blk.new w _ _)
  have hK1 := HK.out.below hb1 hKs
  obtain ⟨w1, hw1⟩ : ∃ x, x = w.alloc (.cells ((noughts j).map u8).toArray 5) := ⟨_, rfl⟩
  rw [← hw1] at hb1 hr1 hK1
  go_wp2_with fail
  rw [← hw1]
  clear hmk hw1
  refine (shaSum_any (some ⟨w.heap.size, 0, none⟩) j j (noughts j) _ hK1 hr1 hjl.out (Nat.le_refl _) (by omega) (by omega)).mono ?_
  rw [← HX.out]
  rintro e w2 ⟨rfl, hb2⟩
  have hr2 := hr1.below hb2 (Nat.le_refl _)
  have hbw2 := hb1.trans (hb2.mono hb1.size)
  clear hr1 hb1 hb2 hK1
  go_wp2_with fail
  refine (refSum_h (some ⟨w.heap.size, 0, none⟩) j j (noughts j) _ hr2 hjl.out (by omega)).mono ?_
  rw [← HX.out]
  rintro e w3 ⟨rfl, hb3⟩
  have hbw3 := hbw2.trans (hb3.mono hbw2.size)
  have hK3 := HK.out.below hbw3 hKs
  clear hr2 hbw2 hb3
  go_wp2_with fail
  refine (shaSum_any none 0 0 [] _ hK3 (Row8.nil _ _) rfl (Nat.le_refl _) (by omega) (by omega)).mono ?_
  rw [← HY.out]
  rintro e w4 ⟨rfl, hb4⟩
  have hbw4 := hbw3.trans (hb4.mono hbw3.size)
  clear hbw3 hb4 hK3
  go_wp2_with fail
  refine (refSum_h none 0 0 [] _ (Row8.nil _ _) rfl (by omega)).mono ?_
  rw [← HY.out]
  rintro e w5 ⟨rfl, hb5⟩
  have hbw5 := hbw4.trans (hb5.mono hbw4.size)
  go_wp2
  go_ret
  exact ⟨rfl, hbw5⟩
end Go.Proofs.YtamcmckfommlnaaDoor
