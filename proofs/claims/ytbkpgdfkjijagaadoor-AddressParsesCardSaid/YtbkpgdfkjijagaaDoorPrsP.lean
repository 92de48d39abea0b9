/- Plain: the script of an address, as the program has it and as the reference has it. -/
import Derived.Test.YtbkpgdfkjijagaaDoorPrsR
namespace Go.Proofs.YtbkpgdfkjijagaaDoor

/-! ### a kind's script and its address -/
theorem made_yes (k : Nat) (h1 : 1 ≤ k) (h5 : k ≤ 5) (b : List (BitVec 8)) (h : b.length = kindLen k) : (made (k : Int) b).isSome = true ∧ txtK (k : Int) b = textB k b := by
  have hm := made_kind k h1 h5 b
  rw [if_pos h] at hm
  refine ⟨by rw [hm]; rfl, ?_⟩
  unfold txtK
  rw [hm]
  have hc := (cls_back (k : Int) (by omega) (by omega) b _ hm).1
  show textB (cls _).1 (cls _).2 = _
  rw [Option.getD_some, hc, Int.toNat_natCast]
theorem made_not (k : Nat) (h1 : 1 ≤ k) (h5 : k ≤ 5) (b : List (BitVec 8)) (h : ¬ b.length = kindLen k) : made (k : Int) b = none := by
  rw [made_kind k h1 h5 b, if_neg h]

/-! ### addresses with a sum -/
theorem sum_is (v : BitVec 8) (bs : List (BitVec 8)) (hl : bs.length = 25) : (b58 (sumB (v :: (bs.take 21).drop 1)) = b58 bs) ↔ (bs.head? = some v ∧ (sha (sha (bs.take 21))).take 4 = bs.drop 21) := by
  obtain ⟨c, r, rfl⟩ : ∃ c r, bs = c :: r := by
    cases bs with
    | nil => cases hl
    | cons c r => exact ⟨c, r, rfl⟩
  have hr : r.length = 24 := by simpa using hl
  have e1 : ((c :: r).take 21).drop 1 = r.take 20 := rfl
  have e2 : (c :: r).drop 21 = r.drop 20 := rfl
  have e3 : (c :: r).take 21 = c :: r.take 20 := rfl
  rw [e1, e2, e3, List.head?_cons]
  have hl20 : (r.take 20).length = 20 := by rw [List.length_take, hr]; rfl
  have hs : ((sha (sha (v :: r.take 20))).take 4).length = 4 := by rw [List.length_take, sha_len]; rfl
  have hsl : (sumB (v :: r.take 20)).length = 25 := by unfold sumB; rw [List.length_append, hs, List.length_cons, hl20]
  constructor
  · intro h
    have h2 := b58_inj (by omega) (by omega) h
    unfold sumB at h2
    rw [List.cons_append] at h2
    injection h2 with h3 h4
    have h5 := congrArg (List.drop 20) h4
    rw [List.drop_append_of_le_length (by omega), List.drop_eq_nil_of_le (by omega), List.nil_append] at h5
    exact ⟨by rw [h3], by rw [← h3]; exact h5⟩
  · rintro ⟨h1, h2⟩
    injection h1 with h1
    subst h1
    unfold sumB
    rw [h2, List.cons_append, List.take_append_drop]
theorem first_sum (s : List (BitVec 8)) : firstR s = sumP s := by
  unfold firstR sumP
  by_cases h : (unb58 s).2 = 0 ∧ (unb58 s).1.length = 25
  · obtain ⟨h0, h25⟩ := h
    have hs : b58 (unb58 s).1 = s := b58_unb58 s h0 (by omega)
    have hl : (b20 s).length = 20 := by unfold b20; rw [List.length_drop, List.length_take, h25]; rfl
    obtain ⟨y1, t1⟩ := made_yes 1 (by omega) (by omega) (b20 s) hl
    obtain ⟨y2, t2⟩ := made_yes 2 (by omega) (by omega) (b20 s) hl
    have i1 := sum_is 0#8 (unb58 s).1 h25
    have i2 := sum_is 5#8 (unb58 s).1 h25
    rw [hs] at i1 i2
    have e1 : (txtK 1 (b20 s)).1 = b58 (sumB (0#8 :: ((unb58 s).1.take 21).drop 1)) := congrArg Prod.fst t1
    have e2 : (txtK 2 (b20 s)).1 = b58 (sumB (5#8 :: ((unb58 s).1.take 21).drop 1)) := congrArg Prod.fst t2
    rw [← e1] at i1
    rw [← e2] at i2
    rw [if_pos ⟨h0, h25⟩]
    have hb : ((unb58 s).1.take 21).drop 1 = b20 s := rfl
    rw [hb]
    have g1 : some ((made 1 (b20 s)).getD []) = made 1 (b20 s) := by
      obtain ⟨x, hx⟩ := Option.isSome_iff_exists.1 (show (made 1 (b20 s)).isSome = true from y1)
      rw [hx]; rfl
    have g2 : some ((made 2 (b20 s)).getD []) = made 2 (b20 s) := by
      obtain ⟨x, hx⟩ := Option.isSome_iff_exists.1 (show (made 2 (b20 s)).isSome = true from y2)
      rw [hx]; rfl
    rw [g1, g2]
    by_cases hsum : (sha (sha ((unb58 s).1.take 21))).take 4 = (unb58 s).1.drop 21
    · rw [if_pos (show (unb58 s).2 = 0 ∧ (unb58 s).1.length = 25 ∧ _ from ⟨h0, h25, hsum⟩)]
      unfold sumK
      by_cases k0 : (unb58 s).1.head? = some 0#8
      · rw [if_pos (i1.2 ⟨k0, hsum⟩), if_pos k0]
      · rw [if_neg (fun e => k0 (i1.1 e).1), if_neg k0]
        by_cases k5 : (unb58 s).1.head? = some 5#8
        · rw [if_pos (i2.2 ⟨k5, hsum⟩), if_pos k5]
        · rw [if_neg (fun e => k5 (i2.1 e).1), if_neg k5, made_0]
    · rw [if_neg (fun e => hsum (i1.1 e).2), if_neg (fun e => hsum (i2.1 e).2), if_neg (fun e => hsum e.2.2)]
  · rw [if_neg h, if_neg (fun e => h ⟨e.1, e.2.1⟩)]

/-! ### addresses of bits -/
theorem pl32_dig (d : Nat) (h : d < 32) : pl32 (dig32 d) = d := by revert h; revert d; decide +kernel
theorem dig32_pl (c : BitVec 8) (h : pl32 c < 32) : dig32 (pl32 c) = c := by revert h; revert c; decide +kernel
theorem dig32_low : ∀ d : Fin 32, isUp (dig32 d.val) = false := by decide +kernel
theorem sixOf_le (t : Nat) : ∀ x ∈ sixOf t, x < 32 := sixOf_lt t
theorem segs_lt (v : Nat) (hv : v < 32) (b : List (BitVec 8)) (hb : b.length ≤ 100) : ∀ d ∈ segD v b ++ sixOf (segT v (segD v b)), d < 32 := fun d hd => by
  rcases List.mem_append.1 hd with h | h
  · unfold segD at h
    rcases List.mem_cons.1 h with rfl | h
    · exact hv
    · exact (fives_small b hb).2 d h
  · exact sixOf_lt _ d h
theorem seg_low (v : Nat) (hv : v < 32) (b : List (BitVec 8)) (hb : b.length ≤ 100) : (segB v b).any isUp = false := by
  rw [List.any_eq_false]
  intro c hc
  unfold segB at hc
  rcases List.mem_append.1 hc with h | h
  · have : ∀ c ∈ bc1, ¬ isUp c = true := by decide +kernel
    exact this c h
  · obtain ⟨d, hd, rfl⟩ := List.mem_map.1 h
    have := dig32_low ⟨d, segs_lt v hv b hb d hd⟩
    rw [show isUp (dig32 d) = false from this]
    decide
theorem low_id (s : List (BitVec 8)) (h : s.any isUp = false) : s.map lowC = s := by
  rw [List.any_eq_false] at h
  conv => rhs; rw [← List.map_id s]
  exact List.map_congr_left fun c hc => lowC_not c (by simpa using h c hc)
theorem maps_eq (l : List (BitVec 8)) (D : List Nat) (hD : ∀ d ∈ D, d < 32) : l = D.map dig32 ↔ (∀ c ∈ l, pl32 c < 32) ∧ l.map pl32 = D := by
  constructor
  · rintro rfl
    refine ⟨fun c hc => ?_, ?_⟩
    · obtain ⟨d, hd, rfl⟩ := List.mem_map.1 hc
      rw [pl32_dig d (hD d hd)]; exact hD d hd
    · rw [List.map_map]
      conv => rhs; rw [← List.map_id D]
      exact List.map_congr_left fun d hd => pl32_dig d (hD d hd)
  · rintro ⟨h1, rfl⟩
    rw [List.map_map]
    conv => lhs; rw [← List.map_id l]
    exact List.map_congr_left fun c hc => (dig32_pl c (h1 c hc)).symm
/-- a text is the address of a version and bytes just where its check sum is right -/
theorem seg_is (t : List (BitVec 8)) (v : Nat) (hv : v < 32) (hsh : shapeB t) (hmid : ∀ c ∈ mid t, pl32 c < 32) (h5 : (b8all (grp t)).2.2 < 5) (h0 : (b8all (grp t)).2.1 = 0) :
    segB v (ofNats (b8all (grp t)).1) = t ↔ (∀ c ∈ t.drop 3, pl32 c < 32) ∧ ((t.drop 3).map pl32).headD 0 = v ∧ ((t.drop 3).map pl32).foldl stepP ([3, 3, 0, 2, 3].foldl stepP 1) = wantN v := by
  obtain ⟨h10, h90, hbc⟩ := hsh
  have hg32 : ∀ x ∈ grp t, x < 32 := fun x hx => by
    unfold grp at hx
    obtain ⟨c, hc, rfl⟩ := List.mem_map.1 (List.mem_of_mem_drop hx)
    exact hmid c hc
  have hf := fives_back (grp t) hg32 h5 h0
  have hgl : (grp t).length ≤ 90 := by
    unfold grp
    rw [List.length_drop, List.length_map, mid_len h10]
    omega
  have hb8 := b8_ok (grp t) hg32
  have hbl : (ofNats (b8all (grp t)).1).length ≤ 100 := by
    rw [ofNats_len]
    have := hb8.len
    omega
  have hD : segD v (ofNats (b8all (grp t)).1) = v :: grp t := by
    unfold segD
    rw [nats_ofNats _ hb8.bytes, hf]
  have hlt := segs_lt v hv _ hbl
  unfold segB
  rw [hD] at hlt ⊢
  have hsplit : t = bc1 ++ t.drop 3 := by
    conv => lhs; rw [← List.take_append_drop 3 t, hbc]
  have hN : ((t.drop 3).map pl32).length = t.length - 3 := by rw [List.length_map, List.length_drop]
  have hhead : ((t.drop 3).map pl32).take (t.length - 9) = ((t.drop 3).map pl32).headD 0 :: grp t := by
    have e1 : ((t.drop 3).map pl32).take (t.length - 9) = (mid t).map pl32 := by unfold mid; rw [List.map_take]
    rw [e1]
    have hml := mid_len h10
    unfold grp
    cases hm : (mid t).map pl32 with
    | nil => have := congrArg List.length hm; rw [List.length_map, hml] at this; simp at this; omega
    | cons a r =>
      cases hN0 : (t.drop 3).map pl32 with
      | nil => rw [hN0] at hN; simp at hN; omega
      | cons a2 r2 =>
        rw [hN0] at e1
        rw [hm] at e1
        rw [show t.length - 9 = (t.length - 10) + 1 by omega, List.take_succ_cons] at e1
        injection e1 with e2 _
        rw [List.headD_cons, e2]
        rfl
  have e0 : (bc1 ++ (v :: grp t ++ sixOf (segT v (v :: grp t))).map dig32 = t) ↔ t.drop 3 = (v :: grp t ++ sixOf (segT v (v :: grp t))).map dig32 := by
    constructor
    · intro h
      have h3 := congrArg (List.drop 3) h
      exact h3.symm
    · intro h
      rw [← h]
      exact hsplit.symm
  rw [e0, maps_eq _ _ hlt]
  refine and_congr_right fun hall => ?_
  have hN32 : ∀ x ∈ (t.drop 3).map pl32, x < 32 := fun x hx => by
    obtain ⟨c, hc, rfl⟩ := List.mem_map.1 hx
    exact hall c hc
  generalize (t.drop 3).map pl32 = N at *
  have hsix : N = N.take (t.length - 9) ++ N.drop (t.length - 9) := (List.take_append_drop _ _).symm
  have h6 : (N.drop (t.length - 9)).length = 6 := by rw [List.length_drop, hN]; omega
  have h632 : ∀ x ∈ N.drop (t.length - 9), x < 32 := fun x hx => hN32 x (List.mem_of_mem_drop hx)
  rw [hhead] at hsix
  generalize N.drop (t.length - 9) = six at *
  have hv32 : N.headD 0 < 32 := by
    cases hNc : N with
    | nil => decide
    | cons a r => exact hN32 a (by rw [hNc]; exact List.mem_cons_self)
  generalize N.headD 0 = a at *
  subst hsix
  have key := six_iff ([3, 3, 0, 2, 3] ++ (v :: grp t)) six (wantN v) (wantN_lt v) (fun x hx => by
    rcases List.mem_append.1 hx with h | h
    · exact pre_lt x h
    · rcases List.mem_cons.1 h with rfl | h
      · exact hv
      · exact hg32 x h) h6 h632
  have hT : segT v (v :: grp t) = ([3, 3, 0, 2, 3] ++ (v :: grp t) ++ List.replicate 6 0).foldl stepP 1 ^^^ wantN v := rfl
  rw [hT]
  constructor
  · intro h
    have h1 := congrArg (List.take (v :: grp t).length) h
    have hla : (a :: grp t).length = (v :: grp t).length := rfl
    rw [List.take_left, ← hla, List.take_left] at h1
    injection h1 with h2 _
    subst h2
    refine ⟨rfl, ?_⟩
    rw [← List.foldl_append, ← List.append_assoc]
    refine key.2 ?_
    exact List.append_cancel_left h
  · rintro ⟨rfl, h⟩
    rw [← List.foldl_append, ← List.append_assoc] at h
    rw [← key.1 h]
def verK (k : Nat) : Nat := if k = 5 then 1 else 0
theorem try_is (k : Nat) (h3 : 3 ≤ k) (h5 : k ≤ 5) (t b : List (BitVec 8)) : tryR t b (k : Int) = if b.length = kindLen k ∧ segB (verK k) b = t then made (k : Int) b else none := by
  unfold tryR
  by_cases h : b.length = kindLen k
  · obtain ⟨y, e⟩ := made_yes k (by omega) h5 b h
    have hx : textB k b = (segB (verK k) b, 0) := by
      rcases (show k = 3 ∨ k = 4 ∨ k = 5 by omega) with rfl | rfl | rfl <;> rfl
    obtain ⟨x, hxx⟩ := Option.isSome_iff_exists.1 y
    rw [e, hx]
    by_cases hs : segB (verK k) b = t
    · rw [if_pos ⟨y, hs⟩, if_pos ⟨h, hs⟩, hxx]; rfl
    · rw [if_neg (fun e => hs e.2), if_neg (fun e => hs e.2)]
  · rw [made_not k (by omega) h5 b h, if_neg (fun e => by cases e.1), if_neg (fun e => h e.1)]
theorem try_up (t b : List (BitVec 8)) (k : Nat) (h3 : 3 ≤ k) (h5 : k ≤ 5) (hb : b.length ≤ 100) (ht : t.any isUp = true) : tryR t b (k : Int) = none := by
  rw [try_is k h3 h5, if_neg]
  rintro ⟨_, h⟩
  rw [← h, seg_low (verK k) (by unfold verK; split <;> decide) b hb] at ht
  cases ht
theorem second_up (t : List (BitVec 8)) (ht : t.any isUp = true) : secondR t = none := by
  have hb := cand_len t
  have h3 : tryR t (cand t).1 3 = none := try_up t _ 3 (by omega) (by omega) (by omega) ht
  have h4 : tryR t (cand t).1 4 = none := try_up t _ 4 (by omega) (by omega) (by omega) ht
  have h5 : tryR t (cand t).1 5 = none := try_up t _ 5 (by omega) (by omega) (by omega) ht
  unfold secondR
  rw [h3, h4, h5]
  split <;> rfl
theorem grp_is (s : List (BitVec 8)) : groupsN s = grp (lowS s) := by
  unfold groupsN bitsN grp mid
  rw [List.length_map, List.length_drop, List.map_take, show (lowS s).length - 3 - 6 = (lowS s).length - 9 by omega]
theorem kind_len (v n : Nat) : kindAt (v : Int) (n : Int) = if v = 0 ∧ n = 20 then 3 else if v = 0 ∧ n = 32 then 4 else if v = 1 ∧ n = 32 then 5 else 0 := by
  unfold kindAt
  have e0 : ((v : Int) = 0) = (v = 0) := by rw [eq_iff_iff]; omega
  have e1 : ((v : Int) = 1) = (v = 1) := by rw [eq_iff_iff]; omega
  have e2 : ((n : Int) = 20) = (n = 20) := by rw [eq_iff_iff]; omega
  have e3 : ((n : Int) = 32) = (n = 32) := by rw [eq_iff_iff]; omega
  simp only [e0, e1, e2, e3]
theorem bits_low (s : List (BitVec 8)) (hok : okS s = true) : secondR (lowS s) = bitsP s := by
  have hg := grp_is s
  have hlI : (bitsI s).length = (lowS s).length - 3 := by unfold bitsI; rw [List.length_map, List.length_drop]
  have hN : bitsN s = ((lowS s).drop 3).map pl32 := rfl
  have hbo : bitsOk s ↔ shapeB (lowS s) ∧ ∀ c ∈ (lowS s).drop 3, pl32 c < 32 := by
    unfold bitsOk shapeB
    rw [hlI]
    constructor
    · rintro ⟨_, h1, h2, h3, h4⟩; exact ⟨⟨by omega, h2, h1⟩, h4⟩
    · rintro ⟨⟨h1, h2, h3⟩, h4⟩; exact ⟨hok, h3, h2, by omega, h4⟩
  unfold bitsP
  rw [hg, hN]
  generalize lowS s = t at *
  clear hN hlI hg
  by_cases hA : (shapeB t ∧ ∀ c ∈ mid t, pl32 c < 32) ∧ (decide ((b8all (grp t)).2.2 < 5) && decide ((b8all (grp t)).2.1 = 0)) = true
  · obtain ⟨hc, hokb⟩ := hA
    have h5 : (b8all (grp t)).2.2 < 5 := by
      rw [Bool.and_eq_true] at hokb; exact of_decide_eq_true hokb.1
    have h0 : (b8all (grp t)).2.1 = 0 := by
      rw [Bool.and_eq_true] at hokb; exact of_decide_eq_true hokb.2
    have e0 := seg_is t 0 (by omega) hc.1 hc.2 h5 h0
    have e1 := seg_is t 1 (by omega) hc.1 hc.2 h5 h0
    have hcand : cand t = (ofNats (b8all (grp t)).1, true) := by unfold cand; rw [if_pos hc, hokb]
    have hln : (b8all (grp t)).1.length = (ofNats (b8all (grp t)).1).length := (ofNats_len _).symm
    unfold secondR
    rw [hcand, if_pos rfl, hokb, hln, kind_len]
    have t3 := try_is 3 (by omega) (by omega) t (ofNats (b8all (grp t)).1)
    have t4 := try_is 4 (by omega) (by omega) t (ofNats (b8all (grp t)).1)
    have t5 := try_is 5 (by omega) (by omega) t (ofNats (b8all (grp t)).1)
    have y3 := fun h => (made_yes 3 (by omega) (by omega) (ofNats (b8all (grp t)).1) h).1
    have y4 := fun h => (made_yes 4 (by omega) (by omega) (ofNats (b8all (grp t)).1) h).1
    have y5 := fun h => (made_yes 5 (by omega) (by omega) (ofNats (b8all (grp t)).1) h).1
    rw [show ((3 : Nat) : Int) = 3 from rfl, show verK 3 = 0 from rfl, show kindLen 3 = 20 from rfl] at t3
    rw [show ((4 : Nat) : Int) = 4 from rfl, show verK 4 = 0 from rfl, show kindLen 4 = 32 from rfl] at t4
    rw [show ((5 : Nat) : Int) = 5 from rfl, show verK 5 = 1 from rfl, show kindLen 5 = 32 from rfl] at t5
    rw [show ((3 : Nat) : Int) = 3 from rfl, show kindLen 3 = 20 from rfl] at y3
    rw [show ((4 : Nat) : Int) = 4 from rfl, show kindLen 4 = 32 from rfl] at y4
    rw [show ((5 : Nat) : Int) = 5 from rfl, show kindLen 5 = 32 from rfl] at y5
    rw [t3, t4, t5]
    clear t3 t4 t5 hcand hln
    generalize ofNats (b8all (grp t)).1 = b at *
    generalize List.foldl stepP (List.foldl stepP 1 [3, 3, 0, 2, 3]) (List.map pl32 (List.drop 3 t)) = F at *
    generalize (List.map pl32 (List.drop 3 t)).headD 0 = v at *
    by_cases hP : ∀ c ∈ t.drop 3, pl32 c < 32
    · have hB : bitsOk s := hbo.2 ⟨hc.1, hP⟩
      by_cases hv0 : v = 0
      · subst hv0
        have n1 : ¬ segB 1 b = t := fun e => by cases (e1.1 e).2.1
        by_cases hF : F = wantN 0
        · have p0 := e0.2 ⟨hP, rfl, hF⟩
          by_cases h20 : b.length = 20
          · obtain ⟨x, hx⟩ := Option.isSome_iff_exists.1 (y3 h20)
            simp [p0, n1, h20, hB, hF, hx]
          · by_cases h32 : b.length = 32
            · obtain ⟨x, hx⟩ := Option.isSome_iff_exists.1 (y4 h32)
              simp [p0, n1, h32, hB, hF, hx]
            · simp [p0, n1, h20, h32, hB, hF, made_0]
        · have n0 : ¬ segB 0 b = t := fun e => hF (e0.1 e).2.2
          simp [n0, n1, hF]
      · have n0 : ¬ segB 0 b = t := fun e => hv0 (e0.1 e).2.1
        by_cases hv1 : v = 1
        · subst hv1
          by_cases hF : F = wantN 1
          · have p1 := e1.2 ⟨hP, rfl, hF⟩
            by_cases h32 : b.length = 32
            · simp [n0, p1, h32, hB, hF]
            · simp [n0, p1, h32, hB, hF, made_0]
          · have n1 : ¬ segB 1 b = t := fun e => hF (e1.1 e).2.2
            simp [n0, n1, hF]
        · have n1 : ¬ segB 1 b = t := fun e => hv1 (e1.1 e).2.1
          simp [n0, n1, hv0, hv1, made_0]
    · have n0 : ¬ segB 0 b = t := fun e => hP (e0.1 e).1
      have n1 : ¬ segB 1 b = t := fun e => hP (e1.1 e).1
      have nB : ¬ bitsOk s := fun e => hP (hbo.1 e).2
      simp [n0, n1, nB]
  · have hs : secondR t = none := by
      unfold secondR cand
      by_cases hc : shapeB t ∧ ∀ c ∈ mid t, pl32 c < 32
      · rw [if_pos hc, if_neg (fun e => hA ⟨hc, e⟩)]
      · rw [if_neg hc]; rfl
    rw [hs, if_neg]
    rintro ⟨h1, h2, _⟩
    obtain ⟨h3, h4⟩ := hbo.1 h1
    exact hA ⟨⟨h3, fun c hc => h4 c (by unfold mid at hc; exact List.mem_of_mem_take hc)⟩, h2⟩
theorem bits_small (s : List (BitVec 8)) : secondR (smallR s) = bitsP s := by
  unfold smallR
  cases hl : s.any isLo with
  | false =>
    rw [if_neg (by decide)]
    exact bits_low s (by unfold okS; rw [hl]; simp)
  | true =>
    rw [if_pos rfl]
    cases hu : s.any isUp with
    | false =>
      have h := bits_low s (by unfold okS; rw [hu]; rfl)
      rw [show lowS s = s from low_id s hu] at h
      exact h
    | true =>
      rw [second_up s hu]
      unfold bitsP
      rw [if_neg]
      rintro ⟨h, _⟩
      have := h.1
      unfold okS at this
      rw [hl, hu] at this
      cases this
/-- the two are the same -/
theorem prs_same (s : List (BitVec 8)) : prsR s = prsP s := by
  unfold prsR prsP
  rw [first_sum, bits_small]
  cases sumP s with
  | some x => rfl
  | none => cases bitsP s <;> rfl
end Go.Proofs.YtbkpgdfkjijagaaDoor
