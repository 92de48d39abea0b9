/- strings.Builder: what is written into one of the call's own; strings.Repeat; bytes.TrimLeft: the contracts. -/
import Derived.Test.YtbkpgdfkjijagaaDoorAdrW
import Derived.Shelf.Strings.BuilderK
import Derived.RangeFuncWrites
namespace Go.Proofs.YtbkpgdfkjijagaaDoor
open Go.RowKit
set_option linter.unusedVariables false

def renWB : Go.Shelf.Ren := ⟨fun | 167 => 22 | n => Tryd.lays105_ren.f n, Tryd.lays105_ren.t, Tryd.lays105_ren.g⟩
set_option maxRecDepth 100000 in
theorem laysWB : Go.Proofs.Lays.n167 Tryd.prog renWB := { Tryd.lays105 with
  f167 := Tryd.func22.trans (congrArg some (by kernel_rfl)) }
set_option maxRecDepth 100000 in
theorem extraWB : Builder.Extra Tryd.prog renWB := { Tryd.Builder_Extra_105 with }
theorem laysWS : Go.Proofs.Lays.n166 Tryd.prog Tryd.lays105_ren := { Tryd.lays105 with }
/-- a builder of the call's own that holds these bytes -/
def Bld (w : World) (B b : Nat) (s : List (BitVec 8)) : Prop := Lib.IsBuilderF 38 5 B b (s.map u8) w
theorem cells_u8 (s : List (BitVec 8)) : Lib.byteCells (strB s).data.toList = s.map u8 := by
  rw [strB_data]
  unfold Lib.byteCells
  rw [List.map_map]
  refine List.map_congr_left fun b _ => ?_
  have h : ∀ b : BitVec 8, ((UInt8.ofNat (iv8 b).toNat).toNat : Int) = iv8 b := by decide +kernel
  show Value.int .u8 _ = Value.int .u8 _
  rw [h b]
theorem Bld.fresh (w : World) (B : Nat) (hB : B ≤ w.heap.size) : Bld (w.alloc (.cells #[.pointer none, .slice none 0 0] 38)) B w.heap.size [] :=
  Lib.IsBuilderF.of (.inl ⟨hB, .slice none 0 0, Blk.new w _ _, ⟨rfl, .inl ⟨rfl, rfl⟩⟩, fun e => by cases e⟩)
theorem Bld.fut {w w' : World} {B b : Nat} {s : List (BitVec 8)} (h : Bld w B b s) (hb : Below w.heap.size w w') : Bld w' B b s := by
  have key : ∀ p, Lib.BuilderAtF 38 5 B b p (s.map u8) w → Lib.BuilderAtF 38 5 B b p (s.map u8) w' := fun p ⟨h1, v, h2, h3, h4⟩ => by
    refine ⟨h1, v, (hb.block b (Array.getElem?_eq_some_iff.1 h2).1).trans h2, ?_, h4⟩
    refine ⟨h3.1, ?_⟩
    rcases h3.2 with h | ⟨g, cap, cur, fz, e, hB, hh, rest⟩
    · exact .inl h
    · exact .inr ⟨g, cap, cur, fz, e, hB, (hb.block g (Array.getElem?_eq_some_iff.1 hh).1).trans hh, rest⟩
  rcases h with h | h
  · exact .inl (key _ h)
  · exact .inr (key _ h)
/-- .. while a block that is no cells turns -/
theorem Bld.turn {w w' : World} {B b : Nat} {s : List (BitVec 8)} {row : Option Nat} (h : Bld w B b s) (hg : w.grownBy w' row) (hr : ∀ r, row = some r → ∃ o : Obj, w.heap[r]? = some o ∧ o.isCells = false) : Bld w' B b s := by
  have key : ∀ p, Lib.BuilderAtF 38 5 B b p (s.map u8) w → Lib.BuilderAtF 38 5 B b p (s.map u8) w' := fun p ⟨h1, v, h2, h3, h4⟩ => by
    refine ⟨h1, v, (hg.block b (Array.getElem?_eq_some_iff.1 h2).1 (fun e => ?_)).trans h2, World.ownsRowF.kept h3 hg ?_, h4⟩
    · obtain ⟨o, ho, hc⟩ := hr b e.symm
      rw [h2] at ho; injection ho with ho; rw [← ho] at hc; cases hc
    · cases hv : v.ownBlock with
      | none => exact .inl rfl
      | some g =>
        refine .inr fun e => ?_
        obtain ⟨c, fz, hk⟩ := Lib.ownsRowF_kind h3 g hv
        obtain ⟨o, ho, hc⟩ := hr g e.symm
        rw [hk] at ho; injection ho with ho; rw [← ho] at hc; cases hc
  rcases h with h | h
  · exact .inl (key _ h)
  · exact .inr (key _ h)
theorem wstr_any (B b : Nat) (s t : List (BitVec 8)) (w : World) (h : Bld w B b s) (hlen : s.length + t.length ≤ 140737488355328) (hB : B ≤ w.heap.size) :
    Calls Tryd.prog 19 #[.pointer (some ⟨b, 0, none⟩), .string (strB t)] w fun e w' => e = .returned (.tuple #[.int .i64 t.length, .nilIface]) ∧ Bld w' B b (s ++ t) ∧ Below B w w' ∧ Lib.OthersKept 5 (some b) w w' :=
  (Any.Builder_WriteString_k laysWS Tryd.Builder_Extra_105 B b (s.map u8) (strB t) w h (by rw [List.length_map, strB_size]; exact hlen) hB).mono fun e w' ⟨h1, h2, h3⟩ =>
    ⟨by rw [h1, strB_size], .inr (by rw [Lib.strCells_eq, cells_u8, ← List.map_append] at h2; exact h2), h3⟩
theorem wbyte_any (B b : Nat) (s : List (BitVec 8)) (c : BitVec 8) (w : World) (h : Bld w B b s) (hlen : s.length + 1 ≤ 140737488355328) (hB : B ≤ w.heap.size) :
    Calls Tryd.prog 22 #[.pointer (some ⟨b, 0, none⟩), .int .u8 (iv8 c)] w fun e w' => e = .returned .nilIface ∧ Bld w' B b (s ++ [c]) ∧ Below B w w' ∧ Lib.OthersKept 5 (some b) w w' :=
  (Any.Builder_WriteByte_k laysWB extraWB B b (s.map u8) (iv8 c) w h (by rw [List.length_map]; exact hlen) hB).mono fun e w' ⟨h1, h2, h3⟩ =>
    ⟨h1, .inr (by rw [show s.map u8 ++ [Value.int .u8 (iv8 c)] = (s ++ [c]).map u8 by rw [List.map_append]; rfl] at h2; exact h2), h3⟩
theorem bstr_any (B b : Nat) (s : List (BitVec 8)) (w : World) (h : Bld w B b s) (hB : B ≤ w.heap.size) :
    Calls Tryd.prog 23 #[.pointer (some ⟨b, 0, none⟩)] w fun e w' => e = .returned (.string (strB s)) ∧ Below B w w' ∧ Lib.OthersKept 5 (some b) w w' :=
  (Tryd.Builder_String_any_k B b (strB s).data.toList w (by rw [cells_u8]; exact h) hB).mono fun e w' ⟨h1, _, h2⟩ => ⟨h1, h2⟩
theorem rep_any (a : Nat) (w : World) (ha : a ≤ 200) :
    Calls Tryd.prog 20 #[.string ⟨#[49]⟩, .int .i64 (a : Int)] w fun e w' => e = .returned (.string (strB (List.replicate a 49#8))) ∧ Below w.heap.size w w' :=
  (Tryd.strings_Repeat ⟨#[49]⟩ a w (by omega) (by show 1 * a ≤ _; omega)).mono fun e w' ⟨h1, h2⟩ => ⟨by
    rw [h1]
    congr 2
    apply ByteArray.ext
    apply Array.toList_inj.1
    rw [strB_data]
    show Lib.repeatL [49] a = _
    rw [List.map_replicate]
    have : ∀ n, Lib.repeatL [49] n = List.replicate n (49 : UInt8) := fun n => by
      induction n with
      | zero => rfl
      | succ n ih => rw [Lib.repeatL, ih, List.replicate_succ]; rfl
    rw [this]; rfl, h2⟩

set_option maxRecDepth 100000 in
set_option maxHeartbeats 4000000 in
theorem trim0B_any (p : Option Addr) (n c : Nat) (bs : List (BitVec 8)) (w : World) (hr : Row8 w p bs) (hn : bs.length = n) (hnc : n ≤ c) (hcm : n ≤ 9223372036854775806) :
    Calls Tryd.prog 37 #[.slice p n c, .int .u8 0] w fun e w' => (∃ q m d, e = .returned (.slice q m d) ∧ Hid (m + lead (nats bs) = n)) ∧ w' = w := by
  have HN := Lib.hid hn
  have HR := Lib.hid hr
  clear hn hr
  go_enter Tryd.func37, Tryd.ntmps37
  go_wp2_with fail
  go_loop [0] (fun v => ∃ (k : Nat) (q' : Option Addr) (c' : Nat), k ≤ n ∧ v = .slice q' (n - k) c' ∧ n - k ≤ c' ∧ Hid (bs.take k = List.replicate k 0#8) ∧ Hid (Row8 w q' (bs.drop k))) (fun v => lenSl v)
  case atStart => exact ⟨0, p, c, by omega, rfl, hnc, Lib.hid rfl, HR⟩
  case round =>
    obtain ⟨k, q', c', hk, rfl, hc', htk, HR2⟩ := hrel
    have hex : (k < n ∧ bs[k]? = some 0#8) ∨ (∀ c, bs[k]? = some c → c ≠ 0#8) := by
      by_cases h : bs[k]? = some 0#8
      · exact .inl ⟨by rw [← HN.out]; exact (List.getElem?_eq_some_iff.1 h).1, h⟩
      · exact .inr fun c hc e => h (by rw [hc, e])
    obtain ⟨M, hM⟩ : ∃ M, M = n - k := ⟨_, rfl⟩
    have HM := Lib.hid hM
    rw [← hM] at hc' ⊢
    rcases hex with ⟨hkm, hc⟩ | hno
    · have hpos : (0 : Int) < (M : Int) := by omega
      obtain ⟨b, o, rfl, _, hcl⟩ := HR2.out (fun e => by have := congrArg List.length e; rw [List.length_drop, HN.out] at this; simp only [List.length_nil] at this; omega)
      have hcell : w.cell? ⟨b, o, none⟩ = some (.int .u8 0) := by
        have := hcl 0 0#8 (by rw [List.getElem?_drop]; exact hc)
        exact this
      have hcut := fun W => slice_one W (some ⟨b, o, none⟩) M c' (by omega)
      have hR2 : Hid (Row8 w (cutA (some ⟨b, o, none⟩) c' 1) (bs.drop (k + 1))) := Lib.hid (by
        have h := HR2.out.one (c := c') (by rw [List.length_drop, HN.out]; omega)
        rwa [List.drop_drop] at h)
      have htk2 : Hid (bs.take (k + 1) = List.replicate (k + 1) 0#8) := Lib.hid (by rw [List.take_add_one, hc, htk.out, List.replicate_succ']; rfl)
      obtain ⟨q2, hq2⟩ : ∃ q2, q2 = cutA (some ⟨b, o, none⟩) c' 1 := ⟨_, rfl⟩
      rw [← hq2] at hR2
      simp only [← hq2] at hcut
      have hM1 : Hid (M - 1 = n - (k + 1)) := Lib.hid (by omega)
      clear hc hcl hq2 hM
      go_wp2_with fail
      go_round
      case rel => exact ⟨k + 1, q2, c' - 1, by omega, by rw [hM1.out], by have := hM1.out; omega, htk2, hR2⟩
      case measure => simp only [lenSl]; omega
    · have HSP : Hid (M + lead (nats bs) = n) := Lib.hid (by rw [(zero_split htk.out hno).1]; omega)
      have hno2 : ∀ x, (bs.drop k)[0]? = some x → x ≠ 0#8 := fun x hx => hno x (by rw [List.getElem?_drop] at hx; exact hx)
      have HRl : Hid ((bs.drop k).length = M) := Lib.hid (by rw [List.length_drop, HN.out, HM.out])
      by_cases hkn : 0 < M
      · have hpos : (0 : Int) < (M : Int) := by omega
        have hM0 : ((M : Int) == 0) = false := by rw [beq_eq_false_iff_ne]; omega
        obtain ⟨x, hx⟩ : ∃ x, (bs.drop k)[0]? = some x := ⟨_, List.getElem?_eq_getElem (by rw [HRl.out]; exact hkn)⟩
        obtain ⟨b, o, rfl, _, hcl⟩ := HR2.out (fun e => by rw [e] at hx; cases hx)
        have hcell : w.cell? ⟨b, o, none⟩ = some (.int .u8 (iv8 x)) := by
          have := hcl 0 x hx
          exact this
        have hne : (iv8 x == 0) = false := by
          rw [show (0 : Int) = iv8 0#8 from rfl, eqv8]
          simpa using hno2 x hx
        clear hx hno hno2 hcl hM
        go_wp2_with fail
        go_ret
        exact ⟨⟨_, _, ⟨_, rfl⟩, HSP⟩, rfl⟩
      · obtain rfl : M = 0 := by omega
        clear hno hno2 hM
        go_wp2_with fail
        go_ret
        exact ⟨⟨_, _, ⟨_, rfl⟩, HSP⟩, rfl⟩
set_option maxRecDepth 100000 in
theorem trim0_any (p : Option Addr) (n c : Nat) (bs : List (BitVec 8)) (w : World) (hr : Row8 w p bs) (hn : bs.length = n) (hnc : n ≤ c) (hcm : n ≤ 9223372036854775806) :
    Calls Tryd.prog 18 #[.slice p n c, .string ⟨#[0]⟩] w fun e w' => (∃ q m d, e = .returned (.slice q m d) ∧ Hid (m + lead (nats bs) = n)) ∧ w' = w := by
  have HN := Lib.hid hn
  have HR := Lib.hid hr
  by_cases h0 : n = 0
  · subst h0
    have HL : Hid (0 + lead (nats bs) = 0) := Lib.hid (by rw [List.eq_nil_of_length_eq_zero hn]; rfl)
    clear hn hr
    go_enter Tryd.func18, Tryd.ntmps18
    go_wp2_with fail
    go_ret
    exact ⟨⟨_, _, _, rfl, HL⟩, rfl⟩
  · have hn0 : ((n : Int) == 0) = false := by rw [beq_eq_false_iff_ne]; omega
    clear hn hr h0
    go_enter Tryd.func18, Tryd.ntmps18
    go_wp2_with fail
    refine (trim0B_any p n c bs w HR.out HN.out hnc hcm).mono ?_
    rintro e w' ⟨⟨q, m, d, rfl, hm⟩, rfl⟩
    go_wp2_with fail
    go_ret
    exact ⟨⟨_, _, _, rfl, hm⟩, rfl⟩
end Go.Proofs.YtbkpgdfkjijagaaDoor
