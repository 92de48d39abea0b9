/- The law FrameBack: the walk. -/
import Derived.Test.YtikjhnbehihbjaaDoorFrmS
import Derived.Test.YtikjhnbehihbjaaDoorFrmT
import Derived.Test.YtikjhnbehihbjaaDoorRowsApp
import Derived.Test.YtikjhnbehihbjaaDoorTree
import Derived.Test.YtikjhnbehihbjaaDoorRowI
import Derived.Test.YtikjhnbehihbjaaDoorQLoad
namespace Go.Proofs.YtikjhnbehihbjaaDoor
open Go Go.RowKit
set_option linter.unusedVariables false

theorem Sl.stays2 {S : Nat → Prop} {w w' : World} {v : Value} {bs : List (BitVec 8)} (h : Sl w v bs) (hs : Stays S w w') (hn : bs ≠ [] → ∀ k, v.ownBlock = some k → ¬ S k) : Sl w' v bs := by
  obtain ⟨p, n, c, rfl, h2, h3, h4, h5, h6⟩ := h
  exact ⟨p, n, c, rfl, h2, h3, h4, h5.stays hs (fun h0 a ha => hn h0 _ (by rw [ha]; rfl)), h6⟩
/-- what a frame's payload is: bytes in a block that meets PB -/
def PayIn (w : World) (PB : Nat → Prop) (v : Value) (f : List (BitVec 8) × List (BitVec 8)) (u : Value) : Prop := Sl w u f.2 ∧ (f.2 ≠ [] → ∀ k, u.ownBlock = some k → PB k ∧ k < w.heap.size ∧ v.ownBlock ≠ some k)
theorem PayIn.stays {S : Nat → Prop} {w w' : World} {PB : Nat → Prop} {v v' : Value} {f : List (BitVec 8) × List (BitVec 8)} {u : Value} (h : PayIn w PB v f u) (hs : Stays S w w') (hC : ∀ k, PB k → k < w.heap.size → v.ownBlock ≠ some k → ¬ S k) (hv : v'.ownBlock = v.ownBlock ∨ ∃ m, v'.ownBlock = some m ∧ w.heap.size ≤ m) : PayIn w' PB v' f u :=
  ⟨h.1.stays2 hs (fun h0 k hk => hC k (h.2 h0 k hk).1 (h.2 h0 k hk).2.1 (h.2 h0 k hk).2.2), fun h0 k hk => by
    obtain ⟨a, b, c⟩ := h.2 h0 k hk
    refine ⟨a, Nat.lt_of_lt_of_le b hs.size, ?_⟩
    rcases hv with e | ⟨m, e, hm⟩
    · rw [e]; exact c
    · rw [e]; intro e; injection e with e; omega⟩
/-- a slice of frames of the call's own from B on, the frames' payloads in blocks that meet PB -/
def FrmRow2 (w : World) (B : Nat) (PB : Nat → Prop) (v : Value) (fs : Frms) : Prop :=
  ∃ vs : List Value, vs.length = fs.length ∧ w.ownsRow B 24 2 v fs.length (frmCells fs vs) ∧ ∀ (i : Nat) (f : List (BitVec 8) × List (BitVec 8)) (u : Value), fs[i]? = some f → vs[i]? = some u → PayIn w PB v f u
theorem FrmRow2.nil (w : World) (B : Nat) (PB : Nat → Prop) : FrmRow2 w B PB (.slice none 0 0) [] := ⟨[], rfl, World.ownsRow_nil w B _ 2, fun _ _ _ h => by cases h⟩
theorem FrmRow2.stays {S : Nat → Prop} {w w' : World} {B : Nat} {PB : Nat → Prop} {v : Value} {fs : Frms} (h : FrmRow2 w B PB v fs) (hs : Stays S w w') (hB : ∀ k, v.ownBlock = some k → ¬ S k) (hC : ∀ k, PB k → k < w.heap.size → ¬ S k) : FrmRow2 w' B PB v fs := by
  obtain ⟨vs, h1, h2, h3⟩ := h
  exact ⟨vs, h1, ownsRow_stays h2 hs hB, fun i f u hf hu => (h3 i f u hf hu).stays hs (fun k a b _ => hC k a b) (.inl rfl)⟩
theorem FrmRow2.fut {w w' : World} {B : Nat} {PB : Nat → Prop} {v : Value} {fs : Frms} (h : FrmRow2 w B PB v fs) (hb : Below w.heap.size w w') : FrmRow2 w' B PB v fs :=
  h.stays (Stays.of_below hb (Nat.le_refl _) (fun _ => False)) (fun _ _ h => h) (fun _ _ _ h => h)
theorem FrmRow2.lt {w : World} {B : Nat} {PB : Nat → Prop} {v : Value} {fs : Frms} (h : FrmRow2 w B PB v fs) : ∀ k, v.ownBlock = some k → B ≤ k ∧ k < w.heap.size := by
  obtain ⟨vs, h1, h2, h3⟩ := h
  exact World.ownsRow.lt h2
theorem FrmRow2.at {w : World} {B : Nat} {PB : Nat → Prop} {v : Value} {fs : Frms} (h : FrmRow2 w B PB v fs) : ∃ p c, v = .slice p fs.length c ∧ fs.length ≤ c ∧ c ≤ 9223372036854775807 ∧ FrmAt w p fs := by
  obtain ⟨vs, h1, h2, h3⟩ := h
  obtain ⟨p, c, rfl, h4, h5, _, h6⟩ := ownsRow_open h2
  refine ⟨p, c, rfl, h4, h5, fun hn => ?_⟩
  rcases h6 with h0 | ⟨g, rfl, _, hlt, hc⟩
  · exact absurd (List.eq_nil_of_length_eq_zero h0) hn
  · refine ⟨g, 0, rfl, hlt, fun i f hf => ?_⟩
    have hi : i < vs.length := by rw [h1]; exact (List.getElem?_eq_some_iff.1 hf).1
    have hu := List.getElem?_eq_getElem hi
    obtain ⟨k1, k2⟩ := frmCells_at fs vs i f _ hf hu
    rw [Nat.zero_add]
    exact ⟨_, hc _ _ k1, hc _ _ k2, (h3 i f _ hf hu).1⟩
theorem frmCells_append (fs gs : Frms) (vs us : List Value) (h : fs.length = vs.length) : frmCells (fs ++ gs) (vs ++ us) = frmCells fs vs ++ frmCells gs us := by
  unfold frmCells
  rw [List.zip_append h, List.flatMap_append]
theorem frmCells_one : ∀ (fs : Frms) (vs : List Value), (∀ v ∈ vs, v.oneCell' = true) → ∀ u ∈ frmCells fs vs, u.oneCell' = true
  | [], _, _, _, h => by cases h
  | _ :: _, [], _, _, h => by cases h
  | f :: fs, v :: vs, hv, u, h => by
    have e : frmCells (f :: fs) (v :: vs) = .string (strB f.1) :: v :: frmCells fs vs := rfl
    rw [e] at h
    rcases List.mem_cons.1 h with rfl | h
    · rfl
    · rcases List.mem_cons.1 h with rfl | h
      · exact hv _ (List.mem_cons_self ..)
      · exact frmCells_one fs vs (fun v hv' => hv v (List.mem_cons_of_mem _ hv')) u h
theorem FrmRow2.imp {w : World} {B : Nat} {PB PB' : Nat → Prop} {v : Value} {fs : Frms} (h : FrmRow2 w B PB v fs) (hp : ∀ k, PB k → k < w.heap.size → PB' k) : FrmRow2 w B PB' v fs := by
  obtain ⟨vs, h1, h2, h3⟩ := h
  exact ⟨vs, h1, h2, fun i f u hf hu => ⟨(h3 i f u hf hu).1, fun h0 k hk => by
    obtain ⟨a, b, c⟩ := (h3 i f u hf hu).2 h0 k hk
    exact ⟨hp k a b, b, c⟩⟩⟩
/-- a reader's frames as a row to be appended: their values -/
theorem FrmRows.pay {w : World} {B : Nat} {PB : Nat → Prop} {l : Value} {fs : Frms} (h : FrmRows w B l fs) (v : Value) (hp : ∀ k, B ≤ k → k < w.heap.size → PB k ∧ v.ownBlock ≠ some k) :
    ∃ us : List Value, us.length = fs.length ∧ w.ownsRow B 24 2 l fs.length (frmCells fs us) ∧ (∀ u ∈ frmCells fs us, u.oneCell' = true) ∧ ∀ (i : Nat) (f : List (BitVec 8) × List (BitVec 8)) (u : Value), fs[i]? = some f → us[i]? = some u → PayIn w PB v f u := by
  obtain ⟨vs, h1, h2, h3⟩ := h
  refine ⟨vs, h1, h2, frmCells_one fs vs (fun u hu => ?_), fun i f u hf hu => ⟨(h3 i f u hf hu).1, fun _ k hk => ?_⟩⟩
  · obtain ⟨i, hi⟩ := List.getElem?_of_mem hu
    have hlt : i < fs.length := by rw [← h1]; exact (List.getElem?_eq_some_iff.1 hi).1
    obtain ⟨⟨p, n, c, e, _⟩, _⟩ := h3 i _ u (List.getElem?_eq_getElem hlt) hi
    rw [e]; rfl
  · obtain ⟨a, b, _⟩ := (h3 i f u hf hu).2 k hk
    exact ⟨(hp k a b).1, b, (hp k a b).2⟩
/-- its block is of frames -/
theorem FrmRow2.apart {w : World} {B : Nat} {PB : Nat → Prop} {v : Value} {fs : Frms} (h : FrmRow2 w B PB v fs) {g : Nat} {t : TypeId} {cs : Array Value} (hg : Blk w g t cs) (ht : t ≠ 24) : v.ownBlock ≠ some g := by
  obtain ⟨vs, h1, h2, h3⟩ := h
  rcases h2.2 with ⟨e, _⟩ | ⟨g', cap, cur, e, _, hh, _⟩
  · rw [e]; intro e; cases e
  · rw [e]; intro e; injection e with e; subst e; exact ht (Blk.inj (t' := 24) hg hh).1
theorem own_row_apart {w : World} {B C : Nat} {PB : Nat → Prop} {v u : Value} {fs : Frms} {bs : List (BitVec 8)} (h : FrmRow2 w B PB v fs) (ho : Own8 w C u bs) : ∀ k, v.ownBlock = some k → u.ownBlock ≠ some k := fun k hk e => by
  rcases ho.2 with ⟨e', _⟩ | ⟨g', cap, cur, e', _, hh, _⟩
  · rw [e'] at e; cases e
  · rw [e'] at e; injection e with e; subst e; exact h.apart (t := 5) (cs := cur) hh (by decide) hk
/-- behind an append of frames gs (their values us) -/
theorem FrmRow2.join {w w' : World} {B : Nat} {PB : Nat → Prop} {v v' : Value} {fs gs : Frms} {vs us : List Value} (h1 : vs.length = fs.length) (g1 : us.length = gs.length)
    (h3 : ∀ (i : Nat) (f : List (BitVec 8) × List (BitVec 8)) (u : Value), fs[i]? = some f → vs[i]? = some u → PayIn w PB v f u)
    (g3 : ∀ (i : Nat) (f : List (BitVec 8) × List (BitVec 8)) (u : Value), gs[i]? = some f → us[i]? = some u → PayIn w PB v f u)
    (ho : w'.ownsRow B 24 2 v' (fs.length + gs.length) (frmCells fs vs ++ frmCells gs us)) (hg : w.grownBy w' v.ownBlock) (hl : v'.ownBlock = v.ownBlock ∨ v'.ownBlock = some w.heap.size) : FrmRow2 w' B PB v' (fs ++ gs) := by
  have hst : Stays (fun k => v.ownBlock = some k) w w' := Stays.of_grown hg (fun k hk => hk)
  have hv : v'.ownBlock = v.ownBlock ∨ ∃ m, v'.ownBlock = some m ∧ w.heap.size ≤ m := hl.imp id (fun e => ⟨_, e, Nat.le_refl _⟩)
  refine ⟨vs ++ us, by simp [h1, g1], by rw [frmCells_append _ _ _ _ h1.symm, List.length_append]; exact ho, fun i f u hf hu => ?_⟩
  rcases Nat.lt_or_ge i fs.length with hi | hi
  · rw [List.getElem?_append_left hi] at hf
    rw [List.getElem?_append_left (by omega)] at hu
    exact (h3 i f u hf hu).stays hst (fun k _ _ h => h) hv
  · rw [List.getElem?_append_right hi] at hf
    rw [List.getElem?_append_right (by omega), h1] at hu
    exact (g3 _ f u hf hu).stays hst (fun k _ _ h => h) hv

/-- the three commands -/
def nm3 : Nat → List (BitVec 8)
  | 0 => txC
  | 1 => verack
  | _ => [97#8, 98#8, 99#8, 100#8, 101#8, 102#8, 103#8, 104#8, 105#8, 106#8, 107#8, 108#8]
theorem nm3_ok : ∀ r, cmdOk (nm3 r) = true
  | 0 => by decide
  | 1 => by decide
  | _ + 2 => show cmdOk (nm3 2) = true by decide
theorem nm3_str0 : strB (nm3 0) = ⟨#[116, 120]⟩ := by decide +kernel
theorem nm3_str1 : strB (nm3 1) = ⟨#[118, 101, 114, 97, 99, 107]⟩ := by decide +kernel
theorem nm3_str2 : strB (nm3 2) = ⟨#[97, 98, 99, 100, 101, 102, 103, 104, 105, 106, 107, 108]⟩ := by decide +kernel
/-- the frames that are written -/
def frs (ls : List (List (BitVec 8))) : Nat → Frms
  | 0 => []
  | k + 1 => frs ls k ++ [(nm3 (k % 3), (ls[k]?.getD []).take 300)]
theorem frs_ok (ls : List (List (BitVec 8))) : ∀ k, okF (frs ls k)
  | 0 => fun _ h => by cases h
  | k + 1 => fun f h => by
    rcases List.mem_append.1 h with h | h
    · exact frs_ok ls k f h
    · obtain rfl := List.mem_singleton.1 h
      exact ⟨nm3_ok _, by simp only [List.length_take]; omega⟩
theorem frs_len (ls : List (List (BitVec 8))) : ∀ k, (frs ls k).length = k
  | 0 => rfl
  | k + 1 => by rw [frs, List.length_append, frs_len ls k]; rfl
theorem stream_len (ls : List (List (BitVec 8))) : ∀ k, (stream (frs ls k)).length ≤ 324 * k
  | 0 => by simp [frs, stream]
  | k + 1 => by
    have := stream_len ls k
    rw [frs, stream_append, stream_one, List.length_append, frmOut_len _ (cmdOk_len (nm3_ok _))]
    simp only [List.length_take]
    omega
set_option maxRecDepth 100000 in
set_option maxHeartbeats 16000000 in
theorem frameBack_walk (q : Option Addr) (m d : Nat) (ls : List (List (BitVec 8))) (qz : Option Addr) (mz dz : Nat) (zs : List Int) (w : World) (hK : Laid w) (hm : ls.length = m) (hmd : m ≤ d) (hd : d ≤ maxLen) (hrs : Rows8 w q ls)
    (hmz : zs.length = mz) (hmdz : mz ≤ dz) (hdz : dz ≤ maxLen) (hzs : RowI w qz zs) :
    Calls Tryd.prog 8 #[.slice q m d, .slice qz mz dz] w fun e w' => e = .returned (.bool true) ∧ Below w.heap.size w w' := by
  have HK := Lib.hid hK
  have HM := Lib.hid hm
  have HRS := Lib.hid hrs
  have HMZ := Lib.hid hmz
  have HZS := Lib.hid hzs
  have hKs := hK.size
  have hd2 : d ≤ 9223372036854775807 := by unfold maxLen at hd; omega
  have hd3 : dz ≤ 9223372036854775807 := by unfold maxLen at hdz; omega
  clear hK hm hrs hd hmz hdz hzs
  go_enter Tryd.func8, Tryd.ntmps8
  go_upto_block 0 with fail
  go_cut [5, 6] (fun all want wx => ∃ K : Nat, K ≤ 9 ∧ Hid (Own8 wx w.heap.size all (stream (frs ls K))) ∧ Hid (FrmRow2 wx w.heap.size (· < w.heap.size) want (frs ls K)) ∧ Below w.heap.size w wx)
  case first =>
    go_wp2_with fail
    go_loopw [5, 6, 23] (fun all want i wr => ∃ k : Nat, k ≤ m ∧ k ≤ 9 ∧ i = .int .i64 k ∧ Hid (Own8 wr w.heap.size all (stream (frs ls k))) ∧ Hid (FrmRow2 wr w.heap.size (· < w.heap.size) want (frs ls k)) ∧ Below w.heap.size w wr) (fun _ _ i _ => m - (intOf i).toNat)
    case atStart => exact ⟨0, by omega, by omega, rfl, Lib.hid (Own8.nil _ _), Lib.hid (FrmRow2.nil _ _ _), Below.refl _ _⟩
    case round =>
      obtain ⟨k, hk, hk9, rfl, HO, HW, hbw⟩ := hrel
      by_cases hkm : k < m
      · have hkmi : (k : Int) < (m : Int) := by omega
        obtain ⟨b, off, hqq, hlt, hall⟩ := HRS.out (by intro e; have := HM.out; rw [e] at this; simp at this; omega)
        subst hqq
        obtain ⟨x, hx⟩ : ∃ x, ls[k]? = some x := ⟨_, List.getElem?_eq_getElem (by rw [HM.out]; exact hkm)⟩
        obtain ⟨xv, hcell0, p3, n3, c3, rfl, hn3, hnc3, hc3, hr3, hp3⟩ := hall k x hx
        have hcell := (hbw.cell (p := ⟨b, off + k, none⟩) hlt).trans hcell0
        have HX := Lib.hid hx
        have HR3 := Lib.hid hr3
        have HN3 := Lib.hid hn3
        have HP3 := Lib.hid hp3
        clear hall hx hr3 hn3 hp3 hcell0
        by_cases h9 : k = 9
        · have h8 : (8 : Int) < (k : Int) := by omega
          clear h9
          go_wp2_with fail
          go_meet
          case rel => exact ⟨k, by omega, HO, HW, hbw⟩
        · have h8 : ¬ (8 : Int) < (k : Int) := by omega
          obtain ⟨n4, hn4⟩ : ∃ n, n = min n3 300 := ⟨_, rfl⟩
          have h43 : n4 ≤ n3 := by omega
          have h4b : n4 ≤ 300 := by omega
          have H4 : Hid (min (n3 : Int) 300 = (n4 : Int)) := Lib.hid (by omega)
          have hr4 : Row8 wr p3 (x.take 300) := by
            have := (HR3.out.fut hbw).take 300
            exact this
          have hl4 : (x.take 300).length = n4 := by rw [List.length_take, HN3.out]; omega
          have h4c : (n4 : Int) ≤ (c3 : Int) := by omega
          have hc3b : c3 ≤ 9223372036854775807 := by unfold maxLen at hc3; omega
          have HR4 := Lib.hid hr4
          have HL4 := Lib.hid hl4
          clear hn4 hr4 hl4 hc3
          have hkt : (k : Int).tmod 3 = ((k % 3 : Nat) : Int) := by rw [Int.tmod_eq_emod_of_nonneg (by omega)]; omega
          have hkt2 : (k : Int) % 3 = ((k % 3 : Nat) : Int) := by omega
          obtain ⟨r, hr⟩ : ∃ r, r = k % 3 := ⟨_, rfl⟩
          rw [← hr] at hkt hkt2
          have HRR := Lib.hid hr
          have hr3 : r = 0 ∨ r = 1 ∨ r = 2 := by omega
          clear hr
          clear h9
          go_upto_region 7 with fail
          have hs0 := nm3_str0
          have hs1 := nm3_str1
          have hs2 := nm3_str2
          go_cut [9] (fun s9 wx => ∃ g9 : Nat, s9 = .pointer (some ⟨g9, 0, none⟩) ∧ wr.heap.size ≤ g9 ∧ Hid (Blk wx g9 24 #[.string (strB (nm3 r)), .slice p3 n4 c3]) ∧ Below wr.heap.size wr wx)
          case first =>
            rcases hr3 with hr3 | hr3 | hr3
            · have e1 : (k : Int).tmod 3 = 0 := by rw [hkt, hr3]; rfl
              have e2 : (k : Int) % 3 = 0 := by rw [hkt2, hr3]; rfl
              subst hr3
              clear hkt hkt2
              refine region_tree (.qs [1, 2, 5, 6, 7, 8, 9] (.two 0 (.qs [3, 4, 10] (.o 11 (.o 12 (.done)))) 11 (.o 0 (.qs [3, 4, 10] (.o 12 (.done)))))) (fun W => Below wr.heap.size wr W) (by kernel_rfl) (by kernel_rfl) (Below.refl _ _).drew ?_
              refine' tree_quiet (s := 116) (A1 := _) [1, 2, 5, 6, 7, 8, 9] [_, _, _, _, _, _, _] _ rfl rfl rfl (fun W hW => ?hq1) _ (Below.refl _ _).drew (fun _ => ?hr1)
              case hq1 =>
                have h4o := H4.out
                simp only [List.getElem_toArray, List.getElem_cons_zero, List.getElem_cons_succ]
                iterate 7 (go_big_quiet_step (fail))
                refine wpQuiet_nil ?_
                rfl
              case hr1 =>
              clear e1 e2
              refine tree_two rfl rfl (fun k1 => ?gA) (fun k1 => ?gB)
              case gA =>
                have hF1 : Below wr.heap.size wr (wr.drew.drewN k1) := below_drewN (Below.refl _ _).drew k1
                generalize wr.drew.drewN k1 = W1 at hF1 ⊢
                go_wp2_with fail
                have hF2 := below_fut hF1 (below_new W1 (.cells #[.string ⟨#[116, 120]⟩, .string ⟨#[118, 101, 114, 97, 99, 107]⟩, .string ⟨#[97, 98, 99, 100, 101, 102, 103, 104, 105, 106, 107, 108]⟩] 9)) (Nat.le_refl _)
                have hA : Hid (Blk (W1.alloc (.cells #[.string ⟨#[116, 120]⟩, .string ⟨#[118, 101, 114, 97, 99, 107]⟩, .string ⟨#[97, 98, 99, 100, 101, 102, 103, 104, 105, 106, 107, 108]⟩] 9)) W1.heap.size 9 #[.string ⟨#[116, 120]⟩, .string ⟨#[118, 101, 114, 97, 99, 107]⟩, .string ⟨#[97, 98, 99, 100, 101, 102, 103, 104, 105, 106, 107, 108]⟩]) := Lib.hid (Blk.new W1 _ _)
                have hz1 := hF1.size
                generalize W1.alloc (.cells #[.string ⟨#[116, 120]⟩, .string ⟨#[118, 101, 114, 97, 99, 107]⟩, .string ⟨#[97, 98, 99, 100, 101, 102, 103, 104, 105, 106, 107, 108]⟩] 9) = W2 at hF2 hA ⊢
                generalize W1.heap.size = z at hA hz1 ⊢
                refine planQ_normal (Grows.more (fun W => Below wr.heap.size wr W ∧ Hid (Blk W z 9 #[.string ⟨#[116, 120]⟩, .string ⟨#[118, 101, 114, 97, 99, 107]⟩, .string ⟨#[97, 98, 99, 100, 101, 102, 103, 104, 105, 106, 107, 108]⟩])) (fun _ h => h.1) ⟨hF2, hA⟩ ?_)
                refine' tree_quiet (s := 116) (A1 := _) [3, 4, 10] [_, _, _] _ rfl rfl rfl (fun W hW => ?hq2) _ ⟨hF2, hA⟩ (fun _ => ?hr2)
                case hq2 =>
                  have c0 : ∀ k, (W.drewN k).cell? ⟨z, 0, none⟩ = some (.string ⟨#[116, 120]⟩) := fun k => (hW.2.out.drewN k).cell 0
                  simp only [List.getElem_toArray, List.getElem_cons_zero, List.getElem_cons_succ]
                  iterate 2 (go_big_quiet_step (fail))
                  refine quiet_build rfl 24 #[(0, .tmp 34), (1, .tmp 39)] rfl #[.string ⟨#[116, 120]⟩, .slice p3 n4 c3] ?_ ?_
                  · simp only [List.map_toArray, List.map_cons, List.map_nil]
                    exact built_frm _ _ _ _
                  refine wpQuiet_nil ?_
                  rfl
                case hr2 =>
                refine tree_one rfl fun k2 => ?_
                have hF3 := below_fut hF2 (below_draws W2 k2) (Nat.le_refl _)
                have hA3 := hA.out.drewN k2
                generalize W2.drewN k2 = W3 at hF3 hA3 ⊢
                go_wp2_with fail
                have hFd := below_fut hF3 (below_new W3 (.cells #[.string ⟨#[]⟩, .slice none 0 0] 24)) (Nat.le_refl _)
                have hYd : Hid (Blk (W3.alloc (.cells #[.string ⟨#[]⟩, .slice none 0 0] 24)) W3.heap.size 24 #[.string ⟨#[]⟩, .slice none 0 0]) := Lib.hid (Blk.new W3 _ _)
                have hAd := Lib.hid (hA3.alloc (.cells #[.string ⟨#[]⟩, .slice none 0 0] 24))
                have hyw := hF3.size
                have hzy : z ≠ W3.heap.size := Nat.ne_of_lt hA3.lt
                generalize W3.alloc (.cells #[.string ⟨#[]⟩, .slice none 0 0] 24) = We at hFd hYd hAd ⊢
                generalize W3.heap.size = y at hYd hyw hzy ⊢
                refine planQ_normal (Grows.same ⟨hFd, hAd⟩ ?_)
                have hAe := fun k => hAd.out.drewN k
                clear hF1 hF2 hF3 hA hA3
                refine tree_one rfl fun k5 => ?_
                have hFe := below_fut hFd (below_draws We k5) (Nat.le_refl _)
                have hYe := hYd.out.drewN k5
                have c0 := hYe.cell 0
                have c1 := hYe.cell 1
                have f0 := hYe.frozen 0
                have f1 := hYe.frozen 1
                simp only [List.getElem?_toArray, List.getElem?_cons_zero, List.getElem?_cons_succ] at c0 c1
                have HYe := Lib.hid hYe
                clear hYe
                have HAe := Lib.hid (hAe k5)
                generalize We.drewN k5 = Wf at hFe HYe HAe c0 c1 f0 f1 ⊢
                go_wp2_with fail
                have hbf : Below wr.heap.size wr ((Wf.setCell ⟨y, 0, none⟩ (.string ⟨#[116, 120]⟩)).setCell ⟨y, 1, none⟩ (.slice p3 n4 c3)) := (hFe.setCell (p := ⟨y, 0, none⟩) hyw _).setCell (p := ⟨y, 1, none⟩) hyw _
                have hBf : Blk ((Wf.setCell ⟨y, 0, none⟩ (.string ⟨#[116, 120]⟩)).setCell ⟨y, 1, none⟩ (.slice p3 n4 c3)) y 24 #[.string (strB (nm3 0)), .slice p3 n4 c3] := by
                  rw [nm3_str0]
                  exact (HYe.out.set 0 _).set 1 _
                refine planQ_normal (Grows.same ⟨hbf, Lib.hid (Blk.far (p := ⟨y, 1, none⟩) (Blk.far (p := ⟨y, 0, none⟩) (HAe.out) hzy _) hzy _)⟩ ?_)
                refine tree_end fun k9 => NoPanic.normal ?_
                go_wp2_with fail
                go_meet
                case rel => exact ⟨y, rfl, hyw, Lib.hid (hBf.drewN k9), below_drewN hbf k9⟩
              case gB =>
                have hF1 : Below wr.heap.size wr (wr.drew.drewN k1) := below_drewN (Below.refl _ _).drew k1
                generalize wr.drew.drewN k1 = W1 at hF1 ⊢
                go_wp2_with fail
                have hF2 := below_fut hF1 (below_new W1 (.cells #[.string ⟨#[]⟩, .slice none 0 0] 24)) (Nat.le_refl _)
                have hY2 : Hid (Blk (W1.alloc (.cells #[.string ⟨#[]⟩, .slice none 0 0] 24)) W1.heap.size 24 #[.string ⟨#[]⟩, .slice none 0 0]) := Lib.hid (Blk.new W1 _ _)
                have hyw := hF1.size
                generalize W1.alloc (.cells #[.string ⟨#[]⟩, .slice none 0 0] 24) = W2 at hF2 hY2 ⊢
                generalize W1.heap.size = y at hY2 hyw ⊢
                refine planQ_normal (Grows.same hF2 ?_)
                refine tree_one rfl fun k2 => ?_
                have hF3 := below_fut hF2 (below_draws W2 k2) (Nat.le_refl _)
                have hY3 := hY2.out.drewN k2
                generalize W2.drewN k2 = W3 at hF3 hY3 ⊢
                go_wp2_with fail
                have hFd := below_fut hF3 (below_new W3 (.cells #[.string ⟨#[116, 120]⟩, .string ⟨#[118, 101, 114, 97, 99, 107]⟩, .string ⟨#[97, 98, 99, 100, 101, 102, 103, 104, 105, 106, 107, 108]⟩] 9)) (Nat.le_refl _)
                have hAd : Hid (Blk (W3.alloc (.cells #[.string ⟨#[116, 120]⟩, .string ⟨#[118, 101, 114, 97, 99, 107]⟩, .string ⟨#[97, 98, 99, 100, 101, 102, 103, 104, 105, 106, 107, 108]⟩] 9)) W3.heap.size 9 #[.string ⟨#[116, 120]⟩, .string ⟨#[118, 101, 114, 97, 99, 107]⟩, .string ⟨#[97, 98, 99, 100, 101, 102, 103, 104, 105, 106, 107, 108]⟩]) := Lib.hid (Blk.new W3 _ _)
                have hYd := Lib.hid (hY3.alloc (.cells #[.string ⟨#[116, 120]⟩, .string ⟨#[118, 101, 114, 97, 99, 107]⟩, .string ⟨#[97, 98, 99, 100, 101, 102, 103, 104, 105, 106, 107, 108]⟩] 9))
                have hzy : W3.heap.size ≠ y := Nat.ne_of_gt hY3.lt
                generalize W3.alloc (.cells #[.string ⟨#[116, 120]⟩, .string ⟨#[118, 101, 114, 97, 99, 107]⟩, .string ⟨#[97, 98, 99, 100, 101, 102, 103, 104, 105, 106, 107, 108]⟩] 9) = We at hFd hYd hAd ⊢
                generalize W3.heap.size = z at hAd hzy ⊢
                refine planQ_normal (Grows.more (fun W => Below wr.heap.size wr W ∧ Hid (Blk W z 9 #[.string ⟨#[116, 120]⟩, .string ⟨#[118, 101, 114, 97, 99, 107]⟩, .string ⟨#[97, 98, 99, 100, 101, 102, 103, 104, 105, 106, 107, 108]⟩])) (fun _ h => h.1) ⟨hFd, hAd⟩ ?_)
                have hAe := fun k => hAd.out.drewN k
                clear hF1 hF2 hF3 hY2 hY3
                refine' tree_quiet (s := 116) (A1 := _) [3, 4, 10] [_, _, _] _ rfl rfl rfl (fun W hW => ?hq2) _ ⟨hFd, hAd⟩ (fun _ => ?hr2)
                case hq2 =>
                  have c0 : ∀ k, (W.drewN k).cell? ⟨z, 0, none⟩ = some (.string ⟨#[116, 120]⟩) := fun k => (hW.2.out.drewN k).cell 0
                  simp only [List.getElem_toArray, List.getElem_cons_zero, List.getElem_cons_succ]
                  iterate 2 (go_big_quiet_step (fail))
                  refine quiet_build rfl 24 #[(0, .tmp 34), (1, .tmp 39)] rfl #[.string ⟨#[116, 120]⟩, .slice p3 n4 c3] ?_ ?_
                  · simp only [List.map_toArray, List.map_cons, List.map_nil]
                    exact built_frm _ _ _ _
                  refine wpQuiet_nil ?_
                  rfl
                case hr2 =>
                refine tree_one rfl fun k5 => ?_
                have hFe := below_fut hFd (below_draws We k5) (Nat.le_refl _)
                have hYe := hYd.out.drewN k5
                have c0 := hYe.cell 0
                have c1 := hYe.cell 1
                have f0 := hYe.frozen 0
                have f1 := hYe.frozen 1
                simp only [List.getElem?_toArray, List.getElem?_cons_zero, List.getElem?_cons_succ] at c0 c1
                have HYe := Lib.hid hYe
                clear hYe
                have HAe := Lib.hid (hAe k5)
                generalize We.drewN k5 = Wf at hFe HYe HAe c0 c1 f0 f1 ⊢
                go_wp2_with fail
                have hbf : Below wr.heap.size wr ((Wf.setCell ⟨y, 0, none⟩ (.string ⟨#[116, 120]⟩)).setCell ⟨y, 1, none⟩ (.slice p3 n4 c3)) := (hFe.setCell (p := ⟨y, 0, none⟩) hyw _).setCell (p := ⟨y, 1, none⟩) hyw _
                have hBf : Blk ((Wf.setCell ⟨y, 0, none⟩ (.string ⟨#[116, 120]⟩)).setCell ⟨y, 1, none⟩ (.slice p3 n4 c3)) y 24 #[.string (strB (nm3 0)), .slice p3 n4 c3] := by
                  rw [nm3_str0]
                  exact (HYe.out.set 0 _).set 1 _
                refine planQ_normal (Grows.same ⟨hbf, Lib.hid (Blk.far (p := ⟨y, 1, none⟩) (Blk.far (p := ⟨y, 0, none⟩) (HAe.out) hzy _) hzy _)⟩ ?_)
                refine tree_end fun k9 => NoPanic.normal ?_
                go_wp2_with fail
                go_meet
                case rel => exact ⟨y, rfl, hyw, Lib.hid (hBf.drewN k9), below_drewN hbf k9⟩
            · have e1 : (k : Int).tmod 3 = 1 := by rw [hkt, hr3]; rfl
              have e2 : (k : Int) % 3 = 1 := by rw [hkt2, hr3]; rfl
              subst hr3
              clear hkt hkt2
              refine region_tree (.qs [1, 2, 5, 6, 7, 8, 9] (.two 0 (.qs [3, 4, 10] (.o 11 (.o 12 (.done)))) 11 (.o 0 (.qs [3, 4, 10] (.o 12 (.done)))))) (fun W => Below wr.heap.size wr W) (by kernel_rfl) (by kernel_rfl) (Below.refl _ _).drew ?_
              refine' tree_quiet (s := 116) (A1 := _) [1, 2, 5, 6, 7, 8, 9] [_, _, _, _, _, _, _] _ rfl rfl rfl (fun W hW => ?hq1) _ (Below.refl _ _).drew (fun _ => ?hr1)
              case hq1 =>
                have h4o := H4.out
                simp only [List.getElem_toArray, List.getElem_cons_zero, List.getElem_cons_succ]
                iterate 7 (go_big_quiet_step (fail))
                refine wpQuiet_nil ?_
                rfl
              case hr1 =>
              clear e1 e2
              refine tree_two rfl rfl (fun k1 => ?gA) (fun k1 => ?gB)
              case gA =>
                have hF1 : Below wr.heap.size wr (wr.drew.drewN k1) := below_drewN (Below.refl _ _).drew k1
                generalize wr.drew.drewN k1 = W1 at hF1 ⊢
                go_wp2_with fail
                have hF2 := below_fut hF1 (below_new W1 (.cells #[.string ⟨#[116, 120]⟩, .string ⟨#[118, 101, 114, 97, 99, 107]⟩, .string ⟨#[97, 98, 99, 100, 101, 102, 103, 104, 105, 106, 107, 108]⟩] 9)) (Nat.le_refl _)
                have hA : Hid (Blk (W1.alloc (.cells #[.string ⟨#[116, 120]⟩, .string ⟨#[118, 101, 114, 97, 99, 107]⟩, .string ⟨#[97, 98, 99, 100, 101, 102, 103, 104, 105, 106, 107, 108]⟩] 9)) W1.heap.size 9 #[.string ⟨#[116, 120]⟩, .string ⟨#[118, 101, 114, 97, 99, 107]⟩, .string ⟨#[97, 98, 99, 100, 101, 102, 103, 104, 105, 106, 107, 108]⟩]) := Lib.hid (Blk.new W1 _ _)
                have hz1 := hF1.size
                generalize W1.alloc (.cells #[.string ⟨#[116, 120]⟩, .string ⟨#[118, 101, 114, 97, 99, 107]⟩, .string ⟨#[97, 98, 99, 100, 101, 102, 103, 104, 105, 106, 107, 108]⟩] 9) = W2 at hF2 hA ⊢
                generalize W1.heap.size = z at hA hz1 ⊢
                refine planQ_normal (Grows.more (fun W => Below wr.heap.size wr W ∧ Hid (Blk W z 9 #[.string ⟨#[116, 120]⟩, .string ⟨#[118, 101, 114, 97, 99, 107]⟩, .string ⟨#[97, 98, 99, 100, 101, 102, 103, 104, 105, 106, 107, 108]⟩])) (fun _ h => h.1) ⟨hF2, hA⟩ ?_)
                refine' tree_quiet (s := 116) (A1 := _) [3, 4, 10] [_, _, _] _ rfl rfl rfl (fun W hW => ?hq2) _ ⟨hF2, hA⟩ (fun _ => ?hr2)
                case hq2 =>
                  have c0 : ∀ k, (W.drewN k).cell? ⟨z, 1, none⟩ = some (.string ⟨#[118, 101, 114, 97, 99, 107]⟩) := fun k => (hW.2.out.drewN k).cell 1
                  simp only [List.getElem_toArray, List.getElem_cons_zero, List.getElem_cons_succ]
                  iterate 2 (go_big_quiet_step (fail))
                  refine quiet_build rfl 24 #[(0, .tmp 34), (1, .tmp 39)] rfl #[.string ⟨#[118, 101, 114, 97, 99, 107]⟩, .slice p3 n4 c3] ?_ ?_
                  · simp only [List.map_toArray, List.map_cons, List.map_nil]
                    exact built_frm _ _ _ _
                  refine wpQuiet_nil ?_
                  rfl
                case hr2 =>
                refine tree_one rfl fun k2 => ?_
                have hF3 := below_fut hF2 (below_draws W2 k2) (Nat.le_refl _)
                have hA3 := hA.out.drewN k2
                generalize W2.drewN k2 = W3 at hF3 hA3 ⊢
                go_wp2_with fail
                have hFd := below_fut hF3 (below_new W3 (.cells #[.string ⟨#[]⟩, .slice none 0 0] 24)) (Nat.le_refl _)
                have hYd : Hid (Blk (W3.alloc (.cells #[.string ⟨#[]⟩, .slice none 0 0] 24)) W3.heap.size 24 #[.string ⟨#[]⟩, .slice none 0 0]) := Lib.hid (Blk.new W3 _ _)
                have hAd := Lib.hid (hA3.alloc (.cells #[.string ⟨#[]⟩, .slice none 0 0] 24))
                have hyw := hF3.size
                have hzy : z ≠ W3.heap.size := Nat.ne_of_lt hA3.lt
                generalize W3.alloc (.cells #[.string ⟨#[]⟩, .slice none 0 0] 24) = We at hFd hYd hAd ⊢
                generalize W3.heap.size = y at hYd hyw hzy ⊢
                refine planQ_normal (Grows.same ⟨hFd, hAd⟩ ?_)
                have hAe := fun k => hAd.out.drewN k
                clear hF1 hF2 hF3 hA hA3
                refine tree_one rfl fun k5 => ?_
                have hFe := below_fut hFd (below_draws We k5) (Nat.le_refl _)
                have hYe := hYd.out.drewN k5
                have c0 := hYe.cell 0
                have c1 := hYe.cell 1
                have f0 := hYe.frozen 0
                have f1 := hYe.frozen 1
                simp only [List.getElem?_toArray, List.getElem?_cons_zero, List.getElem?_cons_succ] at c0 c1
                have HYe := Lib.hid hYe
                clear hYe
                have HAe := Lib.hid (hAe k5)
                generalize We.drewN k5 = Wf at hFe HYe HAe c0 c1 f0 f1 ⊢
                go_wp2_with fail
                have hbf : Below wr.heap.size wr ((Wf.setCell ⟨y, 0, none⟩ (.string ⟨#[118, 101, 114, 97, 99, 107]⟩)).setCell ⟨y, 1, none⟩ (.slice p3 n4 c3)) := (hFe.setCell (p := ⟨y, 0, none⟩) hyw _).setCell (p := ⟨y, 1, none⟩) hyw _
                have hBf : Blk ((Wf.setCell ⟨y, 0, none⟩ (.string ⟨#[118, 101, 114, 97, 99, 107]⟩)).setCell ⟨y, 1, none⟩ (.slice p3 n4 c3)) y 24 #[.string (strB (nm3 1)), .slice p3 n4 c3] := by
                  rw [nm3_str1]
                  exact (HYe.out.set 0 _).set 1 _
                refine planQ_normal (Grows.same ⟨hbf, Lib.hid (Blk.far (p := ⟨y, 1, none⟩) (Blk.far (p := ⟨y, 0, none⟩) (HAe.out) hzy _) hzy _)⟩ ?_)
                refine tree_end fun k9 => NoPanic.normal ?_
                go_wp2_with fail
                go_meet
                case rel => exact ⟨y, rfl, hyw, Lib.hid (hBf.drewN k9), below_drewN hbf k9⟩
              case gB =>
                have hF1 : Below wr.heap.size wr (wr.drew.drewN k1) := below_drewN (Below.refl _ _).drew k1
                generalize wr.drew.drewN k1 = W1 at hF1 ⊢
                go_wp2_with fail
                have hF2 := below_fut hF1 (below_new W1 (.cells #[.string ⟨#[]⟩, .slice none 0 0] 24)) (Nat.le_refl _)
                have hY2 : Hid (Blk (W1.alloc (.cells #[.string ⟨#[]⟩, .slice none 0 0] 24)) W1.heap.size 24 #[.string ⟨#[]⟩, .slice none 0 0]) := Lib.hid (Blk.new W1 _ _)
                have hyw := hF1.size
                generalize W1.alloc (.cells #[.string ⟨#[]⟩, .slice none 0 0] 24) = W2 at hF2 hY2 ⊢
                generalize W1.heap.size = y at hY2 hyw ⊢
                refine planQ_normal (Grows.same hF2 ?_)
                refine tree_one rfl fun k2 => ?_
                have hF3 := below_fut hF2 (below_draws W2 k2) (Nat.le_refl _)
                have hY3 := hY2.out.drewN k2
                generalize W2.drewN k2 = W3 at hF3 hY3 ⊢
                go_wp2_with fail
                have hFd := below_fut hF3 (below_new W3 (.cells #[.string ⟨#[116, 120]⟩, .string ⟨#[118, 101, 114, 97, 99, 107]⟩, .string ⟨#[97, 98, 99, 100, 101, 102, 103, 104, 105, 106, 107, 108]⟩] 9)) (Nat.le_refl _)
                have hAd : Hid (Blk (W3.alloc (.cells #[.string ⟨#[116, 120]⟩, .string ⟨#[118, 101, 114, 97, 99, 107]⟩, .string ⟨#[97, 98, 99, 100, 101, 102, 103, 104, 105, 106, 107, 108]⟩] 9)) W3.heap.size 9 #[.string ⟨#[116, 120]⟩, .string ⟨#[118, 101, 114, 97, 99, 107]⟩, .string ⟨#[97, 98, 99, 100, 101, 102, 103, 104, 105, 106, 107, 108]⟩]) := Lib.hid (Blk.new W3 _ _)
                have hYd := Lib.hid (hY3.alloc (.cells #[.string ⟨#[116, 120]⟩, .string ⟨#[118, 101, 114, 97, 99, 107]⟩, .string ⟨#[97, 98, 99, 100, 101, 102, 103, 104, 105, 106, 107, 108]⟩] 9))
                have hzy : W3.heap.size ≠ y := Nat.ne_of_gt hY3.lt
                generalize W3.alloc (.cells #[.string ⟨#[116, 120]⟩, .string ⟨#[118, 101, 114, 97, 99, 107]⟩, .string ⟨#[97, 98, 99, 100, 101, 102, 103, 104, 105, 106, 107, 108]⟩] 9) = We at hFd hYd hAd ⊢
                generalize W3.heap.size = z at hAd hzy ⊢
                refine planQ_normal (Grows.more (fun W => Below wr.heap.size wr W ∧ Hid (Blk W z 9 #[.string ⟨#[116, 120]⟩, .string ⟨#[118, 101, 114, 97, 99, 107]⟩, .string ⟨#[97, 98, 99, 100, 101, 102, 103, 104, 105, 106, 107, 108]⟩])) (fun _ h => h.1) ⟨hFd, hAd⟩ ?_)
                have hAe := fun k => hAd.out.drewN k
                clear hF1 hF2 hF3 hY2 hY3
                refine' tree_quiet (s := 116) (A1 := _) [3, 4, 10] [_, _, _] _ rfl rfl rfl (fun W hW => ?hq2) _ ⟨hFd, hAd⟩ (fun _ => ?hr2)
                case hq2 =>
                  have c0 : ∀ k, (W.drewN k).cell? ⟨z, 1, none⟩ = some (.string ⟨#[118, 101, 114, 97, 99, 107]⟩) := fun k => (hW.2.out.drewN k).cell 1
                  simp only [List.getElem_toArray, List.getElem_cons_zero, List.getElem_cons_succ]
                  iterate 2 (go_big_quiet_step (fail))
                  refine quiet_build rfl 24 #[(0, .tmp 34), (1, .tmp 39)] rfl #[.string ⟨#[118, 101, 114, 97, 99, 107]⟩, .slice p3 n4 c3] ?_ ?_
                  · simp only [List.map_toArray, List.map_cons, List.map_nil]
                    exact built_frm _ _ _ _
                  refine wpQuiet_nil ?_
                  rfl
                case hr2 =>
                refine tree_one rfl fun k5 => ?_
                have hFe := below_fut hFd (below_draws We k5) (Nat.le_refl _)
                have hYe := hYd.out.drewN k5
                have c0 := hYe.cell 0
                have c1 := hYe.cell 1
                have f0 := hYe.frozen 0
                have f1 := hYe.frozen 1
                simp only [List.getElem?_toArray, List.getElem?_cons_zero, List.getElem?_cons_succ] at c0 c1
                have HYe := Lib.hid hYe
                clear hYe
                have HAe := Lib.hid (hAe k5)
                generalize We.drewN k5 = Wf at hFe HYe HAe c0 c1 f0 f1 ⊢
                go_wp2_with fail
                have hbf : Below wr.heap.size wr ((Wf.setCell ⟨y, 0, none⟩ (.string ⟨#[118, 101, 114, 97, 99, 107]⟩)).setCell ⟨y, 1, none⟩ (.slice p3 n4 c3)) := (hFe.setCell (p := ⟨y, 0, none⟩) hyw _).setCell (p := ⟨y, 1, none⟩) hyw _
                have hBf : Blk ((Wf.setCell ⟨y, 0, none⟩ (.string ⟨#[118, 101, 114, 97, 99, 107]⟩)).setCell ⟨y, 1, none⟩ (.slice p3 n4 c3)) y 24 #[.string (strB (nm3 1)), .slice p3 n4 c3] := by
                  rw [nm3_str1]
                  exact (HYe.out.set 0 _).set 1 _
                refine planQ_normal (Grows.same ⟨hbf, Lib.hid (Blk.far (p := ⟨y, 1, none⟩) (Blk.far (p := ⟨y, 0, none⟩) (HAe.out) hzy _) hzy _)⟩ ?_)
                refine tree_end fun k9 => NoPanic.normal ?_
                go_wp2_with fail
                go_meet
                case rel => exact ⟨y, rfl, hyw, Lib.hid (hBf.drewN k9), below_drewN hbf k9⟩
            · have e1 : (k : Int).tmod 3 = 2 := by rw [hkt, hr3]; rfl
              have e2 : (k : Int) % 3 = 2 := by rw [hkt2, hr3]; rfl
              subst hr3
              clear hkt hkt2
              refine region_tree (.qs [1, 2, 5, 6, 7, 8, 9] (.two 0 (.qs [3, 4, 10] (.o 11 (.o 12 (.done)))) 11 (.o 0 (.qs [3, 4, 10] (.o 12 (.done)))))) (fun W => Below wr.heap.size wr W) (by kernel_rfl) (by kernel_rfl) (Below.refl _ _).drew ?_
              refine' tree_quiet (s := 116) (A1 := _) [1, 2, 5, 6, 7, 8, 9] [_, _, _, _, _, _, _] _ rfl rfl rfl (fun W hW => ?hq1) _ (Below.refl _ _).drew (fun _ => ?hr1)
              case hq1 =>
                have h4o := H4.out
                simp only [List.getElem_toArray, List.getElem_cons_zero, List.getElem_cons_succ]
                iterate 7 (go_big_quiet_step (fail))
                refine wpQuiet_nil ?_
                rfl
              case hr1 =>
              clear e1 e2
              refine tree_two rfl rfl (fun k1 => ?gA) (fun k1 => ?gB)
              case gA =>
                have hF1 : Below wr.heap.size wr (wr.drew.drewN k1) := below_drewN (Below.refl _ _).drew k1
                generalize wr.drew.drewN k1 = W1 at hF1 ⊢
                go_wp2_with fail
                have hF2 := below_fut hF1 (below_new W1 (.cells #[.string ⟨#[116, 120]⟩, .string ⟨#[118, 101, 114, 97, 99, 107]⟩, .string ⟨#[97, 98, 99, 100, 101, 102, 103, 104, 105, 106, 107, 108]⟩] 9)) (Nat.le_refl _)
                have hA : Hid (Blk (W1.alloc (.cells #[.string ⟨#[116, 120]⟩, .string ⟨#[118, 101, 114, 97, 99, 107]⟩, .string ⟨#[97, 98, 99, 100, 101, 102, 103, 104, 105, 106, 107, 108]⟩] 9)) W1.heap.size 9 #[.string ⟨#[116, 120]⟩, .string ⟨#[118, 101, 114, 97, 99, 107]⟩, .string ⟨#[97, 98, 99, 100, 101, 102, 103, 104, 105, 106, 107, 108]⟩]) := Lib.hid (Blk.new W1 _ _)
                have hz1 := hF1.size
                generalize W1.alloc (.cells #[.string ⟨#[116, 120]⟩, .string ⟨#[118, 101, 114, 97, 99, 107]⟩, .string ⟨#[97, 98, 99, 100, 101, 102, 103, 104, 105, 106, 107, 108]⟩] 9) = W2 at hF2 hA ⊢
                generalize W1.heap.size = z at hA hz1 ⊢
                refine planQ_normal (Grows.more (fun W => Below wr.heap.size wr W ∧ Hid (Blk W z 9 #[.string ⟨#[116, 120]⟩, .string ⟨#[118, 101, 114, 97, 99, 107]⟩, .string ⟨#[97, 98, 99, 100, 101, 102, 103, 104, 105, 106, 107, 108]⟩])) (fun _ h => h.1) ⟨hF2, hA⟩ ?_)
                refine' tree_quiet (s := 116) (A1 := _) [3, 4, 10] [_, _, _] _ rfl rfl rfl (fun W hW => ?hq2) _ ⟨hF2, hA⟩ (fun _ => ?hr2)
                case hq2 =>
                  have c0 : ∀ k, (W.drewN k).cell? ⟨z, 2, none⟩ = some (.string ⟨#[97, 98, 99, 100, 101, 102, 103, 104, 105, 106, 107, 108]⟩) := fun k => (hW.2.out.drewN k).cell 2
                  simp only [List.getElem_toArray, List.getElem_cons_zero, List.getElem_cons_succ]
                  iterate 2 (go_big_quiet_step (fail))
                  refine quiet_build rfl 24 #[(0, .tmp 34), (1, .tmp 39)] rfl #[.string ⟨#[97, 98, 99, 100, 101, 102, 103, 104, 105, 106, 107, 108]⟩, .slice p3 n4 c3] ?_ ?_
                  · simp only [List.map_toArray, List.map_cons, List.map_nil]
                    exact built_frm _ _ _ _
                  refine wpQuiet_nil ?_
                  rfl
                case hr2 =>
                refine tree_one rfl fun k2 => ?_
                have hF3 := below_fut hF2 (below_draws W2 k2) (Nat.le_refl _)
                have hA3 := hA.out.drewN k2
                generalize W2.drewN k2 = W3 at hF3 hA3 ⊢
                go_wp2_with fail
                have hFd := below_fut hF3 (below_new W3 (.cells #[.string ⟨#[]⟩, .slice none 0 0] 24)) (Nat.le_refl _)
                have hYd : Hid (Blk (W3.alloc (.cells #[.string ⟨#[]⟩, .slice none 0 0] 24)) W3.heap.size 24 #[.string ⟨#[]⟩, .slice none 0 0]) := Lib.hid (Blk.new W3 _ _)
                have hAd := Lib.hid (hA3.alloc (.cells #[.string ⟨#[]⟩, .slice none 0 0] 24))
                have hyw := hF3.size
                have hzy : z ≠ W3.heap.size := Nat.ne_of_lt hA3.lt
                generalize W3.alloc (.cells #[.string ⟨#[]⟩, .slice none 0 0] 24) = We at hFd hYd hAd ⊢
                generalize W3.heap.size = y at hYd hyw hzy ⊢
                refine planQ_normal (Grows.same ⟨hFd, hAd⟩ ?_)
                have hAe := fun k => hAd.out.drewN k
                clear hF1 hF2 hF3 hA hA3
                refine tree_one rfl fun k5 => ?_
                have hFe := below_fut hFd (below_draws We k5) (Nat.le_refl _)
                have hYe := hYd.out.drewN k5
                have c0 := hYe.cell 0
                have c1 := hYe.cell 1
                have f0 := hYe.frozen 0
                have f1 := hYe.frozen 1
                simp only [List.getElem?_toArray, List.getElem?_cons_zero, List.getElem?_cons_succ] at c0 c1
                have HYe := Lib.hid hYe
                clear hYe
                have HAe := Lib.hid (hAe k5)
                generalize We.drewN k5 = Wf at hFe HYe HAe c0 c1 f0 f1 ⊢
                go_wp2_with fail
                have hbf : Below wr.heap.size wr ((Wf.setCell ⟨y, 0, none⟩ (.string ⟨#[97, 98, 99, 100, 101, 102, 103, 104, 105, 106, 107, 108]⟩)).setCell ⟨y, 1, none⟩ (.slice p3 n4 c3)) := (hFe.setCell (p := ⟨y, 0, none⟩) hyw _).setCell (p := ⟨y, 1, none⟩) hyw _
                have hBf : Blk ((Wf.setCell ⟨y, 0, none⟩ (.string ⟨#[97, 98, 99, 100, 101, 102, 103, 104, 105, 106, 107, 108]⟩)).setCell ⟨y, 1, none⟩ (.slice p3 n4 c3)) y 24 #[.string (strB (nm3 2)), .slice p3 n4 c3] := by
                  rw [nm3_str2]
                  exact (HYe.out.set 0 _).set 1 _
                refine planQ_normal (Grows.same ⟨hbf, Lib.hid (Blk.far (p := ⟨y, 1, none⟩) (Blk.far (p := ⟨y, 0, none⟩) (HAe.out) hzy _) hzy _)⟩ ?_)
                refine tree_end fun k9 => NoPanic.normal ?_
                go_wp2_with fail
                go_meet
                case rel => exact ⟨y, rfl, hyw, Lib.hid (hBf.drewN k9), below_drewN hbf k9⟩
              case gB =>
                have hF1 : Below wr.heap.size wr (wr.drew.drewN k1) := below_drewN (Below.refl _ _).drew k1
                generalize wr.drew.drewN k1 = W1 at hF1 ⊢
                go_wp2_with fail
                have hF2 := below_fut hF1 (below_new W1 (.cells #[.string ⟨#[]⟩, .slice none 0 0] 24)) (Nat.le_refl _)
                have hY2 : Hid (Blk (W1.alloc (.cells #[.string ⟨#[]⟩, .slice none 0 0] 24)) W1.heap.size 24 #[.string ⟨#[]⟩, .slice none 0 0]) := Lib.hid (Blk.new W1 _ _)
                have hyw := hF1.size
                generalize W1.alloc (.cells #[.string ⟨#[]⟩, .slice none 0 0] 24) = W2 at hF2 hY2 ⊢
                generalize W1.heap.size = y at hY2 hyw ⊢
                refine planQ_normal (Grows.same hF2 ?_)
                refine tree_one rfl fun k2 => ?_
                have hF3 := below_fut hF2 (below_draws W2 k2) (Nat.le_refl _)
                have hY3 := hY2.out.drewN k2
                generalize W2.drewN k2 = W3 at hF3 hY3 ⊢
                go_wp2_with fail
                have hFd := below_fut hF3 (below_new W3 (.cells #[.string ⟨#[116, 120]⟩, .string ⟨#[118, 101, 114, 97, 99, 107]⟩, .string ⟨#[97, 98, 99, 100, 101, 102, 103, 104, 105, 106, 107, 108]⟩] 9)) (Nat.le_refl _)
                have hAd : Hid (Blk (W3.alloc (.cells #[.string ⟨#[116, 120]⟩, .string ⟨#[118, 101, 114, 97, 99, 107]⟩, .string ⟨#[97, 98, 99, 100, 101, 102, 103, 104, 105, 106, 107, 108]⟩] 9)) W3.heap.size 9 #[.string ⟨#[116, 120]⟩, .string ⟨#[118, 101, 114, 97, 99, 107]⟩, .string ⟨#[97, 98, 99, 100, 101, 102, 103, 104, 105, 106, 107, 108]⟩]) := Lib.hid (Blk.new W3 _ _)
                have hYd := Lib.hid (hY3.alloc (.cells #[.string ⟨#[116, 120]⟩, .string ⟨#[118, 101, 114, 97, 99, 107]⟩, .string ⟨#[97, 98, 99, 100, 101, 102, 103, 104, 105, 106, 107, 108]⟩] 9))
                have hzy : W3.heap.size ≠ y := Nat.ne_of_gt hY3.lt
                generalize W3.alloc (.cells #[.string ⟨#[116, 120]⟩, .string ⟨#[118, 101, 114, 97, 99, 107]⟩, .string ⟨#[97, 98, 99, 100, 101, 102, 103, 104, 105, 106, 107, 108]⟩] 9) = We at hFd hYd hAd ⊢
                generalize W3.heap.size = z at hAd hzy ⊢
                refine planQ_normal (Grows.more (fun W => Below wr.heap.size wr W ∧ Hid (Blk W z 9 #[.string ⟨#[116, 120]⟩, .string ⟨#[118, 101, 114, 97, 99, 107]⟩, .string ⟨#[97, 98, 99, 100, 101, 102, 103, 104, 105, 106, 107, 108]⟩])) (fun _ h => h.1) ⟨hFd, hAd⟩ ?_)
                have hAe := fun k => hAd.out.drewN k
                clear hF1 hF2 hF3 hY2 hY3
                refine' tree_quiet (s := 116) (A1 := _) [3, 4, 10] [_, _, _] _ rfl rfl rfl (fun W hW => ?hq2) _ ⟨hFd, hAd⟩ (fun _ => ?hr2)
                case hq2 =>
                  have c0 : ∀ k, (W.drewN k).cell? ⟨z, 2, none⟩ = some (.string ⟨#[97, 98, 99, 100, 101, 102, 103, 104, 105, 106, 107, 108]⟩) := fun k => (hW.2.out.drewN k).cell 2
                  simp only [List.getElem_toArray, List.getElem_cons_zero, List.getElem_cons_succ]
                  iterate 2 (go_big_quiet_step (fail))
                  refine quiet_build rfl 24 #[(0, .tmp 34), (1, .tmp 39)] rfl #[.string ⟨#[97, 98, 99, 100, 101, 102, 103, 104, 105, 106, 107, 108]⟩, .slice p3 n4 c3] ?_ ?_
                  · simp only [List.map_toArray, List.map_cons, List.map_nil]
                    exact built_frm _ _ _ _
                  refine wpQuiet_nil ?_
                  rfl
                case hr2 =>
                refine tree_one rfl fun k5 => ?_
                have hFe := below_fut hFd (below_draws We k5) (Nat.le_refl _)
                have hYe := hYd.out.drewN k5
                have c0 := hYe.cell 0
                have c1 := hYe.cell 1
                have f0 := hYe.frozen 0
                have f1 := hYe.frozen 1
                simp only [List.getElem?_toArray, List.getElem?_cons_zero, List.getElem?_cons_succ] at c0 c1
                have HYe := Lib.hid hYe
                clear hYe
                have HAe := Lib.hid (hAe k5)
                generalize We.drewN k5 = Wf at hFe HYe HAe c0 c1 f0 f1 ⊢
                go_wp2_with fail
                have hbf : Below wr.heap.size wr ((Wf.setCell ⟨y, 0, none⟩ (.string ⟨#[97, 98, 99, 100, 101, 102, 103, 104, 105, 106, 107, 108]⟩)).setCell ⟨y, 1, none⟩ (.slice p3 n4 c3)) := (hFe.setCell (p := ⟨y, 0, none⟩) hyw _).setCell (p := ⟨y, 1, none⟩) hyw _
                have hBf : Blk ((Wf.setCell ⟨y, 0, none⟩ (.string ⟨#[97, 98, 99, 100, 101, 102, 103, 104, 105, 106, 107, 108]⟩)).setCell ⟨y, 1, none⟩ (.slice p3 n4 c3)) y 24 #[.string (strB (nm3 2)), .slice p3 n4 c3] := by
                  rw [nm3_str2]
                  exact (HYe.out.set 0 _).set 1 _
                refine planQ_normal (Grows.same ⟨hbf, Lib.hid (Blk.far (p := ⟨y, 1, none⟩) (Blk.far (p := ⟨y, 0, none⟩) (HAe.out) hzy _) hzy _)⟩ ?_)
                refine tree_end fun k9 => NoPanic.normal ?_
                go_wp2_with fail
                go_meet
                case rel => exact ⟨y, rfl, hyw, Lib.hid (hBf.drewN k9), below_drewN hbf k9⟩
          case rest =>
            obtain ⟨g9, rfl, hg9, hB9, hb9⟩ := hcut
            have HKc := Lib.hid (HK.out.below (hbw.trans (hb9.mono hbw.size)) hKs)
            have hbwc := below_fut hbw hb9 (Nat.le_refl _)
            have HOc := Lib.hid (HO.out.fut hb9)
            have HWc := Lib.hid (HW.out.fut hb9)
            have HRc := Lib.hid (HR4.out.fut hb9)
            have c0 := hB9.out.cell 0
            have c1 := hB9.out.cell 1
            simp only [List.getElem?_toArray, List.getElem?_cons_zero, List.getElem?_cons_succ] at c0 c1
            have h4c3 : n4 ≤ c3 := by omega
            have hfe := frmEncode_any (nm3 r) (x.take 300) p3 n4 c3 wc HKc.out (by have := cmdOk_len (nm3_ok r); omega) HRc.out HL4.out h4c3 hc3b HP3.out
            rw [frmP_ok (nm3_ok r) (by rw [HL4.out]; omega)] at hfe
            obtain ⟨X, hX⟩ : ∃ X, X = frmOut (nm3 r) (x.take 300) := ⟨_, rfl⟩
            have hXl : X.length = 24 + n4 := by rw [hX, frmOut_len _ (cmdOk_len (nm3_ok r)), HL4.out]
            rw [← hX] at hfe
            have HX1 := Lib.hid hX
            have HFE := Lib.hid hfe
            obtain ⟨nmS, hnmS⟩ : ∃ s, s = strB (nm3 r) := ⟨_, rfl⟩
            rw [← hnmS] at c0 HFE hB9
            have HNM := Lib.hid hnmS
            have hulo : Hid (∀ k, u5.ownBlock = some k → w.heap.size ≤ k ∧ k < wr.heap.size) := Lib.hid (World.ownsRow.lt HO.out)
            have hulw : Hid (∀ k, u6.ownBlock = some k → w.heap.size ≤ k ∧ k < wr.heap.size) := Lib.hid HW.out.lt
            clear hfe hX hnmS HO HW HR4 hs0 hs1 hs2 hkt hkt2 hr3
            go_wp2_with fail
            refine HFE.out.mono ?_
            rintro e w3 ⟨v3, rfl, ho3, hb3⟩
            replace ho3 : Own8 w3 wc.heap.size v3 X := ho3
            obtain ⟨p5, n5, c5, rfl, hn5, hl5, hm5, hr5⟩ := ho3.open
            have hn5' : n5 = 24 + n4 := by rw [← hn5.out]; exact hXl
            have e1 : ((n5 : Int) == 24 + (n4 : Int)) = true := by rw [beq_iff_eq]; omega
            have e2 : ((n5 : Int) != 24 + (n4 : Int)) = false := by rw [bne, e1]; rfl
            have HB3 := Lib.hid (hB9.out.fut hb3)
            have HO3 := Lib.hid (HOc.out.fut hb3)
            have HW3 := Lib.hid (HWc.out.fut hb3)
            have HR3' := Lib.hid (HRc.out.fut hb3)
            have hbw3 := below_fut hbwc hb3 (Nat.le_refl _)
            have k0 := HB3.out.cell 0
            have k1 := HB3.out.cell 1
            simp only [List.getElem?_toArray, List.getElem?_cons_zero, List.getElem?_cons_succ] at k0 k1
            have hX5 : Hid (X.length = n5) := hn5
            have HR5 := Lib.hid hr5
            have hn5b : n5 ≤ 324 := by omega
            have hgw : w.heap.size ≤ g9 := Nat.le_trans hbw.size hg9
            clear hB9 HOc HWc HRc c0 c1 ho3 hr5 hXl hn5' hn5 HFE HKc hbwc hb9 hb3
            go_upto_region 11 with fail
            clear e1 e2
            have hOA : Hid (∀ k, u5.ownBlock = some k → w.heap.size ≤ k ∧ k < wr.heap.size) := hulo
            have hWA : Hid (∀ k, u6.ownBlock = some k → w.heap.size ≤ k ∧ k < wr.heap.size) := hulw
            have hne : Hid (∀ k, u6.ownBlock = some k → u5.ownBlock ≠ some k) := Lib.hid (own_row_apart HW3.out HO3.out)
            have hnot : ¬ (u5.ownBlock = some g9 ∨ u6.ownBlock = some g9) := fun h => by
              rcases h with h | h
              · have := (hOA.out g9 h).2; omega
              · have := (hWA.out g9 h).2; omega
            have HP4 : Hid (∀ W, Below w.heap.size w W → (∀ k, u6.ownBlock = some k → w.heap.size ≤ k) → PayIn W (· < w.heap.size) u6 (nm3 r, x.take 300) (.slice p3 n4 c3)) := Lib.hid (fun W hW hu => by
              have hr := (HR3.out.take 300)
              refine ⟨⟨_, _, _, rfl, HL4.out, h4c3, hc3b, hr.fut hW, HP3.out⟩, fun h0 k hk => ?_⟩
              obtain ⟨bq, oq, e, hlt, _⟩ := hr h0
              rw [e] at hk
              injection hk with hk
              subst hk
              exact ⟨hlt, Nat.lt_of_lt_of_le hlt hW.size, fun e => by have := hu bq e; omega⟩)
            refine region_tree (.qs [0, 1, 3, 4] (.two 2 (.o 5 (.o 6 (.qs [7, 8] (.done)))) 5 (.o 2 (.o 6 (.qs [7, 8] (.done)))))) (fun W => Stays (fun k => u5.ownBlock = some k ∨ u6.ownBlock = some k) w3 W) (by kernel_rfl) (by kernel_rfl) ((Stays.refl _ _).drewN 1) ?_
            refine' tree_quiet (s := 116) (A1 := _) [0, 1, 3, 4] [_, _, _, _] _ rfl rfl rfl (fun W hW => ?hq5) _ ((Stays.refl _ _).drewN 1) (fun _ => ?hr5)
            case hq5 =>
              have hB := HB3.out.stays hW hnot
              have c0 : ∀ k, (W.drewN k).cell? ⟨g9, 0, none⟩ = some (.string nmS) := fun k => (hB.drewN k).cell 0
              have c1 : ∀ k, (W.drewN k).cell? ⟨g9, 1, none⟩ = some (.slice p3 n4 c3) := fun k => (hB.drewN k).cell 1
              simp only [List.getElem_toArray, List.getElem_cons_zero, List.getElem_cons_succ]
              iterate 4 (go_big_quiet_step (fail))
              refine wpQuiet_nil ?_
              rfl
            case hr5 =>
            refine tree_two rfl rfl (fun k1 => ?gA) (fun k1 => ?gB)
            case gA =>
              have hS1 : Stays (fun k => u5.ownBlock = some k ∨ u6.ownBlock = some k) w3 (w3.drew.drewN k1) := ((Stays.refl _ _).drewN 1).drewN k1
              have hF1 : Below w.heap.size w (w3.drew.drewN k1) := below_fut hbw3 (below_fut (below_draws w3 1) (below_draws _ k1) (Nat.le_refl _)) (Nat.le_refl _)
              have hO1 : Hid (Own8 (w3.drew.drewN k1) w.heap.size u5 (stream (frs ls k))) := HO3
              have hW1 : Hid (FrmRow2 (w3.drew.drewN k1) w.heap.size (· < w.heap.size) u6 (frs ls k)) := Lib.hid ((HW3.out.fut (below_draws w3 1)).fut (below_draws _ k1))
              have hX1 : Hid (Row8 (w3.drew.drewN k1) p5 X) := Lib.hid ((HR5.out.fut (below_draws w3 1)).fut (below_draws _ k1))
              generalize w3.drew.drewN k1 = W1 at hS1 hF1 hO1 hW1 hX1 ⊢
              have hsz1 := hF1.size
              refine wp_append8 (o := ⟨some 59, _, _, _, _, _⟩) rfl (.tmp 57) (.tmp 58) rfl w.heap.size u5 (stream (frs ls k)) rfl hO1.out p5 n5 c5 X rfl hX5.out hX1.out (by have := stream_len ls k; have := hX5.out; omega) hsz1 w.heap.size w hF1 (Nat.le_refl _) ?_
              intro v6 W2 hO2' hF2 hg2 _
              have hO2 := Lib.hid hO2'
              have hW2 := Lib.hid (hW1.out.stays (Stays.of_grown (S := fun k => u5.ownBlock = some k) hg2 (fun k h => h)) (fun k hk => hne.out k hk) (fun k hk _ e => by have := (hOA.out k e).1; omega))
              have hS2 : Stays (fun k => u5.ownBlock = some k ∨ u6.ownBlock = some k) w3 W2 := hS1.trans (Stays.of_grown (S := fun k => u5.ownBlock = some k) hg2 (fun k h => h)) (fun k _ h => .inl h)
              go_wp2_with fail
              refine planQ_normal (Grows.same hS2 ?_)
              clear hO1 hX1 hF1 hS1 hg2 hO2' hsz1 hW1
              refine tree_one rfl fun k2 => ?_
              have hS3 := hS2.drewN k2
              have hF3 := below_drewN hF2 k2
              have hW3 := Lib.hid (hW2.out.fut (below_draws W2 k2))
              have hO3 := Lib.hid (hO2.out.drewN k2)
              generalize W2.drewN k2 = W3 at hS3 hF3 hW3 hO3 ⊢
              clear hS2 hF2 hW2 hO2
              go_wp2_with fail
              have hS4 := hS3.alloc (.cells #[.string nmS, .slice p3 n4 c3] 24)
              have hF4 := hF3.alloc hF3.size (.cells #[.string nmS, .slice p3 n4 c3] 24)
              have hW4 := Lib.hid (hW3.out.fut (below_new W3 (.cells #[.string nmS, .slice p3 n4 c3] 24)))
              have hZ4 : Hid (Blk (W3.alloc (.cells #[.string nmS, .slice p3 n4 c3] 24)) W3.heap.size 24 #[.string nmS, .slice p3 n4 c3]) := Lib.hid (Blk.new W3 _ _)
              have hzl : w3.heap.size ≤ W3.heap.size := hS3.size
              have hO4 := Lib.hid (hO3.out.alloc (.cells #[.string nmS, .slice p3 n4 c3] 24))
              generalize W3.alloc (.cells #[.string nmS, .slice p3 n4 c3] 24) = W4 at hS4 hF4 hW4 hZ4 hO4 ⊢
              generalize W3.heap.size = zl at hZ4 hzl ⊢
              refine planQ_normal (Grows.same hS4 ?_)
              clear hS3 hF3 hW3 hO3
              refine tree_one rfl fun k3 => ?_
              have hS5 := hS4.drewN k3
              have hF5 := below_drewN hF4 k3
              have hW5 := Lib.hid (hW4.out.fut (below_draws W4 k3))
              have hO5 := Lib.hid (hO4.out.drewN k3)
              have hZ5 := Lib.hid (hZ4.out.drewN k3)
              generalize W4.drewN k3 = W5 at hS5 hF5 hW5 hO5 hZ5 ⊢
              clear hS4 hF4 hW4 hO4 hZ4
              obtain ⟨vs, hvl, hown, hvs⟩ := hW5.out
              have hfl : (frs ls k).length = k := frs_len ls k
              have hpay : PayIn W5 (· < w.heap.size) u6 (nm3 r, x.take 300) (.slice p3 n4 c3) := HP4.out _ hF5 (fun k h => (hWA.out k h).1)
              have hsz5 := hF5.size
              refine wp_rowapp (o := ⟨some 63, _, _, _, _, _⟩) rfl (.tmp 60) (.tmp 62) 34 24 rfl _ 2 40 Tryd.underlying34 frm_info rfl (by omega) (by omega) w.heap.size u6 (frs ls k).length (frmCells (frs ls k) vs) rfl hown zl 1 1 [.string nmS, .slice p3 n4 c3] rfl hZ5.out rfl (fun u hu => by simp only [List.mem_cons, List.not_mem_nil, or_false] at hu; rcases hu with rfl | rfl <;> rfl) (by rw [hfl]; omega) hsz5 ?_
              intro l9 W9 hl9 hg9' hlo9
              have hJ : FrmRow2 W9 w.heap.size (· < w.heap.size) l9 (frs ls k ++ [(nm3 r, x.take 300)]) := FrmRow2.join hvl (us := [.slice p3 n4 c3]) rfl hvs (fun i f u hf hu => by
                  have h0 : i = 0 := by have := (List.getElem?_eq_some_iff.1 hf).1; simp at this; omega
                  subst h0
                  injection hf with hf; injection hu with hu; subst hf hu
                  exact hpay) (by rw [HNM.out] at hl9; exact hl9) hg9' hlo9
              have hO9 : Own8 W9 w.heap.size v6 (stream (frs ls k) ++ X) := hO5.out.stays (Stays.of_grown (S := fun k => u6.ownBlock = some k) hg9' (fun k h => h)) (fun k hk e => own_row_apart hW5.out hO5.out k e hk)
              have hS9 : Stays (fun k => u5.ownBlock = some k ∨ u6.ownBlock = some k) w3 W9 := hS5.trans (Stays.of_grown (S := fun k => u6.ownBlock = some k) hg9' (fun k h => h)) (fun k _ h => .inr h)
              have hF9 : Below w.heap.size w W9 := hF5.grown hg9' hsz5 (fun k hk => (hWA.out k hk).1)
              go_wp2_with fail
              refine planQ_normal (Grows.same hS9 ?_)
              clear hown hvs hl9 hg9' hlo9 hW5 hO5 hS5 hF5 hZ5 hpay
              refine' tree_quiet (s := 116) (A1 := _) [7, 8] [_, _] _ rfl rfl rfl (fun W hW => ?hq7) _ hS9 (fun _ => ?hr7)
              case hq7 =>
                simp only [List.getElem_toArray, List.getElem_cons_zero, List.getElem_cons_succ]
                iterate 2 (go_big_quiet_step (fail))
                refine wpQuiet_nil ?_
                rfl
              case hr7 =>
              refine tree_end fun k9 => NoPanic.normal ?_
              have HO9 : Hid (Own8 (W9.drewN k9) w.heap.size v6 (stream (frs ls (k + 1)))) := Lib.hid (by
                rw [frs, stream_append, stream_one, HX.out, Option.getD_some, ← HRR.out, ← HX1.out]
                exact hO9.drewN k9)
              have HW9 : Hid (FrmRow2 (W9.drewN k9) w.heap.size (· < w.heap.size) l9 (frs ls (k + 1))) := Lib.hid (by
                rw [frs, HX.out, Option.getD_some, ← HRR.out]
                exact hJ.fut (below_draws W9 k9))
              have hF10 := below_drewN hF9 k9
              clear hO9 hJ hF9 hS9
              generalize W9.drewN k9 = W10 at HO9 HW9 hF10 ⊢
              go_wp2_with fail
              go_roundw
              case rel => exact ⟨k + 1, by omega, by omega, by go_num, HO9, HW9, hF10⟩
              case measure => simp [intOf]; omega
            case gB =>
              have hS1 : Stays (fun k => u5.ownBlock = some k ∨ u6.ownBlock = some k) w3 (w3.drew.drewN k1) := ((Stays.refl _ _).drewN 1).drewN k1
              have hF1 : Below w.heap.size w (w3.drew.drewN k1) := below_fut hbw3 (below_fut (below_draws w3 1) (below_draws _ k1) (Nat.le_refl _)) (Nat.le_refl _)
              have hO1 : Hid (Own8 (w3.drew.drewN k1) w.heap.size u5 (stream (frs ls k))) := HO3
              have hW1 : Hid (FrmRow2 (w3.drew.drewN k1) w.heap.size (· < w.heap.size) u6 (frs ls k)) := Lib.hid ((HW3.out.fut (below_draws w3 1)).fut (below_draws _ k1))
              have hX1 : Hid (Row8 (w3.drew.drewN k1) p5 X) := Lib.hid ((HR5.out.fut (below_draws w3 1)).fut (below_draws _ k1))
              generalize w3.drew.drewN k1 = W1 at hS1 hF1 hO1 hW1 hX1 ⊢
              go_wp2_with fail
              have hS2 := hS1.alloc (.cells #[.string nmS, .slice p3 n4 c3] 24)
              have hF2 := hF1.alloc hF1.size (.cells #[.string nmS, .slice p3 n4 c3] 24)
              have hW2 := Lib.hid (hW1.out.fut (below_new W1 (.cells #[.string nmS, .slice p3 n4 c3] 24)))
              have hZ2 : Hid (Blk (W1.alloc (.cells #[.string nmS, .slice p3 n4 c3] 24)) W1.heap.size 24 #[.string nmS, .slice p3 n4 c3]) := Lib.hid (Blk.new W1 _ _)
              have hzl : w3.heap.size ≤ W1.heap.size := hS1.size
              have hO2 := Lib.hid (hO1.out.alloc (.cells #[.string nmS, .slice p3 n4 c3] 24))
              have hX2 := Lib.hid (hX1.out.fut (below_new W1 (.cells #[.string nmS, .slice p3 n4 c3] 24)))
              generalize W1.alloc (.cells #[.string nmS, .slice p3 n4 c3] 24) = W2 at hS2 hF2 hW2 hZ2 hO2 hX2 ⊢
              generalize W1.heap.size = zl at hZ2 hzl ⊢
              refine planQ_normal (Grows.same hS2 ?_)
              clear hS1 hF1 hW1 hO1 hX1
              refine tree_one rfl fun k2 => ?_
              have hS3 := hS2.drewN k2
              have hF3 := below_drewN hF2 k2
              have hW3 := Lib.hid (hW2.out.fut (below_draws W2 k2))
              have hO3 := Lib.hid (hO2.out.drewN k2)
              have hX3 := Lib.hid (hX2.out.fut (below_draws W2 k2))
              have hZ3 := Lib.hid (hZ2.out.drewN k2)
              generalize W2.drewN k2 = W3 at hS3 hF3 hW3 hO3 hX3 hZ3 ⊢
              clear hS2 hF2 hW2 hO2 hX2 hZ2
              have hsz3 := hF3.size
              refine wp_append8 (o := ⟨some 59, _, _, _, _, _⟩) rfl (.tmp 57) (.tmp 58) rfl w.heap.size u5 (stream (frs ls k)) rfl hO3.out p5 n5 c5 X rfl hX5.out hX3.out (by have := stream_len ls k; have := hX5.out; omega) hsz3 w.heap.size w hF3 (Nat.le_refl _) ?_
              intro v6 W4 hO4' hF4 hg4 _
              have hO4 := Lib.hid hO4'
              have hW4 := Lib.hid (hW3.out.stays (Stays.of_grown (S := fun k => u5.ownBlock = some k) hg4 (fun k h => h)) (fun k hk => hne.out k hk) (fun k hk _ e => by have := (hOA.out k e).1; omega))
              have hS4 : Stays (fun k => u5.ownBlock = some k ∨ u6.ownBlock = some k) w3 W4 := hS3.trans (Stays.of_grown (S := fun k => u5.ownBlock = some k) hg4 (fun k h => h)) (fun k _ h => .inl h)
              go_wp2_with fail
              refine planQ_normal (Grows.same hS4 ?_)
              have hZ4 := Lib.hid (hZ3.out.stays (Stays.of_grown (S := fun k => u5.ownBlock = some k) hg4 (fun k h => h)) (fun e => by have := (hOA.out zl e).2; have := HB3.out.lt; omega))
              clear hZ3 hO3 hX3 hF3 hS3 hg4 hO4' hsz3 hW3
              refine tree_one rfl fun k3 => ?_
              have hS5 := hS4.drewN k3
              have hF5 := below_drewN hF4 k3
              have hW5 := Lib.hid (hW4.out.fut (below_draws W4 k3))
              have hO5 := Lib.hid (hO4.out.drewN k3)
              have hZ5 := Lib.hid (hZ4.out.drewN k3)
              generalize W4.drewN k3 = W5 at hS5 hF5 hW5 hO5 hZ5 ⊢
              clear hS4 hF4 hW4 hO4 hZ4
              obtain ⟨vs, hvl, hown, hvs⟩ := hW5.out
              have hfl : (frs ls k).length = k := frs_len ls k
              have hpay : PayIn W5 (· < w.heap.size) u6 (nm3 r, x.take 300) (.slice p3 n4 c3) := HP4.out _ hF5 (fun k h => (hWA.out k h).1)
              have hsz5 := hF5.size
              refine wp_rowapp (o := ⟨some 63, _, _, _, _, _⟩) rfl (.tmp 60) (.tmp 62) 34 24 rfl _ 2 40 Tryd.underlying34 frm_info rfl (by omega) (by omega) w.heap.size u6 (frs ls k).length (frmCells (frs ls k) vs) rfl hown zl 1 1 [.string nmS, .slice p3 n4 c3] rfl hZ5.out rfl (fun u hu => by simp only [List.mem_cons, List.not_mem_nil, or_false] at hu; rcases hu with rfl | rfl <;> rfl) (by rw [hfl]; omega) hsz5 ?_
              intro l9 W9 hl9 hg9' hlo9
              have hJ : FrmRow2 W9 w.heap.size (· < w.heap.size) l9 (frs ls k ++ [(nm3 r, x.take 300)]) := FrmRow2.join hvl (us := [.slice p3 n4 c3]) rfl hvs (fun i f u hf hu => by
                  have h0 : i = 0 := by have := (List.getElem?_eq_some_iff.1 hf).1; simp at this; omega
                  subst h0
                  injection hf with hf; injection hu with hu; subst hf hu
                  exact hpay) (by rw [HNM.out] at hl9; exact hl9) hg9' hlo9
              have hO9 : Own8 W9 w.heap.size v6 (stream (frs ls k) ++ X) := hO5.out.stays (Stays.of_grown (S := fun k => u6.ownBlock = some k) hg9' (fun k h => h)) (fun k hk e => own_row_apart hW5.out hO5.out k e hk)
              have hS9 : Stays (fun k => u5.ownBlock = some k ∨ u6.ownBlock = some k) w3 W9 := hS5.trans (Stays.of_grown (S := fun k => u6.ownBlock = some k) hg9' (fun k h => h)) (fun k _ h => .inr h)
              have hF9 : Below w.heap.size w W9 := hF5.grown hg9' hsz5 (fun k hk => (hWA.out k hk).1)
              go_wp2_with fail
              refine planQ_normal (Grows.same hS9 ?_)
              clear hown hvs hl9 hg9' hlo9 hW5 hO5 hS5 hF5 hZ5 hpay
              refine' tree_quiet (s := 116) (A1 := _) [7, 8] [_, _] _ rfl rfl rfl (fun W hW => ?hq7) _ hS9 (fun _ => ?hr7)
              case hq7 =>
                simp only [List.getElem_toArray, List.getElem_cons_zero, List.getElem_cons_succ]
                iterate 2 (go_big_quiet_step (fail))
                refine wpQuiet_nil ?_
                rfl
              case hr7 =>
              refine tree_end fun k9 => NoPanic.normal ?_
              have HO9 : Hid (Own8 (W9.drewN k9) w.heap.size v6 (stream (frs ls (k + 1)))) := Lib.hid (by
                rw [frs, stream_append, stream_one, HX.out, Option.getD_some, ← HRR.out, ← HX1.out]
                exact hO9.drewN k9)
              have HW9 : Hid (FrmRow2 (W9.drewN k9) w.heap.size (· < w.heap.size) l9 (frs ls (k + 1))) := Lib.hid (by
                rw [frs, HX.out, Option.getD_some, ← HRR.out]
                exact hJ.fut (below_draws W9 k9))
              have hF10 := below_drewN hF9 k9
              clear hO9 hJ hF9 hS9
              generalize W9.drewN k9 = W10 at HO9 HW9 hF10 ⊢
              go_wp2_with fail
              go_roundw
              case rel => exact ⟨k + 1, by omega, by omega, by go_num, HO9, HW9, hF10⟩
              case measure => simp [intOf]; omega
      · have hkmi : ¬ (k : Int) < (m : Int) := by omega
        go_wp2_with fail
        go_meet
        case rel => exact ⟨k, hk9, HO, HW, hbw⟩
  case rest =>
    obtain ⟨K, hK9, HO, HW, hbw⟩ := hcut
    have HKc := Lib.hid (HK.out.below hbw hKs)
    have hzs := Lib.hid (HZS.out.fut hbw (Nat.le_refl _))
    have hwc := hbw.size
    have hTl : (stream (frs ls K)).length ≤ 324 * K := stream_len ls K
    have hTok := frs_ok ls K
    have hfl : (frs ls K).length = K := frs_len ls K
    have hal := World.ownsRow.lt HO.out
    obtain ⟨pa, na, ca, ev, hna, hnca, hcab, hra⟩ := HO.out.open
    have hpa : pa = none → ca = 0 := fun e => by
      rcases HO.out.2 with ⟨e', _⟩ | ⟨_, _, _, e', _⟩
      · rw [ev] at e'; injection e'
      · rw [ev, e] at e'; injection e' with e'; cases e'
    subst ev
    obtain ⟨fs, hfs⟩ : ∃ fs, fs = frs ls K := ⟨_, rfl⟩
    rw [← hfs] at hTl hTok hfl hna hra HW
    obtain ⟨pw, cw, hw6, hwc1, hwc2, hwat⟩ := HW.out.at
    subst hw6
    obtain ⟨nw, hnw⟩ : ∃ n, n = fs.length := ⟨_, rfl⟩
    rw [← hnw] at hwc1 ⊢
    have HNW : Hid (fs.length = nw) := Lib.hid hnw.symm
    have HWAT := Lib.hid hwat
    clear HW hnw hwat
    have HTOK := Lib.hid hTok
    have HRA := Lib.hid hra
    have HFL := Lib.hid hfl
    have HTL := Lib.hid hTl
    have HAL := Lib.hid hal
    clear HO hfs hTok hra hfl hTl hal
    go_wp2_with fail
    refine (new_any09 _).mono ?_
    rintro e w1 ⟨rfl, hrd1, hb1⟩
    obtain ⟨g, hg⟩ : ∃ g, g = wc.heap.size := ⟨_, rfl⟩
    rw [← hg] at hrd1 hwc ⊢
    have HG := Lib.hid hg
    have hb1' : Below g wc w1 := by rw [hg]; exact hb1
    have HA1 : Hid (Rd w1 g (.slice none 0 0) 0) := Lib.hid hrd1
    have hpg : ∀ a, pa = some a → a.block < g := fun a ha => by rw [hg]; exact (HAL.out a.block (by rw [ha]; rfl)).2
    have HPG := Lib.hid hpg
    have hra1 : Row8 w1 pa (stream fs) := HRA.out.lo hb1' hpg
    have HR1 := Lib.hid hra1
    clear hrd1 hb1 hra1 hg hpg
    go_wp2_with fail
    go_loopw [5, 13, 68] (fun all got i wr => ∃ (k : Nat) (s rest : List (BitVec 8)) (gs fs2 : Frms) (p : Option Addr) (n c : Nat) (v : Value), k ≤ mz ∧ i = .int .i64 k ∧ all = .slice p n c ∧ Hid (Rd wr g v 0) ∧ Hid (Sfx8 wr g v s) ∧ Hid (Row8 wr p rest) ∧ Hid (rest.length = n) ∧ n ≤ c ∧ c ≤ 9223372036854775807 ∧ Hid (∀ a, p = some a → a.block < g) ∧ Hid (FrmRow2 wr g (fun k => g < k ∧ v.ownBlock ≠ some k) got gs) ∧ Hid (s ++ rest = stream fs2) ∧ Hid (fs = gs ++ fs2) ∧ Below g wc wr ∧ g < wr.heap.size) (fun _ _ i _ => mz - (intOf i).toNat)
    case atStart => exact ⟨0, [], stream fs, [], fs, pa, na, ca, .slice none 0 0, by omega, rfl, rfl, HA1, Lib.hid (Sfx8.nil _ _), HR1, hna, hnca, hcab, HPG, Lib.hid (FrmRow2.nil _ _ _), Lib.hid rfl, Lib.hid rfl, hb1', Blk.lt HA1.out⟩
    case round =>
      clear HA1 HR1 hb1' hna hnca hcab HPG hpa
      obtain ⟨k, s, rest, gs, fs2, p, n, c, v, hk, rfl, rfl, HRD, HSF, HRR, HNN, hnc, hcb, HPG, HGOT, HST, HFS, hbc, hgr⟩ := hrel
      have hsl : s.length + n ≤ 2916 := by
        have h1 := congrArg List.length HST.out
        rw [List.length_append, HNN.out] at h1
        have h2 := HTL.out
        rw [HFS.out, stream_append, List.length_append] at h2
        omega
      by_cases hkm : k < mz
      · have hkmi : (k : Int) < (mz : Int) := by omega
        obtain ⟨b, off, hqq, hlt, hall⟩ := (hzs.out.fut hbc (by rw [HG.out]; exact Nat.le_refl _)) (by intro e; have := HMZ.out; rw [e] at this; simp at this; omega)
        subst hqq
        obtain ⟨z, hz⟩ : ∃ z, zs[k]? = some z := ⟨_, List.getElem?_eq_getElem (by rw [HMZ.out]; exact hkm)⟩
        obtain ⟨hcell, hz1, hz2⟩ := hall k z hz
        obtain ⟨U, hU⟩ : ∃ U, U = IntKind.u64.wrap z := ⟨_, rfl⟩
        have hU0 : 0 ≤ U := by rw [hU]; simp [IntKind.wrap, IntKind.bits, IntKind.signed]; omega
        obtain ⟨j, hj⟩ : ∃ j : Nat, (j : Int) = U % 60 := ⟨(U % 60).toNat, by have := Int.emod_nonneg U (b := 60) (by omega); omega⟩
        have hj60 : j < 60 := by have := Int.emod_lt_of_pos U (b := 60) (by omega); omega
        have htm : (IntKind.u64.wrap z).tmod 60 = (j : Int) := by rw [← hU, Int.tmod_eq_emod_of_nonneg hU0]; exact hj.symm
        obtain ⟨N, hN⟩ : ∃ N, N = min j n := ⟨_, rfl⟩
        have hNn : N ≤ n := by omega
        have hmin : min (j : Int) (n : Int) = (N : Int) := by omega
        have hNc : (N : Int) ≤ (c : Int) := by omega
        have hcut := fun W => slice_cut8 W p n c N hNn
        have HMIN := Lib.hid hmin
        have HUU := Lib.hid hU
        have HJJ := Lib.hid hj
        clear hall hz hU hj hN hmin
        go_upto_region 19 with fail
        rw [HMIN.out]
        have hrl : (rest.take N).length = N := by rw [List.length_take, HNN.out]; omega
        have HKr := Lib.hid ((HKc.out.below hbc (by omega : gTop ≤ g)))
        have hpart : Hid (∃ f3, fs2 = (feedP s 0 (rest.take N)).1 ++ f3 ∧ (feedP s 0 (rest.take N)).2.2 = 0 ∧ (feedP s 0 (rest.take N)).2.1 ++ rest.drop N = stream f3) := Lib.hid (by
          have ok2 : okF fs2 := fun f hf => HTOK.out f (by rw [HFS.out]; exact List.mem_append_right _ hf)
          have e : (s ++ rest.take N) ++ rest.drop N = stream fs2 := by rw [List.append_assoc, List.take_append_drop]; exact HST.out
          unfold feedP
          rw [if_pos rfl]
          exact stream_part fs2 ok2 _ _ e)
        have hfe := Lib.hid (feedE_any g g v s (rest.take N) 0 p N c wr HKr.out (by omega) (Nat.le_refl _) HRD.out HSF.out (fun h => absurd rfl h) (HRR.out.take N) hrl (by omega))
        obtain ⟨x, hx⟩ : ∃ x, x = feedP s 0 (rest.take N) := ⟨_, rfl⟩
        rw [← hx] at hpart hfe
        obtain ⟨f3, hf3, he3, hs3⟩ := hpart.out
        have HF3 := Lib.hid hf3
        have HS3 := Lib.hid hs3
        unfold FeedPost at hfe
        rw [he3] at hfe
        clear hx hf3 hs3 he3 hpart hrl
        go_wp2_with fail
        refine hfe.out.mono ?_
        rintro e w4 ⟨l4, v4, H4, rfl, hH4, hl4, hrd4, hsf4, hst4, hov4⟩
        have hvlt : Hid (∀ k, v.ownBlock = some k → g ≤ k ∧ k < wr.heap.size) := Lib.hid HSF.out.lt
        have hgotb : Hid (∀ k, u13.ownBlock = some k → g ≤ k ∧ k < wr.heap.size) := Lib.hid HGOT.out.lt
        have hbc4 : Below g wc w4 := hbc.trans (hst4.below (by omega) (fun k hk => by
          rcases hk with e | e
          · omega
          · exact (hvlt.out k e).1))
        have hgot4 : FrmRow2 w4 g (fun k => g < k ∧ v4.ownBlock ≠ some k) u13 gs := (HGOT.out.imp (PB' := fun k => g < k ∧ v.ownBlock ≠ some k ∧ k < wr.heap.size) (fun k a b => ⟨a.1, a.2, b⟩)).stays hst4 (fun k hk e => by
            rcases e with e | e
            · subst e; exact HGOT.out.apart HRD.out (by decide) hk
            · rcases HSF.out with ⟨e', _⟩ | ⟨g', _, _, _, e', _, hh, _⟩
              · rw [e'] at e; cases e
              · rw [e'] at e; injection e with e; subst e; exact HGOT.out.apart hh (by decide) hk) (fun k a _ e => by
            rcases e with e | e
            · omega
            · exact a.2.1 e) |>.imp (fun k a _ => ⟨a.1, fun e => by
              rcases hov4 k e with e | e
              · exact a.2.1 e
              · have := a.2.2; omega⟩)
        obtain ⟨us, hul, huo, hu1, hup⟩ := FrmRows.pay (PB := fun k => g < k ∧ v4.ownBlock ≠ some k) hl4 u13 (fun k a b => ⟨⟨by omega, fun e => by
              rcases hov4 k e with e | e
              · have := (hvlt.out k e).2; omega
              · omega⟩, fun e => by have := (hgotb.out k e).2; omega⟩)
        have HRD4 := Lib.hid hrd4
        have HSF4 := Lib.hid hsf4
        have hR4 : Hid (Row8 w4 p rest) := Lib.hid (HRR.out.stays hst4 (fun _ a ha e => by
          have := HPG.out a ha
          rcases e with e | e
          · omega
          · have := (hvlt.out _ e).1; omega))
        obtain ⟨vs, hvl, hvo, hvp⟩ := hgot4
        have HUO := Lib.hid huo
        have HU1 := Lib.hid hu1
        have HUP := Lib.hid hup
        have HVO := Lib.hid hvo
        have HVP := Lib.hid hvp
        have HVL := Lib.hid hvl
        have HUL := Lib.hid hul
        obtain ⟨f1, hf1⟩ : ∃ f, f = (x.1) := ⟨_, rfl⟩
        rw [← hf1] at HF3 HUO HU1 HUP HUL
        have hlen : Hid (gs.length + f1.length ≤ 9) := Lib.hid (by
          have h1 := HFL.out
          rw [HFS.out, List.length_append, HF3.out, List.length_append] at h1
          omega)
        have hg4 : g ≤ w4.heap.size := by have := hst4.size; omega
        clear hl4 hrd4 hsf4 hst4 huo hu1 hup hvo hvp hvl hul hf1 hfe HGOT HRD HSF HKr htm hcell
        go_wp2_with (with_reducible refine wp_rowsapp (o := ⟨some 91, _, _, _, _, _⟩) ?_ (.tmp 89) (.tmp 90) 34 24 ?_ _ 2 40 Tryd.underlying34 frm_info ?_ ?_ ?_ g u13 gs.length (frmCells gs vs) ?_ HVO.out H4 l4 f1.length (frmCells f1 us) ?_ HUO.out HU1.out ?_ hg4 ?_
                     · rfl
                     · rfl
                     · rfl
                     · omega
                     · omega
                     · rfl
                     · rfl
                     · have := hlen.out; omega
                     intro v9 w9 ho9 hg9 hl9)
        have hJ : FrmRow2 w9 g (fun k => g < k ∧ v4.ownBlock ≠ some k) v9 (gs ++ f1) := FrmRow2.join HVL.out HUL.out HVP.out HUP.out ho9 hg9 hl9
        have hst9 : Stays (fun k => u13.ownBlock = some k) w4 w9 := Stays.of_grown hg9 (fun k h => h)
        have hty : ∀ (k : Nat) (t : TypeId) (cs : Array Value), Blk w4 k t cs → t ≠ 24 → u13.ownBlock ≠ some k := fun k t cs hb ht e => by
          rcases HVO.out.2 with ⟨e', _⟩ | ⟨g', cap, cur, e', _, hh, _⟩
          · rw [e'] at e; cases e
          · rw [e'] at e; injection e with e; subst e; exact ht (Blk.inj (t' := 24) hb hh).1
        have hrd9 : Rd w9 g v4 0 := Blk.stays HRD4.out hst9 (hty _ _ _ HRD4.out (by decide))
        have hsf9 : Sfx8 w9 g v4 x.2.1 := HSF4.out.stays hst9 (fun k hk e => by
          rcases HSF4.out with ⟨e', _⟩ | ⟨g', _, _, _, e', _, hh, _⟩
          · rw [e'] at hk; cases hk
          · rw [e'] at hk; injection hk with hk; subst hk; exact hty _ _ _ hh (by decide) e)
        have hr9 : Row8 w9 (cut8 p c N) (rest.drop N) := (hR4.out.stays hst9 (fun _ a ha e => by have := HPG.out a ha; have := (hgotb.out _ e).1; omega)).cut8 (by rw [HNN.out]; exact hnc)
        have hbc9 : Below g wc w9 := hbc4.trans (hst9.below hg4 (fun k hk => (hgotb.out k hk).1))
        have hpg9 : ∀ a, cut8 p c N = some a → a.block < g := fun a ha => by
          have h1 := own_cut8 p c N
          rw [ha] at h1
          cases p with
          | none => cases h1
          | some q =>
            injection h1 with h1
            have h2 : a.block = q.block := h1
            rw [h2]
            exact HPG.out q rfl
        go_roundw
        case rel => exact ⟨k + 1, x.2.1, rest.drop N, gs ++ f1, f3, cut8 p c N, n - N, c - N, v4, by omega, by go_num, rfl, Lib.hid hrd9, Lib.hid hsf9, Lib.hid hr9, Lib.hid (by rw [List.length_drop, HNN.out]), by omega, by omega, Lib.hid hpg9, Lib.hid hJ, HS3, Lib.hid (by rw [HFS.out, HF3.out, List.append_assoc]), hbc9, Blk.lt hrd9⟩
        case measure => simp [intOf]; omega
      · have hkmi : ¬ (k : Int) < (mz : Int) := by omega
        have hwb := hwc
        have HKr := Lib.hid ((HKc.out.below hbc (by omega : gTop ≤ g)))
        have hfp : feedP s 0 rest = (fs2, [], 0) := by
          unfold feedP
          rw [if_pos rfl, HST.out]
          exact stream_all (fun f hf => HTOK.out f (by rw [HFS.out]; exact List.mem_append_right _ hf))
        have hfe := feedE_any g g v s rest 0 p n c wr HKr.out (by omega) (Nat.le_refl _) HRD.out HSF.out (fun h => absurd rfl h) HRR.out HNN.out (by omega)
        rw [hfp] at hfe
        have HFE := Lib.hid hfe
        clear hfe hfp
        go_wp2_with fail
        refine HFE.out.mono ?_
        rintro e w4 ⟨l4, v4, H4, rfl, hH4, hl4, hrd4, hsf4, hst4, hov4⟩
        have hvlt : Hid (∀ k, v.ownBlock = some k → g ≤ k ∧ k < wr.heap.size) := Lib.hid HSF.out.lt
        have hgotb : Hid (∀ k, u13.ownBlock = some k → g ≤ k ∧ k < wr.heap.size) := Lib.hid HGOT.out.lt
        have hbc4 : Below g wc w4 := hbc.trans (hst4.below (by omega) (fun k hk => by
          rcases hk with e | e
          · omega
          · exact (hvlt.out k e).1))
        have hgot4 : FrmRow2 w4 g (fun _ => True) u13 gs := ((HGOT.out.imp (PB' := fun k => g < k ∧ v.ownBlock ≠ some k ∧ k < wr.heap.size) (fun k a b => ⟨a.1, a.2, b⟩)).stays hst4 (fun k hk e => by
            rcases e with e | e
            · subst e; exact HGOT.out.apart HRD.out (by decide) hk
            · rcases HSF.out with ⟨e', _⟩ | ⟨g', _, _, _, e', _, hh, _⟩
              · rw [e'] at e; cases e
              · rw [e'] at e; injection e with e; subst e; exact HGOT.out.apart hh (by decide) hk) (fun k a _ e => by
            rcases e with e | e
            · omega
            · exact a.2.1 e)).imp (fun _ _ _ => trivial)
        obtain ⟨us, hul, huo, hu1, hup⟩ := FrmRows.pay (PB := fun _ => True) hl4 u13 (fun k a b => ⟨trivial, fun e => by have := (hgotb.out k e).2; omega⟩)
        obtain ⟨vs, hvl, hvo, hvp⟩ := hgot4
        obtain ⟨pv, nv, cv, rfl, hnv, _⟩ := hsf4.row
        obtain rfl : nv = 0 := by have := hnv.out; simp at this; omega
        have HRD4 := Lib.hid hrd4
        have HUO := Lib.hid huo
        have HU1 := Lib.hid hu1
        have HUP := Lib.hid hup
        have HVO := Lib.hid hvo
        have HVP := Lib.hid hvp
        have HVL := Lib.hid hvl
        have HUL := Lib.hid hul
        have hlen : Hid (gs.length + fs2.length ≤ 9) := Lib.hid (by
          have h1 := HFL.out
          rw [HFS.out, List.length_append] at h1
          omega)
        have hg4 : g ≤ w4.heap.size := by have := hst4.size; omega
        clear hl4 hrd4 hsf4 hst4 huo hu1 hup hvo hvp hvl hul HFE HGOT HRD HSF HKr hov4
        go_wp2_with (with_reducible refine wp_rowsapp (o := ⟨some 107, _, _, _, _, _⟩) ?_ (.tmp 105) (.tmp 106) 34 24 ?_ _ 2 40 Tryd.underlying34 frm_info ?_ ?_ ?_ g u13 gs.length (frmCells gs vs) ?_ HVO.out H4 l4 fs2.length (frmCells fs2 us) ?_ HUO.out HU1.out ?_ hg4 ?_
                     · rfl
                     · rfl
                     · rfl
                     · omega
                     · omega
                     · rfl
                     · rfl
                     · have := hlen.out; omega
                     intro v9 w9 ho9 hg9 hl9
                     have hJ : FrmRow2 w9 g (fun _ => True) v9 (gs ++ fs2) := FrmRow2.join HVL.out HUL.out HVP.out HUP.out ho9 hg9 hl9
                     obtain ⟨p9, c9, rfl, hc9, hm9, hat9⟩ := hJ.at)
        have hst9 : Stays (fun k => u13.ownBlock = some k) w4 w9 := Stays.of_grown hg9 (fun k h => h)
        have hrd9 : Rd w9 g (.slice pv 0 cv) 0 := Blk.stays HRD4.out hst9 (fun e => by
          rcases HVO.out.2 with ⟨e', _⟩ | ⟨g', cap, cur, e', _, hh, _⟩
          · rw [e'] at e; cases e
          · rw [e'] at e; injection e with e; subst e; exact absurd (Blk.inj (t' := 24) HRD4.out hh).1 (by decide))
        have hbc9 : Below g wc w9 := hbc4.trans (hst9.below hg4 (fun k hk => (hgotb.out k hk).1))
        have hwat9 := HWAT.out.fut (by rw [← HG.out]; exact hbc9)
        have hgl : gs.length + fs2.length = nw := by rw [← HNW.out, HFS.out, List.length_append]
        rw [← HFS.out] at hat9 hc9
        rw [HNW.out] at hc9
        rw [hgl]
        have hsf := sameFrames_any p9 pw nw c9 nw cw fs fs w9 HNW.out HNW.out hc9 hm9 hwc1 hwc2 hat9 hwat9
        rw [decide_eq_true rfl] at hsf
        refine hsf.mono ?_
        rintro e w10 ⟨rfl, hb10⟩
        have hrd10 : Rd w10 g (.slice pv 0 cv) 0 := Blk.fut hrd9 hb10
        have hbw10 : Below w.heap.size w w10 := hbw.trans ((hbc9.mono hwb).trans (hb10.mono (by have h1 := hbc9.size; have h2 := HG.out; omega)))
        clear hsf hat9 hwat9 hb10 hbc9 hrd9 ho9 hg9 hl9 hJ
        go_wp2_with fail
        refine (left_any _ _ _ _ _ _ _ hrd10).mono ?_
        rintro e w11 ⟨rfl, hw⟩
        replace hw := hw.symm
        subst hw
        go_wp2_with fail
        go_ret
        exact ⟨rfl, hbw10⟩
end Go.Proofs.YtikjhnbehihbjaaDoor
