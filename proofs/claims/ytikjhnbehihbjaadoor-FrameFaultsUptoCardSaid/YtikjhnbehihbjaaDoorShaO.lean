/- Two hashes compared; the reference's sums, said with hCells; make([]byte, n). -/
import Derived.Test.YtikjhnbehihbjaaDoorShaN
import Derived.Test.YtikjhnbehihbjaaDoorBytes
namespace Go.Proofs.YtikjhnbehihbjaaDoor
open Go.RowKit

theorem of_fn32 {α : Type} (p : List α) (n : Nat) (h : p.length = n) : ∃ x : Fin n → α, p = List.ofFn x := by
  subst h
  exact ⟨fun i => p[i], List.ofFn_getElem.symm⟩
def hLits (l : List (BitVec 8)) : List Lit := l.map fun x => .int .u8 (iv8 x)
theorem mapM_someH {α β : Type} {f : α → Option β} (g : α → β) : ∀ (l : List α), (∀ i ∈ l, f i = some (g i)) → l.mapM f = some (l.map g)
  | [], _ => rfl
  | i :: l, h => by
    rw [List.mapM_cons, h i (by simp), mapM_someH g l (fun j hj => h j (by simp [hj]))]
    rfl
theorem litsH_u8 (d : Nat) (x : BitVec 8) : Tryd.prog.keyLits (d + 1) 5 [u8 x] = some [.int .u8 (iv8 x)] := by
  unfold Program.keyLits
  rw [Tryd.underlying5]
  simp only [wf8 x, and_self, if_true]
theorem cellsOfHash : Tryd.prog.cellsOf 59 = 32 := by kernel_rfl
theorem cellsOfByte : Tryd.prog.cellsOf 5 = 1 := by kernel_rfl
theorem hLits_of (d : Nat) (p : List (BitVec 8)) (hp : p.length = 32) : Tryd.prog.keyLits (d + 2) 59 (hCells p) = some (hLits p) := by
  unfold Program.keyLits hCells
  rw [Tryd.underlying59]
  simp only [cellsOfHash, cellsOfByte, List.length_map, hp, if_true]
  rw [mapM_someH (fun i => [Lit.int .u8 (iv8 (p[i]?.getD 0#8))]) (List.range 32) (fun i hi => by
    have hi' : i < 32 := List.mem_range.1 hi
    have hx : p[i]? = some (p[i]'(by omega)) := List.getElem?_eq_getElem (by omega)
    have e : ((p.map u8).drop (i * 1)).take 1 = [u8 (p[i]'(by omega))] := by
      rw [Nat.mul_one, List.drop_eq_getElem_cons (by simp; omega)]
      simp
    rw [e, litsH_u8, hx]
    rfl)]
  unfold hLits
  obtain ⟨x, rfl⟩ := of_fn32 p 32 hp
  kernel_rfl
theorem hash_formed (p : List (BitVec 8)) (hp : p.length = 32) : (Value.agg (hCells p).toArray).formed Tryd.prog 59 = true := by
  obtain ⟨x, rfl⟩ := of_fn32 p 32 hp
  kernel_rfl
theorem hLits_inj {p q : List (BitVec 8)} : hLits p = hLits q ↔ p = q := by
  constructor
  · intro h
    refine List.map_inj_right (f := fun x => Lit.int .u8 (iv8 x)) (fun x y hxy => ?_) |>.1 h
    injection hxy with _ h2
    exact iv8_inj.1 h2
  · rintro rfl; rfl
set_option maxRecDepth 100000 in
/-- two hashes compared -/
theorem hash_eq (p q : List (BitVec 8)) (hp : p.length = 32) (hq : q.length = 32) (w : World) :
    (Op.equalIn 10000 59 (.agg (hCells p).toArray) (.agg (hCells q).toArray)).run Tryd.prog w = .ok (decide (p = q)) w := by
  obtain ⟨r, hr, hiff⟩ := run_equalIn_deep (10000 - 3) 3 59 (by kernel_rfl) w 3 3 _ _ (hLits p) (hLits q) (hash_formed p hp) (hash_formed q hq) (hLits_of 1 p hp) (hLits_of 1 q hq)
  rw [show 10000 - 3 + 3 = 10000 by omega] at hr
  rw [hr]
  congr 1
  rw [Bool.eq_iff_iff, hiff, hLits_inj, decide_eq_true_iff]
theorem hash_same (p : List (BitVec 8)) (hp : p.length = 32) (w : World) :
    (Op.equalIn 10000 59 (.agg (hCells p).toArray) (.agg (hCells p).toArray)).run Tryd.prog w = .ok true w := by
  rw [hash_eq p p hp hp, decide_eq_true rfl]
theorem refSum_h (p : Option Addr) (n c : Nat) (bs : List (BitVec 8)) (w : World) (hr : Row8 w p bs) (hn : bs.length = n) (hbig : n ≤ 140737488355000) :
    Calls Tryd.prog 36 #[.slice p n c] w fun e w' => e = .returned (.agg (hCells (sha bs)).toArray) ∧ Below w.heap.size w w' := refSum_any p n c bs w hr hn hbig

theorem act_put_noneD (cs : Array Value) (ds : List Deferred) (v : Value) : (Act.mk cs ds).put none v = ⟨cs, ds⟩ := rfl

/-- make([]byte, j) -/
theorem make8 (w : World) (j : Nat) (h : j ≤ 140737488355328) : (Instr.makeSlice 22 (.int .i64 (j : Int)) (.int .i64 (j : Int))).run Tryd.prog w = .ok (.slice (some ⟨w.heap.size, 0, none⟩) j j) (w.alloc (.cells ((noughts j).map u8).toArray 5)) := by
  obtain ⟨i0, hi, hz0, hz1, hz2⟩ := info_parts u8info
  have hr := run_make (P := Tryd.prog) w 22 5 i0 (.int .u8 0) Tryd.underlying22 hi hz0 .i64 .i64 (j : Int) (j : Int) (by omega) (Int.le_refl _) (by rw [hz2]; omega) (by omega)
  rw [hr, Int.toNat_natCast, hz1, Nat.mul_one]
  have e : madeCells (Value.int IntKind.u8 0).cells j = ((noughts j).map u8).toArray := by
    unfold madeCells noughts
    refine Array.ext' ?_
    refine List.ext_getElem (by simp) fun i h1 h2 => ?_
    simp [Value.cells, u8, iv8, Nat.mod_one]
  rw [e]
end Go.Proofs.YtikjhnbehihbjaaDoor
