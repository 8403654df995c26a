/- Contracts: inverse words. -/
import Derived.Test.YtkgdbobhppmaiaaDoorBrd
import Derived.Test.YtkgdbobhppmaiaaDoorSwp
namespace Go.Proofs.YtkgdbobhppmaiaaDoor
open Go.RowKit

/-- 'make([]T, 0, n)' -/
def capV (w : World) (n : Nat) : Value := .slice (some ⟨w.heap.size, 0, none⟩) 0 n
theorem own_cap (w : World) (e : TypeId) (n : Nat) (z : Value) (hn : n ≤ 9223372036854775807) {B : Nat} (hB : B ≤ w.heap.size) :
    Own (madeW w e z n) B e (capV w n) [] :=
  .inr ⟨w.heap.size, 0, n, madeCells #[z] n, by simp [capV], hB, heap_alloc_new w _, by simp, hn, by simp [madeCells], by simp⟩
theorem cap_run {P : Program} {T e : TypeId} {z : Value} {b : Nat} (hT : P.underlying T = some (.slice e)) (hi : (P.info? e).map (fun i => (i.zero, i.size, i.bytes)) = some (some z, 1, b)) (hz : z.cells = #[z])
    (n : Int) (h0 : 0 ≤ n) (hb : (b : Int) * n ≤ 281474976710656) (hn : n ≤ 1099511627776) (w : World) :
    (Instr.makeSlice T (.int .i64 0) (.int .i64 n)).run P w = .ok (capV w n.toNat) (madeW w e z n.toNat) := by
  obtain ⟨i, hi, hz', h1, h8⟩ := info_parts hi
  have hr := run_make (P := P) w T e i z hT hi hz' .i64 .i64 0 n (by omega) h0 (by rw [h8]; omega) (by omega)
  rw [hr, h1, hz]; simp [capV, madeW]

/-- the inverse of a word -/
def invW (l : List Int) : List Int := l.reverse.map (- ·)
@[simp] theorem length_invW (l : List Int) : (invW l).length = l.length := by simp [invW]
theorem nth_invW {l : List Int} {i : Nat} (h : i < l.length) : nth (invW l) i = - nth l (l.length - 1 - i) := by
  rw [invW, nth_map _ (by simpa using h), nth_reverse h]
theorem invW_take {l : List Int} {k : Nat} (h : k < l.length) : (invW l).take (k + 1) = (invW l).take k ++ [- nth l (l.length - 1 - k)] := by
  rw [List.take_add_one, nth_of (by simpa using h), nth_invW h]; rfl


set_option maxRecDepth 100000 in
set_option maxHeartbeats 1000000 in
theorem inv_impl' (v : Value) (l : List Int) (w : World) (h : Reads w v (ints l)) (hl : l.length ≤ 1048576) (hr : ∀ k, k < l.length → -1000 ≤ nth l k ∧ nth l k ≤ 1000) :
    Calls Tryd.prog 76 #[v] w fun e w' => ∃ u, e = .returned u ∧ Own w' w.heap.size 2 u (ints (invW l)) ∧ Below w.heap.size w w' := by
  have hs := h.small
  have hlen := h.len (P := Tryd.prog) 35 3 ⟨_, sliceI⟩
  simp only [length_ints] at hs hlen
  have hmk := cap_run sliceI infoI rfl l.length (by omega) (by omega) (by omega)
  simp only [Int.toNat_natCast] at hmk
  go_enter Tryd.func76, Tryd.ntmps76
  go_wp2_with fail
  go_loopw [3, 4] (fun u i wr => ∃ k : Nat, k ≤ l.length ∧ i = .int .i64 ((l.length : Int) - 1 - k) ∧ Own wr w.heap.size 2 u (ints ((invW l).take k)) ∧ Below w.heap.size w wr) (fun _ i _ => (intOf i + 1).toNat)
  case atStart =>
    exact ⟨0, by omega, by simp, own_cap w _ _ _ (by omega) (Nat.le_refl _), below_made _ _ _ _⟩
  case round =>
    obtain ⟨k, hk, rfl, hown, hb⟩ := hrel
    by_cases hlt : k < l.length
    · have hge : 0 ≤ (l.length : Int) - 1 - k := by omega
      have hi := h.idx 35 sliceI sizeI .i64 ((l.length : Int) - 1 - k) (by omega) (by simp; omega)
      rw [show ((l.length : Int) - 1 - k).toNat = l.length - 1 - k by omega] at hi
      have hc := (h.below hb).int (i := l.length - 1 - k) (by omega)
      have hra := hr (l.length - 1 - k) (by omega)
      obtain ⟨v', w', hrun, hown', hb'⟩ := app_one (ty := 35) (x := .int .i64 (- nth l (l.length - 1 - k))) sliceI infoI rfl hown rfl hb.size (by simp; omega) (by decide) hb (Nat.le_refl _)
      have hst : Own w' w.heap.size 2 v' (ints ((invW l).take (k + 1))) := by rw [invW_take hlt]; simpa [ints] using hown'
      clear hown' hr
      generalize nth l (l.length - 1 - k) = a at *
      go_wp2_with (at_builtin; refine wpList_app hrun rfl _ _ rfl rfl rfl ?_)
      go_roundw
      case rel => exact ⟨k + 1, by omega, by go_num, hst, hb'⟩
      case measure => simp [intOf]; omega
    · obtain rfl : k = l.length := by omega
      have hge : ¬ 0 ≤ (l.length : Int) - 1 - l.length := by omega
      go_wp2_with fail
      go_ret
      refine ⟨_, rfl, ?_, hb⟩
      rw [List.take_of_length_le (by simp)] at hown
      exact hown


end Go.Proofs.YtkgdbobhppmaiaaDoor
