/- Contracts: ranks. -/
import Derived.Test.YtgibgcjpehcemaaWpf
import Derived.Test.YtgibgcjpehcemaaSli
import Derived.Test.YtgibgcjpehcemaaDel
import Derived.Test.YtgibgcjpehcemaaApq
namespace Go.Proofs.Ytgibgcjpehcemaa
open Go.RowKit

theorem vint {k : IntKind} {a b : Int} (h : a = b) : Value.int k a = .int k b := by rw [h]
def invRow (l : List Int) (j : Nat) : Nat → Bool := fun i => decide (nth l j < nth l i)
theorem invsF_eq (l : List Int) : invsF l = sumTo (fun j => cnt (invRow l j) j) l.length := rfl
theorem cnt_bd (f : Nat → Bool) {k : Nat} {b : Int} (h : k ≤ b) : 0 ≤ cnt f k ∧ cnt f k ≤ b := ⟨cnt_nonneg f k, by have := cnt_le f k; omega⟩
theorem sum_bd (f : Nat → Int) {k : Nat} (hk : k ≤ 12) (h : ∀ i, i < k → 0 ≤ f i ∧ f i ≤ 12) : 0 ≤ sumTo f k ∧ sumTo f k ≤ 144 := by
  have h1 := sumTo_nonneg (f := f) (k := k) (fun i hi => (h i hi).1)
  have h2 := sumTo_le (f := f) (k := k) (b := 12) (fun i hi => (h i hi).2)
  omega

theorem nth_drop {l : List Int} {k t : Nat} : nth (l.drop k) t = nth l (k + t) := by simp [nth]
def invRow2 (l : List Int) (i : Nat) : Nat → Bool := fun t => decide (nth l (i + t) < nth l i)
theorem invsF_eq2 (l : List Int) : invsF l = sumTo (fun i => cnt (invRow2 l i) (l.length - i)) l.length := (invs_rows l).symm
/-- -1 where the test fails -/
def orLess (b : Bool) (n : Int) : Int := if b = true then n else -1

set_option maxHeartbeats 2000000 in
theorem InversionsI (v : Value) (l : List Int) (w : World) (h : Reads w v (ints l)) :
    Calls Try.prog 35 #[v] w fun e w' => e = .returned (.int .i64 (orLess (okP l) (invsF l))) ∧ Below w.heap.size w w' := by
  rw [invsF_eq2]
  have hs := h.small
  have hlen := h.len (P := Try.prog) 22 3 ⟨_, sliceI⟩
  simp only [length_ints] at hs hlen
  cases e1 : okP l with
  | false =>
    go_enter Try.func35, Try.ntmps35
    go_wp2_with fail
    refine (ok_impl _ _ _ h).mono ?_
    rintro e w1 ⟨rfl, hb⟩
    rw [e1]
    go_wp2_with fail
    go_ret
    exact ⟨rfl, hb⟩
  | true =>
    obtain ⟨h12, hp⟩ := okP_of e1
    clear hp
    go_enter Try.func35, Try.ntmps35
    go_wp2_with fail
    refine (ok_impl _ _ _ h).mono ?_
    rintro e w1 ⟨rfl, hb⟩
    rw [e1]
    go_wp2_with fail
    go_loop [3, 4, 6, 12] (fun n _ _ j => ∃ k : Nat, k ≤ l.length ∧ j = .int .i64 k ∧ n = .int .i64 (sumTo (fun i => cnt (invRow2 l i) (l.length - i)) k)) (fun _ _ _ j => l.length - (intOf j).toNat)
    case atStart => exact ⟨0, by omega, rfl, rfl⟩
    case round =>
      obtain ⟨k, hk, rfl, rfl⟩ := hrel
      obtain ⟨S0, S1⟩ := sum_bd (fun i => cnt (invRow2 l i) (l.length - i)) (k := k) (by omega) (fun i hi => cnt_bd _ (by omega))
      by_cases hlt : k < l.length
      · have hsl := h.onwards_run sliceI sizeI .i64 k (by omega) (by simp; omega)
        simp only [Int.toNat_natCast] at hsl
        have hon : Reads w1 (onwards v k) (ints (l.drop k)) := by
          have := (h.below hb).onwards k (by simp; omega)
          simpa [ints, List.map_drop] using this
        have hlen2 := hon.len (P := Try.prog) 22 3 ⟨_, sliceI⟩
        simp only [length_ints, List.length_drop] at hlen2
        generalize hm : l.length - k = m at *
        have hM := hid hm
        clear hm
        go_wp2_with fail
        go_loop [3, 6, 19] (fun n _ i => ∃ t : Nat, t ≤ m ∧ i = .int .i64 t ∧ n = .int .i64 (sumTo (fun i => cnt (invRow2 l i) (l.length - i)) k + cnt (invRow2 l k) t)) (fun _ _ i => m - (intOf i).toNat)
        case atStart => exact ⟨0, by omega, rfl, by simp [cnt]⟩
        case round =>
          obtain ⟨t, ht, rfl, rfl⟩ := hrel
          have hm12 : m ≤ 12 := by have := hM.out; omega
          obtain ⟨C0, C1⟩ := cnt_bd (invRow2 l k) (k := t) (b := 12) (by omega)
          by_cases htk : t < m
          · have hdl : (ints (l.drop k)).length = m := by have := hM.out; simpa using this
            have hi := hon.idx 22 sliceI sizeI .i64 t (by omega) (by rw [hdl]; omega)
            have hi2 := h.idx 22 sliceI sizeI .i64 k (by omega) (by simp; omega)
            simp only [Int.toNat_natCast] at hi hi2
            have hc := hon.int (i := t) (by have := hM.out; simp; omega)
            rw [nth_drop] at hc
            have hc2 := (h.below hb).int (i := k) (by omega)
            clear hdl
            cases e : decide (nth l (k + t) < nth l k) with
            | true =>
              have he : Hid (invRow2 l k t = true) := hid e
              go_wp2_with fail
              go_round
              case rel => exact ⟨t + 1, by omega, by go_num, vint (by rw [cnt_yes he.out]; omega)⟩
              case measure => simp [intOf]; omega
            | false =>
              have he : Hid (invRow2 l k t = false) := hid e
              go_wp2_with fail
              go_round
              case rel => exact ⟨t + 1, by omega, by go_num, vint (by rw [cnt_no he.out])⟩
              case measure => simp [intOf]; omega
          · obtain rfl : t = m := by omega
            go_wp2_with fail
            go_round
            case rel => exact ⟨k + 1, by omega, by go_num, vint (by rw [sumTo_succ, hM.out])⟩
            case measure => simp [intOf]; omega
      · obtain rfl : k = l.length := by omega
        go_wp2_with fail
        go_ret
        exact ⟨rfl, hb⟩

end Go.Proofs.Ytgibgcjpehcemaa

namespace Go.Proofs.Ytgibgcjpehcemaa
open Go.RowKit

/-- 1 · 2 · .. · n -/
def fac : Nat → Int
  | 0 => 1
  | n + 1 => fac n * ((n : Int) + 1)
theorem fac_pos (n : Nat) : 1 ≤ fac n := by
  induction n with
  | zero => decide
  | succ n ih =>
    have : 1 * ((n : Int) + 1) ≤ fac n * ((n : Int) + 1) := Int.mul_le_mul_of_nonneg_right ih (by omega)
    rw [fac]; omega
theorem fac_mono {n m : Nat} (h : n ≤ m) : fac n ≤ fac m := by
  induction m with
  | zero => obtain rfl : n = 0 := by omega
            exact Int.le_refl _
  | succ m ih =>
    by_cases e : n = m + 1
    · subst e; exact Int.le_refl _
    · have h1 := ih (by omega)
      have h2 : fac m * 1 ≤ fac m * ((m : Int) + 1) := Int.mul_le_mul_of_nonneg_left (by omega) (by have := fac_pos m; omega)
      rw [fac]; omega
theorem fac_12 {n : Nat} (h : n ≤ 12) : 1 ≤ fac n ∧ fac n ≤ 479001600 := by
  refine ⟨fac_pos n, ?_⟩
  have := fac_mono h
  have e : fac 12 = 479001600 := by decide
  omega

end Go.Proofs.Ytgibgcjpehcemaa

namespace Go.Proofs.Ytgibgcjpehcemaa
open Go.RowKit

/-- 1 · 2 · .. · n, a natural number -/
def facN : Nat → Nat
  | 0 => 1
  | n + 1 => facN n * (n + 1)
theorem fac_N (n : Nat) : fac n = (facN n : Int) := by
  induction n with
  | zero => rfl
  | succ n ih => rw [fac, facN, ih]; simp
theorem facN_pos (n : Nat) : 1 ≤ facN n := by have := fac_pos n; rw [fac_N] at this; omega
/-- the digit of r at place j, of n places -/
def digN (n r j : Nat) : Nat := r / facN (n - 1 - j) % (n - j)
def digL (n r : Nat) : List Int := (List.range n).map fun j => (digN n r j : Int)
@[simp] theorem length_digL (n r : Nat) : (digL n r).length = n := by simp [digL]
theorem nth_digL {n r j : Nat} (h : j < n) : nth (digL n r) j = (digN n r j : Int) := by simp [nth, digL, h]
theorem digN_lt {n r j : Nat} (h : j < n) : digN n r j < n - j := Nat.mod_lt _ (by omega)

/-- what is left behind k picks, and what was picked -/
def restTo (l : List Int) (n r : Nat) : Nat → List Int
  | 0 => l
  | k + 1 => (restTo l n r k).eraseIdx (digN n r k)
def pickTo (l : List Int) (n r : Nat) : Nat → List Int
  | 0 => []
  | k + 1 => pickTo l n r k ++ [nth (restTo l n r k) (digN n r k)]
theorem length_restTo (n r : Nat) {k : Nat} (h : k ≤ n) : (restTo (idn n) n r k).length = n - k := by
  induction k with
  | zero => simp [restTo]
  | succ k ih =>
    have := ih (by omega)
    have hd := digN_lt (n := n) (r := r) (j := k) (by omega)
    rw [restTo, List.length_eraseIdx_of_lt (by omega)]; omega
@[simp] theorem length_pickTo (l : List Int) (n r k : Nat) : (pickTo l n r k).length = k := by
  induction k with
  | zero => rfl
  | succ k ih => simp [pickTo, ih]
/-- the permutation of n things with rank r -/
def atF (n r : Nat) : List Int := pickTo (idn n) n r n
/-- whether there is one -/
def hasRank (n r : Int) : Bool := inB n 0 12 && inB r 0 (fac n.toNat - 1)
theorem hasRank_long {n r : Int} (h : inB n 0 12 = false) : hasRank n r = false := by simp [hasRank, h]

theorem div_step (r i : Nat) : r / facN (i + 1) = r / facN i / (i + 1) := by rw [facN, Nat.div_div_eq_div_mul]
theorem digN_spec {n r j : Nat} (_h : j < n) : r % facN (n - j) / facN (n - 1 - j) = digN n r j := by
  have e : n - j = (n - 1 - j) + 1 := by omega
  unfold digN
  rw [e, facN, Nat.mod_mul_right_div_self]
theorem mod_step {n r j : Nat} (_h : j < n) : r % facN (n - j) % facN (n - 1 - j) = r % facN (n - 1 - j) := by
  have e : n - j = (n - 1 - j) + 1 := by omega
  rw [e, facN, Nat.mod_mul_right_mod]

/-- the digits are written from behind -/
def digTo (n r i : Nat) : List Int := (List.range n).map fun j => if n ≤ i + j then (digN n r j : Int) else 0
@[simp] theorem length_digTo (n r i : Nat) : (digTo n r i).length = n := by simp [digTo]
theorem digTo_zero (n r : Nat) : digTo n r 0 = List.replicate n 0 := by
  apply List.ext_getElem (by simp)
  intro j h1 h2
  simp at h1
  simp [digTo]; omega
theorem digTo_all (n r : Nat) : digTo n r n = digL n r := by simp [digTo, digL]
theorem digTo_step {n r i : Nat} (h : i < n) : (digTo n r i).set (n - 1 - i) ((r / facN i % (i + 1) : Nat) : Int) = digTo n r (i + 1) := by
  apply List.ext_getElem (by simp)
  intro j h1 h2
  simp at h1
  rw [List.getElem_set]
  simp only [digTo, List.getElem_map, List.getElem_range]
  by_cases e : n - 1 - i = j
  · subst e
    have e1 : n - 1 - (n - 1 - i) = i := by omega
    have e2 : n - (n - 1 - i) = i + 1 := by omega
    rw [if_pos rfl, if_pos (by omega), digN, e1, e2]
  · rw [if_neg e]
    by_cases e1 : n ≤ i + j
    · rw [if_pos e1, if_pos (by omega)]
    · rw [if_neg e1, if_neg (by omega)]

set_option maxHeartbeats 4000000 in
theorem AtI (n r : Int) (w : World) (bn : -9223372036854775808 ≤ n ∧ n ≤ 9223372036854775807) (br : -9223372036854775808 ≤ r ∧ r ≤ 9223372036854775807) :
    Calls Try.prog 36 #[.int .i64 n, .int .i64 r] w fun e w' => ∃ x, e = .returned (.tuple #[x, .bool (hasRank n r)]) ∧ Own w' w.heap.size 2 x (ints (onlyIf (hasRank n r) (atF n.toNat r.toNat))) ∧ Below w.heap.size w w' := by
  cases e1 : inB n 0 12 with
  | false =>
    have hno := hasRank_long (r := r) e1
    go_enter Try.func36, Try.ntmps36
    go_wp2_with fail
    refine (in_impl _ _ _ _).mono ?_
    rintro e w1 ⟨rfl, rfl⟩
    rw [e1]
    go_wp2_with fail
    go_ret2
    exact ⟨_, by rw [hno]; rfl, by rw [hno]; exact own_nil _ _ _, Below.refl _ _⟩
  | true =>
    obtain ⟨x0, x1⟩ := inB_yes e1
    obtain ⟨m, rfl⟩ := Int.eq_ofNat_of_zero_le x0
    rw [Int.toNat_natCast]
    have m12 : m ≤ 12 := by omega
    have hmk := make_run sliceI infoI rfl (m : Int) (by omega) (by omega) (by omega)
    rw [Int.toNat_natCast] at hmk
    have hM0 := own_made w 2 m (.int .i64 0) (by omega) (Nat.le_refl _)
    have hlenM := hM0.reads.len (P := Try.prog) 22 3 ⟨_, sliceI⟩
    simp only [List.length_replicate] at hlenM
    clear hM0
    by_cases hr : r < 0
    · have hno : hasRank m r = false := by simp [hasRank, inB]; omega
      go_enter Try.func36, Try.ntmps36
      go_wp2_with fail
      refine (in_impl _ _ _ _).mono ?_
      rintro e w1 ⟨rfl, rfl⟩
      rw [e1]
      go_wp2_with fail
      go_loopw [7, 8, 20] (fun q _ i wr => ∃ k : Nat, k ≤ m ∧ i = .int .i64 k ∧ (∃ y, q = .int .i64 y) ∧ (∃ ds : List Int, ds.length = m ∧ Own wr w.heap.size 2 (madeV w m) (ints ds)) ∧ Below w.heap.size w wr) (fun _ _ i _ => m - (intOf i).toNat)
      case atStart =>
        refine ⟨0, by omega, rfl, ⟨_, rfl⟩, ⟨List.replicate m 0, by simp, ?_⟩, below_made _ _ _ _⟩
        have := own_made w 2 m (.int .i64 0) (by omega) (Nat.le_refl _)
        simpa [ints] using this
      case round =>
        obtain ⟨k, hk, rfl, ⟨y, rfl⟩, ⟨ds, hdl, hown⟩, hb⟩ := hrel
        by_cases hlt : k < m
        · have hi := hown.reads.idx 22 sliceI sizeI .i64 ((m : Int) - 1 - k) (by omega) (by simp; omega)
          rw [show ((m : Int) - 1 - k).toNat = m - 1 - k by omega] at hi
          have hd := hown.reads.cell (m - 1 - k) _ (ints_at (by omega))
          have hf := hown.frozen (i := m - 1 - k) (by simp; omega)
          have hab := (hown.adr_blk (i := m - 1 - k) (by simp; omega)).2.1
          have hst := fun u => hown.set (i := m - 1 - k) (by simp; omega) (.int .i64 u)
          have hz : ((k : Int) + 1 == 0) = false := by rw [beq_eq_false_iff_ne]; omega
          have hz2 : ((k : Int) + 1 == -1) = false := by rw [beq_eq_false_iff_ne]; omega
          have hST := hid hst
          have hDL := hid hdl
          clear hst hdl
          go_wp2_with fail
          go_roundw
          case rel =>
            refine ⟨k + 1, by omega, by go_num, ⟨_, rfl⟩, ⟨_, ?_, by have := hST.out; simp only [ints_set] at this; exact this _⟩, hb.setCell hab _⟩
            simp [hDL.out]
          case measure => simp [intOf]; omega
        · go_wp2_with fail
          go_ret2
          exact ⟨_, by rw [hno]; rfl, by rw [hno]; exact own_nil _ _ _, hb⟩
    · obtain ⟨R, rfl⟩ := Int.eq_ofNat_of_zero_le (show 0 ≤ r by omega)
      rw [Int.toNat_natCast]
      go_enter Try.func36, Try.ntmps36
      go_wp2_with fail
      refine (in_impl _ _ _ _).mono ?_
      rintro e w1 ⟨rfl, rfl⟩
      rw [e1]
      go_wp2_with fail
      go_loopw [7, 8, 20] (fun q _ i wr => ∃ k : Nat, k ≤ m ∧ i = .int .i64 k ∧ (∃ y : Nat, q = .int .i64 y ∧ Hid (y = R / facN k)) ∧ Own wr w.heap.size 2 (madeV w m) (ints (digTo m R k)) ∧ Below w.heap.size w wr) (fun _ _ i _ => m - (intOf i).toNat)
      case atStart =>
        refine ⟨0, by omega, rfl, ⟨R, rfl, hid (by simp [facN])⟩, ?_, below_made _ _ _ _⟩
        have := own_made w 2 m (.int .i64 0) (by omega) (Nat.le_refl _)
        rw [digTo_zero]; simpa [ints] using this
      case round =>
        obtain ⟨k, hk, rfl, ⟨y, rfl, hy⟩, hown, hb⟩ := hrel
        have hyR : y ≤ R := by rw [hy.out]; exact Nat.div_le_self _ _
        by_cases hlt : k < m
        · have hi := hown.reads.idx 22 sliceI sizeI .i64 ((m : Int) - 1 - k) (by omega) (by simp; omega)
          rw [show ((m : Int) - 1 - k).toNat = m - 1 - k by omega] at hi
          have hd := hown.reads.cell (m - 1 - k) _ (ints_at (by simp; omega))
          have hf := hown.frozen (i := m - 1 - k) (by simp; omega)
          have hab := (hown.adr_blk (i := m - 1 - k) (by simp; omega)).2.1
          have hst := hown.set (i := m - 1 - k) (by simp; omega) (.int .i64 ((y : Int) % ((k : Int) + 1)))
          have he : ((y : Int) % ((k : Int) + 1)) = ((R / facN k % (k + 1) : Nat) : Int) := by rw [← hy.out]; simp
          rw [ints_set, he, digTo_step hlt, ← he] at hst
          have hE := hid he
          clear he
          have hq0 : 0 ≤ (y : Int) / ((k : Int) + 1) := Int.ediv_nonneg (by omega) (by omega)
          have hq1 : (y : Int) / ((k : Int) + 1) ≤ 9223372036854775807 := Int.le_trans (Int.ediv_le_self _ (by omega)) (by omega)
          have hy2 : Hid (((y : Int) / ((k : Int) + 1)) = ((R / facN (k + 1) : Nat) : Int)) := hid (by rw [div_step, ← hy.out]; simp)
          go_wp2_with fail
          go_roundw
          case rel => exact ⟨k + 1, by omega, by go_num, ⟨_, by rw [hy2.out], hid rfl⟩, hst, hb.setCell hab _⟩
          case measure => simp [intOf]; omega
        · obtain rfl : k = m := by omega
          by_cases hR : R < facN k
          · have hyes : Hid (hasRank k R = true) := hid (by simp [hasRank, inB, fac_N]; omega)
            have hy0 : y = 0 := by rw [hy.out]; exact Nat.div_eq_of_lt hR
            subst hy0
            rw [digTo_all] at hown
            go_wp2_with fail
            refine (idn_impl _ _ (by omega) (by omega)).mono ?_
            rintro e w2 ⟨x, rfl, hox, hs⟩
            rw [Int.toNat_natCast] at hox
            have hap := (apart_new hown hox)
            have hown2 := hown.below hs
            have hb2 := hb.trans (hs.mono hb.size)
            have hox2 := hox.mono hb.size
            clear hown hb hox hs
            go_wp2_with fail
            have hE0 := own_empty w2 2 (Nat.le_refl w2.heap.size)
            have hap2 := apart_new hown2 hE0
            have hap3 := apart_new hox2 hE0
            have hlenD := hown2.reads.len (P := Try.prog) 22 3 ⟨_, sliceI⟩
            simp only [length_ints, length_digL] at hlenD
            go_loopw [9, 10, 12, 49] (fun x y _ i wr => ∃ j : Nat, j ≤ k ∧ i = .int .i64 j ∧ Own wr w.heap.size 2 (madeV w k) (ints (digL k R)) ∧ Own wr w.heap.size 2 x (ints (restTo (idn k) k R j)) ∧ Own wr w.heap.size 2 y (ints (pickTo (idn k) k R j)) ∧ Apart (madeV w k) x ∧ Apart (madeV w k) y ∧ Apart x y ∧ Below w.heap.size w wr) (fun _ _ _ i _ => k - (intOf i).toNat)
            case atStart =>
              exact ⟨0, by omega, rfl, own_alloc hown2 _, own_alloc hox2 _, hE0.mono hb2.size, hap, hap2, hap3, hb2.alloc hb2.size _⟩
            case round =>
              clear hown2 hox2 hap hap2 hap3 hb2 hE0
              obtain ⟨j, hj, rfl, hoD, hoX, hoY, ap1, ap2, ap3, hb⟩ := hrel
              by_cases hjk : j < k
              · have hdl := digN_lt (n := k) (r := R) hjk
                have hrl := length_restTo k R (k := j) (by omega)
                have hi := hoD.reads.idx 22 sliceI sizeI .i64 (j : Int) (by omega) (by simp; omega)
                rw [Int.toNat_natCast] at hi
                have hc := hoD.reads.int (i := j) (by simp; omega)
                rw [nth_digL hjk] at hc
                have hd0 : Hid (restTo (idn k) k R (j + 1) = (restTo (idn k) k R j).eraseIdx (digN k R j)) := hid rfl
                have hp0 : Hid (pickTo (idn k) k R (j + 1) = pickTo (idn k) k R j ++ [nth (restTo (idn k) k R j) (digN k R j)]) := hid rfl
                generalize digN k R j = d at *
                have hRL := hid hrl
                clear hrl
                have hi2 := hoX.reads.idx 22 sliceI sizeI .i64 (d : Int) (by omega) (by have := hRL.out; simp; omega)
                rw [Int.toNat_natCast] at hi2
                have hc2 := hoX.reads.int (i := d) (by have := hRL.out; omega)
                obtain ⟨y', w4, hrun, hoY', hg, hst⟩ := app_oneF (ty := 22) (x := .int .i64 (nth (restTo (idn k) k R j) d)) sliceI infoI rfl hoY rfl hb.size (by simp; omega) (by decide)
                have hoX' := hoX.grown hg ap3.ne
                have hoD' := hoD.grown hg ap2.ne
                have hb' := hb.grown hg hb.size (fun q hq => (hoY.blk_lt hq).1)
                have ap2' := ap2.stays hoD hst
                have ap3' := ap3.stays hoX hst
                clear hoX hoD hoY hb ap2 ap3 hg hst
                go_wp2_with (at_builtin; refine wpList_app hrun rfl _ _ rfl rfl rfl ?_)
                refine (del_run _ _ _ _ hoX' (by omega) (by have := hRL.out; omega) (by have := hRL.out; omega)).mono ?_
                rintro e w5 ⟨x', rfl, hoX2, hg2, hbk⟩
                rw [Int.toNat_natCast, ← hd0.out] at hoX2
                have hBK := hid hbk
                clear hbk
                have hoY2 := hoY'.grown hg2 ap3'.symm.ne
                have hoD2 := hoD'.grown hg2 ap1.ne
                have hb2 := hb'.grown hg2 hb'.size (fun q hq => (hoX'.blk_lt hq).1)
                have hoY3 : Own w5 w.heap.size 2 y' (ints (pickTo (idn k) k R (j + 1))) := by rw [hp0.out]; simpa [ints] using hoY2
                clear hoY2 hoY' hoD' hb'
                go_wp2_with fail
                go_roundw
                case rel => exact ⟨j + 1, by omega, by go_num, hoD2, hoX2, hoY3, ap1.of_blk hBK.out, ap2', (ap3'.symm.of_blk hBK.out).symm, hb2⟩
                case measure => simp [intOf]; omega
              · obtain rfl : j = k := by omega
                go_wp2_with fail
                go_ret2
                exact ⟨_, by rw [hyes.out]; rfl, by rw [hyes.out]; exact hoY, hb⟩
          · have hno : hasRank k R = false := by simp [hasRank, inB, fac_N]; omega
            have hy1 : 1 ≤ y := by rw [hy.out]; exact (Nat.le_div_iff_mul_le (facN_pos k)).2 (by omega)
            have hyb : ((y : Int) != 0) = true := by rw [bne_iff_ne]; omega
            go_wp2_with fail
            go_ret2
            exact ⟨_, by rw [hno]; rfl, by rw [hno]; exact own_nil _ _ _, hb⟩

end Go.Proofs.Ytgibgcjpehcemaa

namespace Go.Proofs.Ytgibgcjpehcemaa
open Go.RowKit

/-- how many behind place i are less -/
def lessAt (l : List Int) (i : Nat) : Int := cnt (invRow2 l i) (l.length - i)
/-- the number of permutations that are before l -/
def rankF (l : List Int) : Int := sumTo (fun i => lessAt l i * fac (l.length - 1 - i)) l.length
/-- the same, by Horner's rule, after k places -/
def hornTo (l : List Int) : Nat → Int
  | 0 => 0
  | k + 1 => hornTo l k * ((l.length : Int) - k) + lessAt l k

theorem invRow2_zero (l : List Int) (i : Nat) : invRow2 l i 0 = false := by simp [invRow2]
theorem cnt_one (l : List Int) (i : Nat) : cnt (invRow2 l i) 1 = 0 := by rw [cnt_no (invRow2_zero l i)]; rfl
theorem lessAt_bd (l : List Int) (i : Nat) (h12 : l.length ≤ 12) : 0 ≤ lessAt l i ∧ lessAt l i ≤ 12 := cnt_bd _ (by omega)
theorem term_bd (l : List Int) (i : Nat) (h12 : l.length ≤ 12) : 0 ≤ lessAt l i * fac (l.length - 1 - i) ∧ lessAt l i * fac (l.length - 1 - i) ≤ 5748019200 := by
  obtain ⟨a0, a1⟩ := lessAt_bd l i h12
  obtain ⟨f0, f1⟩ := fac_12 (n := l.length - 1 - i) (by omega)
  refine ⟨Int.mul_nonneg a0 (by omega), ?_⟩
  have h1 := Int.mul_le_mul_of_nonneg_right a1 (show 0 ≤ fac (l.length - 1 - i) by omega)
  omega
theorem rankTo_bd (l : List Int) {k : Nat} (h12 : l.length ≤ 12) (hk : k ≤ l.length) : 0 ≤ sumTo (fun i => lessAt l i * fac (l.length - 1 - i)) k ∧ sumTo (fun i => lessAt l i * fac (l.length - 1 - i)) k ≤ 68976230400 := by
  have h1 := sumTo_nonneg (f := fun i => lessAt l i * fac (l.length - 1 - i)) (k := k) (fun i _ => (term_bd l i h12).1)
  have h2 := sumTo_le (f := fun i => lessAt l i * fac (l.length - 1 - i)) (k := k) (b := 5748019200) (fun i _ => (term_bd l i h12).2)
  omega
theorem horn_eq (l : List Int) (k : Nat) (hk : k ≤ l.length) : sumTo (fun i => lessAt l i * fac (l.length - 1 - i)) k = hornTo l k * fac (l.length - k) := by
  induction k with
  | zero => simp [sumTo, hornTo]
  | succ k ih =>
    rw [sumTo_succ, ih (by omega), hornTo]
    have e1 : l.length - k = (l.length - (k + 1)) + 1 := by omega
    have e2 : l.length - 1 - k = l.length - (k + 1) := by omega
    rw [e1, fac, e2, Int.add_mul]
    have e3 : (((l.length - (k + 1) : Nat)) : Int) + 1 = (l.length : Int) - k := by omega
    rw [e3, Int.mul_assoc, Int.mul_comm (fac _) _]
theorem horn_nonneg (l : List Int) (h12 : l.length ≤ 12) (k : Nat) (hk : k ≤ l.length) : 0 ≤ hornTo l k := by
  induction k with
  | zero => exact Int.le_refl _
  | succ k ih =>
    rw [hornTo]
    have := Int.mul_nonneg (ih (by omega)) (show 0 ≤ (l.length : Int) - k by omega)
    have := (lessAt_bd l k h12).1
    omega
theorem horn_bd (l : List Int) {k : Nat} (h12 : l.length ≤ 12) (hk : k < l.length) : 0 ≤ hornTo l k ∧ hornTo l k ≤ 68976230400 ∧ 0 ≤ hornTo l k * ((l.length : Int) - k) ∧ hornTo l k * ((l.length : Int) - k) ≤ 68976230400 := by
  have h0 := horn_nonneg l h12 k (by omega)
  have h1 := (rankTo_bd l h12 (k := k) (by omega)).2
  rw [horn_eq l k (by omega)] at h1
  have e1 : l.length - k = (l.length - k - 1) + 1 := by omega
  have f0 := fac_pos (l.length - k - 1)
  have e3 : (((l.length - k - 1 : Nat)) : Int) + 1 = (l.length : Int) - k := by omega
  rw [e1, fac, e3] at h1
  have h2 : hornTo l k * (1 * ((l.length : Int) - k)) ≤ hornTo l k * (fac (l.length - k - 1) * ((l.length : Int) - k)) :=
    Int.mul_le_mul_of_nonneg_left (Int.mul_le_mul_of_nonneg_right f0 (by omega)) h0
  rw [Int.one_mul] at h2
  have h3 : hornTo l k * 1 ≤ hornTo l k * ((l.length : Int) - k) := Int.mul_le_mul_of_nonneg_left (by omega) h0
  have h4 := Int.mul_nonneg h0 (show 0 ≤ (l.length : Int) - k by omega)
  omega
theorem rankF_horn (l : List Int) : rankF l = hornTo l l.length := by
  unfold rankF
  rw [horn_eq l l.length (Nat.le_refl _)]; simp [fac]

set_option maxHeartbeats 2000000 in
theorem RankI (v : Value) (l : List Int) (w : World) (h : Reads w v (ints l)) :
    Calls Try.prog 37 #[v] w fun e w' => e = .returned (.int .i64 (orLess (okP l) (rankF l))) ∧ Below w.heap.size w w' := by
  rw [rankF_horn]
  have hs := h.small
  have hlen := h.len (P := Try.prog) 22 3 ⟨_, sliceI⟩
  simp only [length_ints] at hs hlen
  cases e1 : okP l with
  | false =>
    go_enter Try.func37, Try.ntmps37
    go_wp2_with fail
    refine (ok_impl _ _ _ h).mono ?_
    rintro e w1 ⟨rfl, hb⟩
    rw [e1]
    go_wp2_with fail
    go_ret
    exact ⟨rfl, hb⟩
  | true =>
    obtain ⟨h12, hp⟩ := okP_of e1
    clear hp
    rw [show orLess true (hornTo l l.length) = hornTo l l.length from rfl]
    go_enter Try.func37, Try.ntmps37
    go_wp2_with fail
    refine (ok_impl _ _ _ h).mono ?_
    rintro e w1 ⟨rfl, hb⟩
    rw [e1]
    go_wp2_with fail
    go_loop [3, 4, 5, 7, 13] (fun n _ _ _ j => ∃ k : Nat, k ≤ l.length ∧ j = .int .i64 k ∧ n = .int .i64 (hornTo l k)) (fun _ _ _ _ j => l.length - (intOf j).toNat)
    case atStart => exact ⟨0, by omega, rfl, rfl⟩
    case round =>
      obtain ⟨k, hk, rfl, rfl⟩ := hrel
      by_cases hlt : k < l.length
      · obtain ⟨H0, H1, H2, H3⟩ := horn_bd l h12 hlt
        obtain ⟨A0, A1⟩ := lessAt_bd l k h12
        have hL : Hid (lessAt l k = cnt (invRow2 l k) (l.length - k)) := hid rfl
        have hsl := h.onwards_run sliceI sizeI .i64 k (by omega) (by simp; omega)
        simp only [Int.toNat_natCast] at hsl
        have hon : Reads w1 (onwards v k) (ints (l.drop k)) := by
          have := (h.below hb).onwards k (by simp; omega)
          simpa [ints, List.map_drop] using this
        have hlen2 := hon.len (P := Try.prog) 22 3 ⟨_, sliceI⟩
        simp only [length_ints, List.length_drop] at hlen2
        obtain ⟨m, hm⟩ : ∃ m, m = l.length - k := ⟨_, rfl⟩
        rw [← hm] at hlen2
        have hM := hid hm
        clear hm
        go_wp2_with fail
        go_loop [5, 7, 20] (fun n _ i => ∃ t : Nat, t ≤ m ∧ i = .int .i64 t ∧ n = .int .i64 (cnt (invRow2 l k) t)) (fun _ _ i => m - (intOf i).toNat)
        case atStart => exact ⟨0, by omega, rfl, rfl⟩
        case round =>
          obtain ⟨t, ht, rfl, rfl⟩ := hrel
          have hm12 : m ≤ 12 := by have := hM.out; omega
          obtain ⟨C0, C1⟩ := cnt_bd (invRow2 l k) (k := t) (b := 12) (by omega)
          by_cases htk : t < m
          · have hi := hon.idx 22 sliceI sizeI .i64 t (by omega) (by have := hM.out; simp; omega)
            have hi2 := h.idx 22 sliceI sizeI .i64 k (by omega) (by simp; omega)
            simp only [Int.toNat_natCast] at hi hi2
            have hc := hon.int (i := t) (by have := hM.out; simp; omega)
            rw [nth_drop] at hc
            have hc2 := (h.below hb).int (i := k) (by omega)
            cases e : decide (nth l (k + t) < nth l k) with
            | true =>
              have he : Hid (invRow2 l k t = true) := hid e
              go_wp2_with fail
              go_round
              case rel => exact ⟨t + 1, by omega, by go_num, vint (by rw [cnt_yes he.out])⟩
              case measure => simp [intOf]; omega
            | false =>
              have he : Hid (invRow2 l k t = false) := hid e
              go_wp2_with fail
              go_round
              case rel => exact ⟨t + 1, by omega, by go_num, vint (by rw [cnt_no he.out])⟩
              case measure => simp [intOf]; omega
          · obtain rfl : t = m := by omega
            have hL2 : Hid (cnt (invRow2 l k) t = lessAt l k) := hid (by rw [hL.out, hM.out])
            go_wp2_with fail
            go_round
            case rel => exact ⟨k + 1, by omega, by go_num, vint (by rw [hornTo, hL2.out])⟩
            case measure => simp [intOf]; omega
      · obtain rfl : k = l.length := by omega
        go_wp2_with fail
        go_ret
        exact ⟨rfl, hb⟩

end Go.Proofs.Ytgibgcjpehcemaa
