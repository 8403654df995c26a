/- Contracts: the permutation at a rank. -/
import Derived.Test.YtcoofebpklolnaaWph
import Derived.Test.YtcoofebpklolnaaDel
import Derived.Test.YtcoofebpklolnaaApq
namespace Go.Proofs.Ytcoofebpklolnaa
open Go.RowKit

/-- 1 · 2 · .. · n, a natural number -/
def facN : Nat → Nat
  | 0 => 1
  | n + 1 => facN n * (n + 1)
theorem fac_N (n : Nat) : fac n = (facN n : Int) := by
  induction n with
  | zero => rfl
  | succ n ih => rw [fac, facN, ih]; simp
theorem facN_pos (n : Nat) : 1 ≤ facN n := by have := fac_pos n; rw [fac_N] at this; omega
/-- the digit of r at place j, of n places -/
def digN (n r j : Nat) : Nat := r / facN (n - 1 - j) % (n - j)
def digL (n r : Nat) : List Int := (List.range n).map fun j => (digN n r j : Int)
@[simp] theorem length_digL (n r : Nat) : (digL n r).length = n := by simp [digL]
theorem nth_digL {n r j : Nat} (h : j < n) : nth (digL n r) j = (digN n r j : Int) := by simp [nth, digL, h]
theorem digN_lt {n r j : Nat} (h : j < n) : digN n r j < n - j := Nat.mod_lt _ (by omega)

/-- what is left behind k picks, and what was picked -/
def restTo (l : List Int) (n r : Nat) : Nat → List Int
  | 0 => l
  | k + 1 => (restTo l n r k).eraseIdx (digN n r k)
def pickTo (l : List Int) (n r : Nat) : Nat → List Int
  | 0 => []
  | k + 1 => pickTo l n r k ++ [nth (restTo l n r k) (digN n r k)]
theorem length_restTo (n r : Nat) {k : Nat} (h : k ≤ n) : (restTo (idn n) n r k).length = n - k := by
  induction k with
  | zero => simp [restTo]
  | succ k ih =>
    have := ih (by omega)
    have hd := digN_lt (n := n) (r := r) (j := k) (by omega)
    rw [restTo, List.length_eraseIdx_of_lt (by omega)]; omega
@[simp] theorem length_pickTo (l : List Int) (n r k : Nat) : (pickTo l n r k).length = k := by
  induction k with
  | zero => rfl
  | succ k ih => simp [pickTo, ih]
/-- the permutation of n things with rank r -/
def atF (n r : Nat) : List Int := pickTo (idn n) n r n
/-- whether there is one -/
def hasRank (n r : Int) : Bool := inB n 0 12 && inB r 0 (fac n.toNat - 1)
theorem hasRank_long {n r : Int} (h : inB n 0 12 = false) : hasRank n r = false := by simp [hasRank, h]

theorem div_step (r i : Nat) : r / facN (i + 1) = r / facN i / (i + 1) := by rw [facN, Nat.div_div_eq_div_mul]
theorem digN_spec {n r j : Nat} (_h : j < n) : r % facN (n - j) / facN (n - 1 - j) = digN n r j := by
  have e : n - j = (n - 1 - j) + 1 := by omega
  unfold digN
  rw [e, facN, Nat.mod_mul_right_div_self]
theorem mod_step {n r j : Nat} (_h : j < n) : r % facN (n - j) % facN (n - 1 - j) = r % facN (n - 1 - j) := by
  have e : n - j = (n - 1 - j) + 1 := by omega
  rw [e, facN, Nat.mod_mul_right_mod]

/-- the digits are written from behind -/
def digTo (n r i : Nat) : List Int := (List.range n).map fun j => if n ≤ i + j then (digN n r j : Int) else 0
@[simp] theorem length_digTo (n r i : Nat) : (digTo n r i).length = n := by simp [digTo]
theorem digTo_zero (n r : Nat) : digTo n r 0 = List.replicate n 0 := by
  apply List.ext_getElem (by simp)
  intro j h1 h2
  simp at h1
  simp [digTo]; omega
theorem digTo_all (n r : Nat) : digTo n r n = digL n r := by simp [digTo, digL]
theorem digTo_step {n r i : Nat} (h : i < n) : (digTo n r i).set (n - 1 - i) ((r / facN i % (i + 1) : Nat) : Int) = digTo n r (i + 1) := by
  apply List.ext_getElem (by simp)
  intro j h1 h2
  simp at h1
  rw [List.getElem_set]
  simp only [digTo, List.getElem_map, List.getElem_range]
  by_cases e : n - 1 - i = j
  · subst e
    have e1 : n - 1 - (n - 1 - i) = i := by omega
    have e2 : n - (n - 1 - i) = i + 1 := by omega
    rw [if_pos rfl, if_pos (by omega), digN, e1, e2]
  · rw [if_neg e]
    by_cases e1 : n ≤ i + j
    · rw [if_pos e1, if_pos (by omega)]
    · rw [if_neg e1, if_neg (by omega)]

set_option maxHeartbeats 4000000 in
theorem AtI (n r : Int) (w : World) (bn : -9223372036854775808 ≤ n ∧ n ≤ 9223372036854775807) (br : -9223372036854775808 ≤ r ∧ r ≤ 9223372036854775807) :
    Calls Try.prog 38 #[.int .i64 n, .int .i64 r] w fun e w' => ∃ x, e = .returned (.tuple #[x, .bool (hasRank n r)]) ∧ Own w' w.heap.size 2 x (ints (onlyIf (hasRank n r) (atF n.toNat r.toNat))) ∧ Below w.heap.size w w' := by
  cases e1 : inB n 0 12 with
  | false =>
    have hno := hasRank_long (r := r) e1
    go_enter Try.func38, Try.ntmps38
    go_wp2_with fail
    refine (in_impl _ _ _ _).mono ?_
    rintro e w1 ⟨rfl, rfl⟩
    rw [e1]
    go_wp2_with fail
    go_ret2
    exact ⟨_, by rw [hno]; rfl, by rw [hno]; exact own_nil _ _ _, Below.refl _ _⟩
  | true =>
    obtain ⟨x0, x1⟩ := inB_yes e1
    obtain ⟨m, rfl⟩ := Int.eq_ofNat_of_zero_le x0
    rw [Int.toNat_natCast]
    have m12 : m ≤ 12 := by omega
    have hmk := make_run sliceI infoI rfl (m : Int) (by omega) (by omega) (by omega)
    rw [Int.toNat_natCast] at hmk
    have hM0 := own_made w 2 m (.int .i64 0) (by omega) (Nat.le_refl _)
    have hlenM := hM0.reads.len (P := Try.prog) 22 3 ⟨_, sliceI⟩
    simp only [List.length_replicate] at hlenM
    clear hM0
    by_cases hr : r < 0
    · have hno : hasRank m r = false := by simp [hasRank, inB]; omega
      go_enter Try.func38, Try.ntmps38
      go_wp2_with fail
      refine (in_impl _ _ _ _).mono ?_
      rintro e w1 ⟨rfl, rfl⟩
      rw [e1]
      go_wp2_with fail
      go_loopw [7, 8, 20] (fun q _ i wr => ∃ k : Nat, k ≤ m ∧ i = .int .i64 k ∧ (∃ y, q = .int .i64 y) ∧ (∃ ds : List Int, ds.length = m ∧ Own wr w.heap.size 2 (madeV w m) (ints ds)) ∧ Below w.heap.size w wr) (fun _ _ i _ => m - (intOf i).toNat)
      case atStart =>
        refine ⟨0, by omega, rfl, ⟨_, rfl⟩, ⟨List.replicate m 0, by simp, ?_⟩, below_made _ _ _ _⟩
        have := own_made w 2 m (.int .i64 0) (by omega) (Nat.le_refl _)
        simpa [ints] using this
      case round =>
        obtain ⟨k, hk, rfl, ⟨y, rfl⟩, ⟨ds, hdl, hown⟩, hb⟩ := hrel
        by_cases hlt : k < m
        · have hi := hown.reads.idx 22 sliceI sizeI .i64 ((m : Int) - 1 - k) (by omega) (by simp; omega)
          rw [show ((m : Int) - 1 - k).toNat = m - 1 - k by omega] at hi
          have hd := hown.reads.cell (m - 1 - k) _ (ints_at (by omega))
          have hf := hown.frozen (i := m - 1 - k) (by simp; omega)
          have hab := (hown.adr_blk (i := m - 1 - k) (by simp; omega)).2.1
          have hst := fun u => hown.set (i := m - 1 - k) (by simp; omega) (.int .i64 u)
          have hz : ((k : Int) + 1 == 0) = false := by rw [beq_eq_false_iff_ne]; omega
          have hz2 : ((k : Int) + 1 == -1) = false := by rw [beq_eq_false_iff_ne]; omega
          have hST := hid hst
          have hDL := hid hdl
          clear hst hdl
          go_wp2_with fail
          go_roundw
          case rel =>
            refine ⟨k + 1, by omega, by go_num, ⟨_, rfl⟩, ⟨_, ?_, by have := hST.out; simp only [ints_set] at this; exact this _⟩, hb.setCell hab _⟩
            simp [hDL.out]
          case measure => simp [intOf]; omega
        · go_wp2_with fail
          go_ret2
          exact ⟨_, by rw [hno]; rfl, by rw [hno]; exact own_nil _ _ _, hb⟩
    · obtain ⟨R, rfl⟩ := Int.eq_ofNat_of_zero_le (show 0 ≤ r by omega)
      rw [Int.toNat_natCast]
      go_enter Try.func38, Try.ntmps38
      go_wp2_with fail
      refine (in_impl _ _ _ _).mono ?_
      rintro e w1 ⟨rfl, rfl⟩
      rw [e1]
      go_wp2_with fail
      go_loopw [7, 8, 20] (fun q _ i wr => ∃ k : Nat, k ≤ m ∧ i = .int .i64 k ∧ (∃ y : Nat, q = .int .i64 y ∧ Hid (y = R / facN k)) ∧ Own wr w.heap.size 2 (madeV w m) (ints (digTo m R k)) ∧ Below w.heap.size w wr) (fun _ _ i _ => m - (intOf i).toNat)
      case atStart =>
        refine ⟨0, by omega, rfl, ⟨R, rfl, hid (by simp [facN])⟩, ?_, below_made _ _ _ _⟩
        have := own_made w 2 m (.int .i64 0) (by omega) (Nat.le_refl _)
        rw [digTo_zero]; simpa [ints] using this
      case round =>
        obtain ⟨k, hk, rfl, ⟨y, rfl, hy⟩, hown, hb⟩ := hrel
        have hyR : y ≤ R := by rw [hy.out]; exact Nat.div_le_self _ _
        by_cases hlt : k < m
        · have hi := hown.reads.idx 22 sliceI sizeI .i64 ((m : Int) - 1 - k) (by omega) (by simp; omega)
          rw [show ((m : Int) - 1 - k).toNat = m - 1 - k by omega] at hi
          have hd := hown.reads.cell (m - 1 - k) _ (ints_at (by simp; omega))
          have hf := hown.frozen (i := m - 1 - k) (by simp; omega)
          have hab := (hown.adr_blk (i := m - 1 - k) (by simp; omega)).2.1
          have hst := hown.set (i := m - 1 - k) (by simp; omega) (.int .i64 ((y : Int) % ((k : Int) + 1)))
          have he : ((y : Int) % ((k : Int) + 1)) = ((R / facN k % (k + 1) : Nat) : Int) := by rw [← hy.out]; simp
          rw [ints_set, he, digTo_step hlt, ← he] at hst
          have hE := hid he
          clear he
          have hq0 : 0 ≤ (y : Int) / ((k : Int) + 1) := Int.ediv_nonneg (by omega) (by omega)
          have hq1 : (y : Int) / ((k : Int) + 1) ≤ 9223372036854775807 := Int.le_trans (Int.ediv_le_self _ (by omega)) (by omega)
          have hy2 : Hid (((y : Int) / ((k : Int) + 1)) = ((R / facN (k + 1) : Nat) : Int)) := hid (by rw [div_step, ← hy.out]; simp)
          go_wp2_with fail
          go_roundw
          case rel => exact ⟨k + 1, by omega, by go_num, ⟨_, by rw [hy2.out], hid rfl⟩, hst, hb.setCell hab _⟩
          case measure => simp [intOf]; omega
        · obtain rfl : k = m := by omega
          by_cases hR : R < facN k
          · have hyes : Hid (hasRank k R = true) := hid (by simp [hasRank, inB, fac_N]; omega)
            have hy0 : y = 0 := by rw [hy.out]; exact Nat.div_eq_of_lt hR
            subst hy0
            rw [digTo_all] at hown
            go_wp2_with fail
            refine (idn_impl _ _ (by omega) (by omega)).mono ?_
            rintro e w2 ⟨x, rfl, hox, hs⟩
            rw [Int.toNat_natCast] at hox
            have hap := (apart_new hown hox)
            have hown2 := hown.below hs
            have hb2 := hb.trans (hs.mono hb.size)
            have hox2 := hox.mono hb.size
            clear hown hb hox hs
            go_wp2_with fail
            have hE0 := own_empty w2 2 (Nat.le_refl w2.heap.size)
            have hap2 := apart_new hown2 hE0
            have hap3 := apart_new hox2 hE0
            have hlenD := hown2.reads.len (P := Try.prog) 22 3 ⟨_, sliceI⟩
            simp only [length_ints, length_digL] at hlenD
            go_loopw [9, 10, 12, 49] (fun x y _ i wr => ∃ j : Nat, j ≤ k ∧ i = .int .i64 j ∧ Own wr w.heap.size 2 (madeV w k) (ints (digL k R)) ∧ Own wr w.heap.size 2 x (ints (restTo (idn k) k R j)) ∧ Own wr w.heap.size 2 y (ints (pickTo (idn k) k R j)) ∧ Apart (madeV w k) x ∧ Apart (madeV w k) y ∧ Apart x y ∧ Below w.heap.size w wr) (fun _ _ _ i _ => k - (intOf i).toNat)
            case atStart =>
              exact ⟨0, by omega, rfl, own_alloc hown2 _, own_alloc hox2 _, hE0.mono hb2.size, hap, hap2, hap3, hb2.alloc hb2.size _⟩
            case round =>
              clear hown2 hox2 hap hap2 hap3 hb2 hE0
              obtain ⟨j, hj, rfl, hoD, hoX, hoY, ap1, ap2, ap3, hb⟩ := hrel
              by_cases hjk : j < k
              · have hdl := digN_lt (n := k) (r := R) hjk
                have hrl := length_restTo k R (k := j) (by omega)
                have hi := hoD.reads.idx 22 sliceI sizeI .i64 (j : Int) (by omega) (by simp; omega)
                rw [Int.toNat_natCast] at hi
                have hc := hoD.reads.int (i := j) (by simp; omega)
                rw [nth_digL hjk] at hc
                have hd0 : Hid (restTo (idn k) k R (j + 1) = (restTo (idn k) k R j).eraseIdx (digN k R j)) := hid rfl
                have hp0 : Hid (pickTo (idn k) k R (j + 1) = pickTo (idn k) k R j ++ [nth (restTo (idn k) k R j) (digN k R j)]) := hid rfl
                generalize digN k R j = d at *
                have hRL := hid hrl
                clear hrl
                have hi2 := hoX.reads.idx 22 sliceI sizeI .i64 (d : Int) (by omega) (by have := hRL.out; simp; omega)
                rw [Int.toNat_natCast] at hi2
                have hc2 := hoX.reads.int (i := d) (by have := hRL.out; omega)
                obtain ⟨y', w4, hrun, hoY', hg, hst⟩ := app_oneF (ty := 22) (x := .int .i64 (nth (restTo (idn k) k R j) d)) sliceI infoI rfl hoY rfl hb.size (by simp; omega) (by decide)
                have hoX' := hoX.grown hg ap3.ne
                have hoD' := hoD.grown hg ap2.ne
                have hb' := hb.grown hg hb.size (fun q hq => (hoY.blk_lt hq).1)
                have ap2' := ap2.stays hoD hst
                have ap3' := ap3.stays hoX hst
                clear hoX hoD hoY hb ap2 ap3 hg hst
                go_wp2_with (at_builtin; refine wpList_app hrun rfl _ _ rfl rfl rfl ?_)
                refine (del_run _ _ _ _ hoX' (by omega) (by have := hRL.out; omega) (by have := hRL.out; omega)).mono ?_
                rintro e w5 ⟨x', rfl, hoX2, hg2, hbk⟩
                rw [Int.toNat_natCast, ← hd0.out] at hoX2
                have hBK := hid hbk
                clear hbk
                have hoY2 := hoY'.grown hg2 ap3'.symm.ne
                have hoD2 := hoD'.grown hg2 ap1.ne
                have hb2 := hb'.grown hg2 hb'.size (fun q hq => (hoX'.blk_lt hq).1)
                have hoY3 : Own w5 w.heap.size 2 y' (ints (pickTo (idn k) k R (j + 1))) := by rw [hp0.out]; simpa [ints] using hoY2
                clear hoY2 hoY' hoD' hb'
                go_wp2_with fail
                go_roundw
                case rel => exact ⟨j + 1, by omega, by go_num, hoD2, hoX2, hoY3, ap1.of_blk hBK.out, ap2', (ap3'.symm.of_blk hBK.out).symm, hb2⟩
                case measure => simp [intOf]; omega
              · obtain rfl : j = k := by omega
                go_wp2_with fail
                go_ret2
                exact ⟨_, by rw [hyes.out]; rfl, by rw [hyes.out]; exact hoY, hb⟩
          · have hno : hasRank k R = false := by simp [hasRank, inB, fac_N]; omega
            have hy1 : 1 ≤ y := by rw [hy.out]; exact (Nat.le_div_iff_mul_le (facN_pos k)).2 (by omega)
            have hyb : ((y : Int) != 0) = true := by rw [bne_iff_ne]; omega
            go_wp2_with fail
            go_ret2
            exact ⟨_, by rw [hno]; rfl, by rw [hno]; exact own_nil _ _ _, hb⟩

set_option maxHeartbeats 4000000 in
theorem AtS (n r : Int) (w : World) (bn : -9223372036854775808 ≤ n ∧ n ≤ 9223372036854775807) (br : -9223372036854775808 ≤ r ∧ r ≤ 9223372036854775807) :
    Calls Try.prog 37 #[.int .i64 n, .int .i64 r] w fun e w' => ∃ x, e = .returned (.tuple #[x, .bool (hasRank n r)]) ∧ Own w' w.heap.size 2 x (ints (onlyIf (hasRank n r) (atF n.toNat r.toNat))) ∧ Below w.heap.size w w' := by
  cases e1 : inB n 0 12 with
  | false =>
    have hno := hasRank_long (r := r) e1
    go_enter Try.func37, Try.ntmps37
    go_wp2_with fail
    refine (in_spec _ _ _ _).mono ?_
    rintro e w1 ⟨rfl, rfl⟩
    rw [e1]
    go_wp2_with fail
    go_ret2
    exact ⟨_, by rw [hno]; rfl, by rw [hno]; exact own_nil _ _ _, Below.refl _ _⟩
  | true =>
    obtain ⟨x0, x1⟩ := inB_yes e1
    obtain ⟨m, rfl⟩ := Int.eq_ofNat_of_zero_le x0
    rw [Int.toNat_natCast]
    have m12 : m ≤ 12 := by omega
    obtain ⟨f0, f1⟩ := fac_12 (n := m) m12
    cases e2 : inB r 0 (fac m - 1) with
    | false =>
      have hno : hasRank m r = false := by simp [hasRank, e2]
      go_enter Try.func37, Try.ntmps37
      go_wp2_with fail
      refine (in_spec _ _ _ _).mono ?_
      rintro e w1 ⟨rfl, rfl⟩
      rw [e1]
      go_wp2_with fail
      refine (fac_spec _ _ (by omega) (by omega)).mono ?_
      rintro e w1 ⟨rfl, rfl⟩
      rw [Int.toNat_natCast]
      go_wp2_with fail
      refine (in_spec _ _ _ _).mono ?_
      rintro e w1 ⟨rfl, rfl⟩
      rw [e2]
      go_wp2_with fail
      go_ret2
      exact ⟨_, by rw [hno]; rfl, by rw [hno]; exact own_nil _ _ _, Below.refl _ _⟩
    | true =>
      obtain ⟨r0, r1⟩ := inB_yes e2
      have hyes : Hid (hasRank m r = true) := hid (by unfold hasRank; rw [e1, Int.toNat_natCast, e2]; rfl)
      obtain ⟨R, rfl⟩ := Int.eq_ofNat_of_zero_le r0
      rw [Int.toNat_natCast]
      have hRf : R < facN m := by rw [fac_N] at r1; omega
      go_enter Try.func37, Try.ntmps37
      go_wp2_with fail
      refine (in_spec _ _ _ _).mono ?_
      rintro e w1 ⟨rfl, rfl⟩
      rw [e1]
      go_wp2_with fail
      refine (fac_spec _ _ (by omega) (by omega)).mono ?_
      rintro e w1 ⟨rfl, rfl⟩
      rw [Int.toNat_natCast]
      go_wp2_with fail
      refine (in_spec _ _ _ _).mono ?_
      rintro e w1 ⟨rfl, rfl⟩
      rw [e2]
      go_wp2_with fail
      refine (idn_spec _ _ (by omega) (by omega)).mono ?_
      rintro e w2 ⟨x, rfl, hox, hb⟩
      rw [Int.toNat_natCast] at hox
      go_wp2_with fail
      have hE0 := own_empty w2 2 (Nat.le_refl w2.heap.size)
      have hap3 := apart_new hox hE0
      go_loopw [1, 6, 7, 8, 9, 10, 11] (fun q x y i _ _ _ wr => ∃ j : Nat, j ≤ m ∧ i = .int .i64 ((m : Int) - 1 - j) ∧ (∃ t : Nat, q = .int .i64 t ∧ Hid (t = R % facN (m - j))) ∧ Own wr w.heap.size 2 x (ints (restTo (idn m) m R j)) ∧ Own wr w.heap.size 2 y (ints (pickTo (idn m) m R j)) ∧ Apart x y ∧ Below w.heap.size w wr) (fun _ _ _ i _ _ _ _ => (intOf i + 1).toNat)
      case atStart =>
        exact ⟨0, by omega, by simp, ⟨R, rfl, hid (by rw [Nat.sub_zero, Nat.mod_eq_of_lt hRf])⟩, own_alloc hox _, hE0.mono hb.size, hap3, hb.alloc hb.size _⟩
      case round =>
        clear hox hap3 hb hE0
        obtain ⟨j, hj, rfl, ⟨t, rfl, ht⟩, hoX, hoY, ap3, hb⟩ := hrel
        by_cases hjk : j < m
        · have hge : 0 ≤ (m : Int) - 1 - j := by omega
          have hdl := digN_lt (n := m) (r := R) hjk
          have hrl := length_restTo m R (k := j) (by omega)
          have htf : t < facN (m - j) := by rw [ht.out]; exact Nat.mod_lt _ (facN_pos _)
          have htm : t < 9223372036854775807 := by
            have h1 := (fac_12 (n := m - j) (by omega)).2
            rw [fac_N] at h1; omega
          obtain ⟨g0, g1⟩ := fac_12 (n := m - 1 - j) (by omega)
          have hd : Hid ((t : Int) / fac (m - 1 - j) = (digN m R j : Int)) := hid (by rw [fac_N, ht.out, ← digN_spec hjk]; simp)
          have hm2 : Hid ((t : Int) % fac (m - 1 - j) = ((R % facN (m - (j + 1)) : Nat) : Int)) := hid (by rw [fac_N, ht.out, ← Int.natCast_emod, mod_step hjk, show m - (j + 1) = m - 1 - j by omega])
          have hd0 : Hid (restTo (idn m) m R (j + 1) = (restTo (idn m) m R j).eraseIdx (digN m R j)) := hid rfl
          have hp0 : Hid (pickTo (idn m) m R (j + 1) = pickTo (idn m) m R j ++ [nth (restTo (idn m) m R j) (digN m R j)]) := hid rfl
          have hRL := hid hrl
          clear hrl htf
          generalize digN m R j = d at *
          generalize hT : R % facN (m - (j + 1)) = t' at *
          have hT' := hid hT
          clear hT
          go_wp2_with fail
          refine (fac_spec _ _ (by omega) (by omega)).mono ?_
          rintro e w3 ⟨rfl, rfl⟩
          rw [show ((m : Int) - 1 - j).toNat = m - 1 - j by omega]
          generalize hf : fac (m - 1 - j) = f at *
          have hF := hid hf
          clear hf
          have hz : (f == 0) = false := by rw [beq_eq_false_iff_ne]; omega
          have hd1 := hd.out
          have hm1 := hm2.out
          have ht' : t' < 9223372036854775807 := by have := Int.emod_lt_of_pos (t : Int) (show 0 < f by omega); omega
          have hi2 := hoX.reads.idx 22 sliceI sizeI .i64 (d : Int) (by omega) (by have := hRL.out; simp; omega)
          rw [Int.toNat_natCast] at hi2
          have hc2 := hoX.reads.int (i := d) (by have := hRL.out; omega)
          obtain ⟨y', w4, hrun, hoY', hg, hst⟩ := app_oneF (ty := 22) (x := .int .i64 (nth (restTo (idn m) m R j) d)) sliceI infoI rfl hoY rfl hb.size (by simp; omega) (by decide)
          have hoX' := hoX.grown hg ap3.ne
          have hb' := hb.grown hg hb.size (fun q hq => (hoY.blk_lt hq).1)
          have hsl := hoX'.reads.upto_run sliceI sizeI .i64 (d : Int) (by omega) (by have := hRL.out; simp; omega)
          have hsl2 := hoX'.reads.onwards_run sliceI sizeI .i64 ((d : Int) + 1) (by omega) (by have := hRL.out; simp; omega)
          rw [Int.toNat_natCast] at hsl
          rw [show ((d : Int) + 1).toNat = d + 1 by omega] at hsl2
          have hE1 := own_empty w4 2 (Nat.le_refl w4.heap.size)
          have hup : Reads w4 (upto u6 d) (ints ((restTo (idn m) m R j).take d)) := by
            have := hoX'.reads.upto d (by have := hRL.out; simp; omega); simpa [ints, List.map_take] using this
          have hon : Reads w4 (onwards u6 (d + 1)) (ints ((restTo (idn m) m R j).drop (d + 1))) := by
            have := hoX'.reads.onwards (d + 1) (by have := hRL.out; simp; omega); simpa [ints, List.map_drop] using this
          obtain ⟨z1, w5, hrun2, hoZ1, hg2, hst2⟩ := app_runF (ty := 22) sliceI infoI rfl hE1 (reads_alloc hup _) (oneCell_ints _) (by simp) (by have := hRL.out; simp; omega) (by decide)
          have ap5 : ∀ {u : Value} {B : Nat} {xs : List Value}, Own w4 B 2 u xs → Apart u (.slice (some ⟨w4.heap.size, 0, none⟩) 0 0) := fun h => apart_new h hE1
          have hon2 : Reads w5 (onwards u6 (d + 1)) (ints ((restTo (idn m) m R j).drop (d + 1))) := (reads_alloc hon _).grown hg2 (by
            intro k hk; rw [onwards_part u6 (restTo (idn m) m R j).length (d + 1) (by obtain ⟨a, c, e, _⟩ := hoX'.reads.form; exact ⟨a, c, by rw [length_ints] at e; exact e⟩), blk_part] at hk
            exact (ap5 hoX').ne k hk)
          have hoY2 := (own_alloc hoY' (.cells #[] 2)).grown hg2 (ap5 hoY').ne
          have hap6 := (ap5 hoY').stays (own_alloc hoY' (.cells #[] 2)) hst2
          have hb4 := (hb'.alloc hb'.size (.cells #[] 2)).grown hg2 (by simp; have := hb'.size; omega) (fun q hq => by simp [blk] at hq; have := hb'.size; omega)
          obtain ⟨z2, w6, hrun3, hoZ2, hg3, hst3⟩ := app_runF (ty := 22) sliceI infoI rfl hoZ1 hon2 (oneCell_ints _) (by have := hg2.size; simp at this; omega) (by have := hRL.out; simp; omega) (by decide)
          have hoY3 := hoY2.grown hg3 hap6.ne
          have hap7 := (hap6.stays hoY2 hst3).symm
          have hb5 := hb4.grown hg3 hb4.size (fun q hq => by have := (hoZ1.blk_lt hq).1; have := hb'.size; omega)
          have hoY4 : Own w6 w.heap.size 2 y' (ints (pickTo (idn m) m R (j + 1))) := by rw [hp0.out]; simpa [ints] using hoY3
          have hoZ3 : Own w6 w.heap.size 2 z2 (ints (restTo (idn m) m R (j + 1))) := by
            rw [hd0.out, List.eraseIdx_eq_take_drop_succ]
            have := hoZ2.mono hb'.size
            simpa [ints] using this
          clear hoX hoY hb ap3 hg hst hoX' hb' hE1 hup hon hg2 hst2 ap5 hon2 hoY2 hap6 hb4 hg3 hst3 hoZ1 hoZ2 hoY3 hoY'
          go_wp2_with (first | (at_builtin; refine wpList_app hrun rfl _ _ rfl rfl rfl ?_) | (at_builtin; refine wpList_app hrun2 rfl _ _ rfl rfl rfl ?_) | (at_builtin; refine wpList_app hrun3 rfl _ _ rfl rfl rfl ?_))
          go_roundw
          case rel => exact ⟨j + 1, by omega, by go_num, ⟨_, rfl, hid hT'.out.symm⟩, hoZ3, hoY4, hap7, hb5⟩
          case measure => simp [intOf]; omega
        · obtain rfl : j = m := by omega
          have hge : ¬ 0 ≤ (j : Int) - 1 - j := by omega
          go_wp2_with fail
          go_ret2
          exact ⟨_, by rw [hyes.out]; rfl, by rw [hyes.out]; exact hoY, hb⟩


end Go.Proofs.Ytcoofebpklolnaa
