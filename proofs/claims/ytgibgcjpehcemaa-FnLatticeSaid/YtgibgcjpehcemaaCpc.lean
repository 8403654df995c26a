/- Contracts: the closure of pairs as the reference reckons it; the opposite places. -/
import Derived.Test.YtgibgcjpehcemaaCpb
namespace Go.Proofs.Ytgibgcjpehcemaa
open Go.RowKit
set_option linter.unusedSimpArgs false

/-- n rows of n cells -/
def tab (n : Nat) (f : Nat → Nat → Bool) : List Value := (List.range (n * n)).map fun q => Value.bool (f (q / n) (q % n))
@[simp] theorem length_tab (n : Nat) (f : Nat → Nat → Bool) : (tab n f).length = n * n := by simp [tab]
theorem ij_lt {n i j : Nat} (hi : i < n) (hj : j < n) : i * n + j < n * n := by
  have := Nat.mul_le_mul_right n (show i + 1 ≤ n by omega)
  rw [Nat.add_mul] at this; omega
theorem ij_div {n i j : Nat} (hj : j < n) : (i * n + j) / n = i := by
  rw [Nat.add_comm, Nat.add_mul_div_right _ _ (by omega), Nat.div_eq_of_lt hj]; omega
theorem ij_mod {n i j : Nat} (hj : j < n) : (i * n + j) % n = j := by
  rw [Nat.add_comm, Nat.add_mul_mod_self_right, Nat.mod_eq_of_lt hj]
theorem tab_at {n : Nat} {f : Nat → Nat → Bool} {i j : Nat} (hi : i < n) (hj : j < n) : (tab n f)[i * n + j]? = some (.bool (f i j)) := by
  simp [tab, ij_lt hi hj, ij_div hj, ij_mod hj]
theorem tab_set {n : Nat} {f : Nat → Nat → Bool} {i j : Nat} (hi : i < n) (hj : j < n) (b : Bool) : (tab n f).set (i * n + j) (.bool b) = tab n (upd f i j b) := by
  apply List.ext_getElem?
  intro q
  rw [List.getElem?_set]
  by_cases h : i * n + j = q
  · subst h
    have h2 := ij_lt hi hj
    simp [tab, upd, h2, ij_div hj, ij_mod hj]
  · rw [if_neg h]
    by_cases h2 : q < n * n
    · have e : ¬ (q / n = i ∧ q % n = j) := by
        rintro ⟨rfl, rfl⟩
        exact h (by rw [Nat.mul_comm]; exact Nat.div_add_mod q n)
      simp [tab, upd, h2, e]
    · simp [tab, h2]
theorem tab_zero (n : Nat) : List.replicate (n * n) (Value.bool false) = tab n (fun _ _ => false) := by
  apply List.ext_getElem?
  intro q
  by_cases h : q < n * n
  · simp [tab, h]
  · simp [tab, h]
theorem tab_idx {w : World} {V : Value} {n : Nat} {f : Nat → Nat → Bool} {B : Nat} (h : Own w B 4 V (tab n f)) {i j : Nat} (hi : i < n) (hj : j < n) (w' : World) :
    (Instr.indexAt 64 V (.int .i64 ((i : Int) * (n : Int) + (j : Int)))).run Try.prog w' = .ok (.pointer (some (adr V (i * n + j)))) w' := by
  have := h.reads.idx (P := Try.prog) 64 sliceB sizeB .i64 ((i * n + j : Nat) : Int) (by omega) (by have := ij_lt hi hj; rw [length_tab]; omega) w'
  rw [Int.toNat_natCast, Int.natCast_add, Int.natCast_mul] at this
  exact this
theorem ij_bd {n i : Nat} (hn : n ≤ 12) (hi : i ≤ n) : 0 ≤ (i : Int) * (n : Int) ∧ (i : Int) * (n : Int) ≤ 144 := by
  have h : i * n ≤ 12 * 12 := Nat.mul_le_mul (by omega) hn
  have e : ((i * n : Nat) : Int) = (i : Int) * (n : Int) := Int.natCast_mul i n
  omega

set_option maxHeartbeats 2000000 in
theorem turn_spec (v : Value) (l : List Int) (w : World) (h : Reads w v (ints l)) (hl : l.length ≤ 12) (hr : ∀ i, i < l.length → 0 ≤ nth l i ∧ nth l i ≤ l.length) :
    Calls Try.prog 56 #[v] w fun e w' => ∃ u, e = .returned u ∧ Own w' w.heap.size 2 u (ints (turnF l)) ∧ Below w.heap.size w w' := by
  have hlen := h.len (P := Try.prog) 22 3 ⟨_, sliceI⟩
  simp only [length_ints] at hlen
  have hO := own_empty w 2 (B := w.heap.size) (Nat.le_refl _)
  have hbO : Below w.heap.size w (w.alloc (.cells #[] 2)) := (Below.refl _ _).alloc (Nat.le_refl _) _
  go_enter Try.func56, Try.ntmps56
  go_wp2_with fail
  go_loopw [3, 4] (fun o c wr => ∃ k : Nat, k ≤ l.length ∧ c = .int .i64 k ∧ Own wr w.heap.size 2 o (ints ((turnF l).take k)) ∧ Below w.heap.size w wr) (fun _ c _ => l.length - (intOf c).toNat)
  case atStart => exact ⟨0, by omega, rfl, by simpa [ints] using hO, hbO⟩
  case round =>
    clear hO hbO
    obtain ⟨k, hk, rfl, hO, hb⟩ := hrel
    by_cases hlt : k < l.length
    · have hi := h.idx (P := Try.prog) 22 sliceI sizeI .i64 (k : Int) (by omega) (by simpa using hlt)
      simp only [Int.toNat_natCast] at hi
      have hc := (h.below hb).int hlt
      obtain ⟨r0, r1⟩ := hr k hlt
      obtain ⟨v', w', hrun, hown', hb'⟩ := app_one (ty := 22) (x := .int .i64 ((l.length : Int) - 1 - nth l k)) sliceI infoI rfl hO rfl hb.size (by simp; omega) (by decide) hb (Nat.le_refl _)
      have et : (turnF l).take (k + 1) = (turnF l).take k ++ [(l.length : Int) - 1 - nth l k] := by
        have e := nth_of (l := turnF l) (i := k) (by simpa using hlt)
        rw [List.take_add_one, e, nth_turnF hlt]; rfl
      have hown2 : Own w' w.heap.size 2 v' (ints ((turnF l).take (k + 1))) := by rw [et]; simpa [ints] using hown'
      clear hr hO et hown'
      replace hown2 := hid hown2
      replace hb' := hid hb'
      generalize nth l k = y at *
      go_wp2_with (at_builtin; refine wpList_app hrun rfl _ _ rfl rfl rfl ?_)
      go_roundw
      case rel => exact ⟨k + 1, by omega, by go_num, hown2.out, hb'.out⟩
      case measure => simp [intOf] <;> omega
    · obtain rfl : k = l.length := by omega
      clear hr
      rw [List.take_of_length_le (by simp)] at hO
      go_wp2_with fail
      go_ret
      exact ⟨_, rfl, hO, hb⟩


set_option maxRecDepth 100000 in
set_option maxHeartbeats 16000000 in
theorem close_spec (v u : Value) (a b : List Int) (w : World) (h : Reads w v (ints a)) (h' : Reads w u (ints b)) (hl : a.length = b.length) (hn : a.length ≤ 12) :
    Calls Try.prog 53 #[v, u] w fun e w' => ∃ x, e = .returned x ∧ Own w' w.heap.size 2 x (ints (joinF a b)) ∧ Below w.heap.size w w' := by
  have hlen := h.len (P := Try.prog) 22 3 ⟨_, sliceI⟩
  simp only [length_ints] at hlen
  have hnn := ij_bd hn (Nat.le_refl _)
  have hmk := make_run sliceB infoB rfl ((a.length : Int) * (a.length : Int)) (by omega) (by omega) (by omega)
  have hmk2 := make_run sliceI infoI rfl (a.length : Int) (by omega) (by omega) (by omega)
  have hwn := Go.IntWalk.i64_in ((a.length : Int) * (a.length : Int)) (by omega)
  rw [show ((a.length : Int) * (a.length : Int)).toNat = a.length * a.length from by rw [← Int.natCast_mul, Int.toNat_natCast]] at hmk
  simp only [Int.toNat_natCast] at hmk2
  have hO := own_made w 4 (a.length * a.length) (.bool false) (by have : a.length * a.length ≤ 12 * 12 := Nat.mul_le_mul hn hn; omega) (B := w.heap.size) (Nat.le_refl _)
  have hbO := below_made w 4 (.bool false) (a.length * a.length)
  rw [tab_zero] at hO
  replace hO := hid hO
  replace hbO := hid hbO
  replace hl := hid hl
  replace hnn := hid hnn
  have hmk2h := hid hmk2
  clear hmk2
  go_enter Try.func53, Try.ntmps53
  go_wp2_with fail
  generalize madeV w (a.length * a.length) = V at *
  generalize madeW w 4 (.bool false) (a.length * a.length) = w0 at *
  clear hmk hwn
  go_loopw [7, 8] (fun c _ wr => ∃ (i : Nat) (f : Nat → Nat → Bool), i ≤ a.length ∧ c = .int .i64 i ∧ (∀ p q, p < q → q < a.length → p < i → f p q = orR a b p q) ∧ Own wr w.heap.size 4 V (tab a.length f) ∧ Below w.heap.size w wr) (fun c _ _ => a.length - (intOf c).toNat)
  case atStart => exact ⟨0, _, by omega, rfl, fun p q _ _ h => by omega, hO.out, hbO.out⟩
  case round =>
    clear hO hbO
    obtain ⟨i, f, hi, rfl, hf, hO, hb⟩ := hrel
    replace hf := hid hf
    replace hO := hid hO
    replace hb := hid hb
    by_cases hlt : i < a.length
    · go_wp2_with fail
      rename World => wF
      go_loopw [8] (fun c wr => ∃ (j : Nat) (f : Nat → Nat → Bool), i < j ∧ j ≤ a.length ∧ c = .int .i64 j ∧ (∀ p q, p < q → q < a.length → (p < i ∨ p = i ∧ q < j) → f p q = orR a b p q) ∧ Own wr w.heap.size 4 V (tab a.length f) ∧ Below w.heap.size w wr) (fun c _ => a.length - (intOf c).toNat)
      case atStart => exact ⟨i + 1, f, by omega, by omega, by go_num, fun p q h1 h2 h3 => hf.out p q h1 h2 (by omega), hO.out, hb.out⟩
      case round =>
        clear hf hO hb
        obtain ⟨j, f, hij, hj, rfl, hf, hO, hb⟩ := hrel
        replace hf := hid hf
        by_cases hlt2 : j < a.length
        · have ia := (h.below hb).idx (P := Try.prog) 22 sliceI sizeI .i64 (i : Int) (by omega) (by simp; omega)
          have ja := (h.below hb).idx (P := Try.prog) 22 sliceI sizeI .i64 (j : Int) (by omega) (by simp; omega)
          have ib := (h'.below hb).idx (P := Try.prog) 22 sliceI sizeI .i64 (i : Int) (by omega) (by have := hl.out; simp; omega)
          have jb := (h'.below hb).idx (P := Try.prog) 22 sliceI sizeI .i64 (j : Int) (by omega) (by have := hl.out; simp; omega)
          simp only [Int.toNat_natCast] at ia ja ib jb
          have hbd0 := hid (ij_bd hn hi)
          have wr1 := Go.IntWalk.i64_in ((i : Int) * (a.length : Int)) (by have := hbd0.out; omega)
          have wr2 := Go.IntWalk.i64_in ((i : Int) * (a.length : Int) + (j : Int)) (by have := hbd0.out; omega)
          have iv := tab_idx hO hlt hlt2
          have d1 := hO.reads.cell (i * a.length + j) _ (tab_at hlt hlt2)
          have d2 := hO.frozen (i := i * a.length + j) (by rw [length_tab]; exact ij_lt hlt hlt2)
          have hab := (hO.adr_blk (i := i * a.length + j) (by rw [length_tab]; exact ij_lt hlt hlt2)).2.1
          have hK := hid (fun (w' : World) (hw : Below w.heap.size w w') => (⟨(h.below hw).cell i _ (ints_at (by omega)), (h.below hw).cell j _ (ints_at (by omega)), (h'.below hw).cell i _ (ints_at (by have := hl.out; omega)), (h'.below hw).cell j _ (ints_at (by have := hl.out; omega))⟩ : w'.cell? (adr v i) = some (.int .i64 (nth a i)) ∧ w'.cell? (adr v j) = some (.int .i64 (nth a j)) ∧ w'.cell? (adr u i) = some (.int .i64 (nth b i)) ∧ w'.cell? (adr u j) = some (.int .i64 (nth b j))))
          have hbd := hid hb.drew
          have hbs := hid (fun (z : Value) => hb.drew.setCell (p := adr V (i * a.length + j)) hab z)
          have hfr := hid (fun (z : Value) => hb.drew.setCell (p := adr V (i * a.length + j)) hab z)
          have hst := hid (fun (β : Bool) (hβ : β = orR a b i j) => (show Own (wr.drew.setCell (adr V (i * a.length + j)) (.bool β)) w.heap.size 4 V (tab a.length (upd f i j (orR a b i j))) from by have := (hO.drewN 1).set (i := i * a.length + j) (by rw [length_tab]; exact ij_lt hlt hlt2) (.bool β); rw [tab_set hlt hlt2, hβ] at this; rw [hβ]; exact this))
          have hnew := hid (fun (p q : Nat) (h1 : p < q) (h2 : q < a.length) (h3 : p < i ∨ p = i ∧ q < j + 1) => (show upd f i j (orR a b i j) p q = orR a b p q from by
            unfold upd
            by_cases e : p = i ∧ q = j
            · rw [if_pos e, e.1, e.2]
            · rw [if_neg e]; exact hf.out p q h1 h2 (by omega)))
          clear hO hb hf hab
          by_cases hq : nth b j < nth b i
          all_goals
            by_cases hp : nth a j < nth a i
          all_goals
            first
            | (have hpd : decide (nth a j < nth a i) = true := decide_eq_true hp
               skip
               first | have hqd : decide (nth b j < nth b i) = true := decide_eq_true hq | have hqd : decide (nth b j < nth b i) = false := decide_eq_false hq
               go_wp2_with fail
               refine wp_region_noPanic ?_
               refine wp_region_held_drew (S := (fun w' => w'.cell? (adr v i) = some (.int .i64 (nth a i)) ∧ w'.cell? (adr v j) = some (.int .i64 (nth a j)) ∧ w'.cell? (adr u i) = some (.int .i64 (nth b i)) ∧ w'.cell? (adr u j) = some (.int .i64 (nth b j)))) (by kernel_rfl) ?_ (fun hHeld => ?_)
               focus (first | exact hK.out _ hbd.out | exact hK.out _ (hbs.out _))
               refine wpAnyH_take (i := 0) (v := ?_) rfl (by kernel_rfl) (by kernel_rfl) (by kernel_rfl) (fun _ _ _ h => h) (Or.inl ⟨by kernel_rfl, ?_⟩) (by assumption) ?_; rotate_left; focus ((intro w hSw; (try dsimp only at hSw); go_simp) <;> with_reducible rfl); (try simp only [Act.put, List.setIfInBounds_toArray, List.set_cons_zero, List.set_cons_succ])
               refine wpAnyH_take (i := 1) (v := ?_) rfl (by kernel_rfl) (by kernel_rfl) (by kernel_rfl) (fun _ _ _ h => h) (Or.inl ⟨by kernel_rfl, ?_⟩) (by assumption) ?_; rotate_left; focus ((intro w hSw; (try dsimp only at hSw); go_simp) <;> with_reducible rfl); (try simp only [Act.put, List.setIfInBounds_toArray, List.set_cons_zero, List.set_cons_succ])
               refine wpAnyH_take (i := 2) (v := ?_) rfl (by kernel_rfl) (by kernel_rfl) (by kernel_rfl) (fun _ _ _ h => h) (Or.inl ⟨by kernel_rfl, ?_⟩) (by assumption) ?_; rotate_left; focus ((intro w hSw; (try dsimp only at hSw); go_simp) <;> with_reducible rfl); (try simp only [Act.put, List.setIfInBounds_toArray, List.set_cons_zero, List.set_cons_succ])
               refine wpAnyH_take (i := 3) (v := ?_) rfl (by kernel_rfl) (by kernel_rfl) (by kernel_rfl) (fun _ _ _ h => h) (Or.inl ⟨by kernel_rfl, ?_⟩) (by assumption) ?_; rotate_left; focus ((intro w hSw; (try dsimp only at hSw); go_simp) <;> with_reducible rfl); (try simp only [Act.put, List.setIfInBounds_toArray, List.set_cons_zero, List.set_cons_succ])
               refine wpAnyH_take (i := 4) (v := ?_) rfl (by kernel_rfl) (by kernel_rfl) (by kernel_rfl) (fun _ _ _ h => h) (Or.inl ⟨by kernel_rfl, ?_⟩) (by assumption) ?_; rotate_left; focus ((intro w hSw; (try dsimp only at hSw); go_simp) <;> with_reducible rfl); (try simp only [Act.put, List.setIfInBounds_toArray, List.set_cons_zero, List.set_cons_succ])
               refine wpAnyH_take (i := 5) (v := ?_) rfl (by kernel_rfl) (by kernel_rfl) (by kernel_rfl) (fun _ _ _ h => h) (Or.inl ⟨by kernel_rfl, ?_⟩) (by assumption) ?_; rotate_left; focus ((intro w hSw; (try dsimp only at hSw); go_simp) <;> with_reducible rfl); (try simp only [Act.put, List.setIfInBounds_toArray, List.set_cons_zero, List.set_cons_succ])
               refine wpAnyH_take (i := 6) (v := ?_) rfl (by kernel_rfl) (by kernel_rfl) (by kernel_rfl) (fun _ _ _ h => h) (Or.inl ⟨by kernel_rfl, ?_⟩) (by assumption) ?_; rotate_left; focus ((intro w hSw; (try dsimp only at hSw); go_simp) <;> with_reducible rfl); (try simp only [Act.put, List.setIfInBounds_toArray, List.set_cons_zero, List.set_cons_succ])
               refine wpAnyH_take (i := 7) (v := ?_) rfl (by kernel_rfl) (by kernel_rfl) (by kernel_rfl) (fun _ _ _ h => h) (Or.inl ⟨by kernel_rfl, ?_⟩) (by assumption) ?_; rotate_left; focus ((intro w hSw; (try dsimp only at hSw); go_simp) <;> with_reducible rfl); (try simp only [Act.put, List.setIfInBounds_toArray, List.set_cons_zero, List.set_cons_succ])
               refine wpAnyH_take (i := 8) (v := ?_) rfl (by kernel_rfl) (by kernel_rfl) (by kernel_rfl) (fun _ _ _ h => h) (Or.inl ⟨by kernel_rfl, ?_⟩) (by assumption) ?_; rotate_left; focus ((intro w hSw; (try dsimp only at hSw); go_simp) <;> with_reducible rfl); (try simp only [Act.put, List.setIfInBounds_toArray, List.set_cons_zero, List.set_cons_succ])
               refine wpAnyH_take (i := 9) (v := ?_) rfl (by kernel_rfl) (by kernel_rfl) (by kernel_rfl) (fun _ _ _ h => h) (Or.inl ⟨by kernel_rfl, ?_⟩) (by assumption) ?_; rotate_left; focus ((intro w hSw; (try dsimp only at hSw); go_simp) <;> with_reducible rfl); (try simp only [Act.put, List.setIfInBounds_toArray, List.set_cons_zero, List.set_cons_succ])
               refine wpAnyH_take (i := 10) (v := ?_) rfl (by kernel_rfl) (by kernel_rfl) (by kernel_rfl) (fun _ _ _ h => h) (Or.inl ⟨by kernel_rfl, ?_⟩) (by assumption) ?_; rotate_left; focus ((intro w hSw; (try dsimp only at hSw); go_simp) <;> with_reducible rfl); (try simp only [Act.put, List.setIfInBounds_toArray, List.set_cons_zero, List.set_cons_succ])
               refine wpAnyH_take (i := 11) (v := ?_) rfl (by kernel_rfl) (by kernel_rfl) (by kernel_rfl) (fun _ _ _ h => h) (Or.inl ⟨by kernel_rfl, ?_⟩) (by assumption) ?_; rotate_left; focus ((intro w hSw; (try dsimp only at hSw); go_simp) <;> with_reducible rfl); (try simp only [Act.put, List.setIfInBounds_toArray, List.set_cons_zero, List.set_cons_succ])
               refine wpAnyH_take (i := 12) (v := ?_) rfl (by kernel_rfl) (by kernel_rfl) (by kernel_rfl) (fun _ _ _ h => h) (Or.inl ⟨by kernel_rfl, ?_⟩) (by assumption) ?_; rotate_left; focus ((intro w hSw; (try dsimp only at hSw); go_simp) <;> with_reducible rfl); (try simp only [Act.put, List.setIfInBounds_toArray, List.set_cons_zero, List.set_cons_succ])
               refine wpAnyH_take (i := 13) (v := ?_) rfl (by kernel_rfl) (by kernel_rfl) (by kernel_rfl) (fun _ _ _ h => h) (Or.inl ⟨by kernel_rfl, ?_⟩) (by assumption) ?_; rotate_left; focus ((intro w hSw; (try dsimp only at hSw); go_simp) <;> with_reducible rfl); (try simp only [Act.put, List.setIfInBounds_toArray, List.set_cons_zero, List.set_cons_succ])
               refine wpAnyH_take (i := 14) (v := ?_) rfl (by kernel_rfl) (by kernel_rfl) (by kernel_rfl) (fun _ _ _ h => h) (Or.inl ⟨by kernel_rfl, ?_⟩) (by assumption) ?_; rotate_left; focus ((intro w hSw; (try dsimp only at hSw); go_simp) <;> with_reducible rfl); (try simp only [Act.put, List.setIfInBounds_toArray, List.set_cons_zero, List.set_cons_succ])
               refine wpAnyH_take (i := 15) (v := ?_) rfl (by kernel_rfl) (by kernel_rfl) (by kernel_rfl) (fun _ _ _ h => h) (Or.inl ⟨by kernel_rfl, ?_⟩) (by assumption) ?_; rotate_left; focus ((intro w hSw; (try dsimp only at hSw); go_simp) <;> with_reducible rfl); (try simp only [Act.put, List.setIfInBounds_toArray, List.set_cons_zero, List.set_cons_succ])
               refine wpAnyH_take (i := 16) (v := undef) rfl (by kernel_rfl) (by kernel_rfl) (by kernel_rfl) (fun _ _ _ h => h) (Or.inr ⟨by kernel_rfl, rfl⟩) (by assumption) ?_; (try simp only [Act.put, List.setIfInBounds_toArray, List.set_cons_zero, List.set_cons_succ])
               refine wpAnyH_take (i := 17) (v := undef) rfl (by kernel_rfl) (by kernel_rfl) (by kernel_rfl) (fun _ _ _ h => h) (Or.inr ⟨by kernel_rfl, rfl⟩) (by assumption) ?_; (try simp only [Act.put, List.setIfInBounds_toArray, List.set_cons_zero, List.set_cons_succ])
               refine wpAnyH_take (i := 18) (v := undef) rfl (by kernel_rfl) (by kernel_rfl) (by kernel_rfl) (fun _ _ _ h => h) (Or.inr ⟨by kernel_rfl, rfl⟩) (by assumption) ?_; (try simp only [Act.put, List.setIfInBounds_toArray, List.set_cons_zero, List.set_cons_succ])
               refine wpAnyH_take (i := 19) (v := undef) rfl (by kernel_rfl) (by kernel_rfl) (by kernel_rfl) (fun _ _ _ h => h) (Or.inr ⟨by kernel_rfl, rfl⟩) (by assumption) ?_; (try simp only [Act.put, List.setIfInBounds_toArray, List.set_cons_zero, List.set_cons_succ])
               refine wpAnyH_take (i := 20) (v := undef) rfl (by kernel_rfl) (by kernel_rfl) (by kernel_rfl) (fun _ _ _ h => h) (Or.inr ⟨by kernel_rfl, rfl⟩) (by assumption) ?_; (try simp only [Act.put, List.setIfInBounds_toArray, List.set_cons_zero, List.set_cons_succ])
               refine wpAnyH_take (i := 21) (v := undef) rfl (by kernel_rfl) (by kernel_rfl) (by kernel_rfl) (fun _ _ _ h => h) (Or.inr ⟨by kernel_rfl, rfl⟩) (by assumption) ?_; (try simp only [Act.put, List.setIfInBounds_toArray, List.set_cons_zero, List.set_cons_succ])
               refine wpAnyH_take (i := 22) (v := undef) rfl (by kernel_rfl) (by kernel_rfl) (by kernel_rfl) (fun _ _ _ h => h) (Or.inr ⟨by kernel_rfl, rfl⟩) (by assumption) ?_; (try simp only [Act.put, List.setIfInBounds_toArray, List.set_cons_zero, List.set_cons_succ])
               refine wpAnyH_take (i := 23) (v := undef) rfl (by kernel_rfl) (by kernel_rfl) (by kernel_rfl) (fun _ _ _ h => h) (Or.inr ⟨by kernel_rfl, rfl⟩) (by assumption) ?_; (try simp only [Act.put, List.setIfInBounds_toArray, List.set_cons_zero, List.set_cons_succ])
               refine wpAnyH_take (i := 24) (v := undef) rfl (by kernel_rfl) (by kernel_rfl) (by kernel_rfl) (fun _ _ _ h => h) (Or.inr ⟨by kernel_rfl, rfl⟩) (by assumption) ?_; (try simp only [Act.put, List.setIfInBounds_toArray, List.set_cons_zero, List.set_cons_succ])
               refine wpAnyH_take (i := 25) (v := ?_) rfl (by kernel_rfl) (by kernel_rfl) (by kernel_rfl) (fun _ _ _ h => h) (Or.inl ⟨by kernel_rfl, ?_⟩) (by assumption) ?_; rotate_left; focus ((intro w hSw; (try dsimp only at hSw); go_simp) <;> with_reducible rfl); (try simp only [Act.put, List.setIfInBounds_toArray, List.set_cons_zero, List.set_cons_succ])
               refine wpAnyH_take (i := 26) (v := ?_) rfl (by kernel_rfl) (by kernel_rfl) (by kernel_rfl) (fun _ _ _ h => h) (Or.inl ⟨by kernel_rfl, ?_⟩) (by assumption) ?_; rotate_left; focus ((intro w hSw; (try dsimp only at hSw); go_simp) <;> with_reducible rfl); (try simp only [Act.put, List.setIfInBounds_toArray, List.set_cons_zero, List.set_cons_succ])
               refine wpAnyH_ready (rs := [27]) (by kernel_rfl) (by simp) ?_
               refine AllReadyH.cons rfl (fun KK hKK => ?_) AllReadyH.nil
               go_simp
               refine hKK.out _ _ ?_ (fun hHeld => ?_)
               focus (first | exact hK.out _ hbd.out | exact hK.out _ (hbs.out _))
               clear hKK KK
               (try simp only [Act.put, List.setIfInBounds_toArray, List.set_cons_zero, List.set_cons_succ])
               refine wpAnyH_done (by kernel_rfl) ?_ _
               refine NoPanic.normal ?_
               go_wp2_with fail
               go_roundw
               case rel => exact ⟨j + 1, _, by omega, by omega, by go_num, hnew.out, hst.out _ (by simp [orR, hpd, hqd]), hfr.out _⟩
               case measure => simp [intOf] <;> omega)
            | (have hpd : decide (nth a j < nth a i) = false := decide_eq_false hp
               skip
               first | have hqd : decide (nth b j < nth b i) = true := decide_eq_true hq | have hqd : decide (nth b j < nth b i) = false := decide_eq_false hq
               go_wp2_with fail
               refine wp_region_noPanic ?_
               refine wp_region_held_drew (S := (fun w' => w'.cell? (adr v i) = some (.int .i64 (nth a i)) ∧ w'.cell? (adr v j) = some (.int .i64 (nth a j)) ∧ w'.cell? (adr u i) = some (.int .i64 (nth b i)) ∧ w'.cell? (adr u j) = some (.int .i64 (nth b j)))) (by kernel_rfl) ?_ (fun hHeld => ?_)
               focus (first | exact hK.out _ hbd.out | exact hK.out _ (hbs.out _))
               refine wpAnyH_take (i := 0) (v := ?_) rfl (by kernel_rfl) (by kernel_rfl) (by kernel_rfl) (fun _ _ _ h => h) (Or.inl ⟨by kernel_rfl, ?_⟩) (by assumption) ?_; rotate_left; focus ((intro w hSw; (try dsimp only at hSw); go_simp) <;> with_reducible rfl); (try simp only [Act.put, List.setIfInBounds_toArray, List.set_cons_zero, List.set_cons_succ])
               refine wpAnyH_take (i := 1) (v := ?_) rfl (by kernel_rfl) (by kernel_rfl) (by kernel_rfl) (fun _ _ _ h => h) (Or.inl ⟨by kernel_rfl, ?_⟩) (by assumption) ?_; rotate_left; focus ((intro w hSw; (try dsimp only at hSw); go_simp) <;> with_reducible rfl); (try simp only [Act.put, List.setIfInBounds_toArray, List.set_cons_zero, List.set_cons_succ])
               refine wpAnyH_take (i := 2) (v := ?_) rfl (by kernel_rfl) (by kernel_rfl) (by kernel_rfl) (fun _ _ _ h => h) (Or.inl ⟨by kernel_rfl, ?_⟩) (by assumption) ?_; rotate_left; focus ((intro w hSw; (try dsimp only at hSw); go_simp) <;> with_reducible rfl); (try simp only [Act.put, List.setIfInBounds_toArray, List.set_cons_zero, List.set_cons_succ])
               refine wpAnyH_take (i := 3) (v := ?_) rfl (by kernel_rfl) (by kernel_rfl) (by kernel_rfl) (fun _ _ _ h => h) (Or.inl ⟨by kernel_rfl, ?_⟩) (by assumption) ?_; rotate_left; focus ((intro w hSw; (try dsimp only at hSw); go_simp) <;> with_reducible rfl); (try simp only [Act.put, List.setIfInBounds_toArray, List.set_cons_zero, List.set_cons_succ])
               refine wpAnyH_take (i := 4) (v := ?_) rfl (by kernel_rfl) (by kernel_rfl) (by kernel_rfl) (fun _ _ _ h => h) (Or.inl ⟨by kernel_rfl, ?_⟩) (by assumption) ?_; rotate_left; focus ((intro w hSw; (try dsimp only at hSw); go_simp) <;> with_reducible rfl); (try simp only [Act.put, List.setIfInBounds_toArray, List.set_cons_zero, List.set_cons_succ])
               refine wpAnyH_take (i := 5) (v := ?_) rfl (by kernel_rfl) (by kernel_rfl) (by kernel_rfl) (fun _ _ _ h => h) (Or.inl ⟨by kernel_rfl, ?_⟩) (by assumption) ?_; rotate_left; focus ((intro w hSw; (try dsimp only at hSw); go_simp) <;> with_reducible rfl); (try simp only [Act.put, List.setIfInBounds_toArray, List.set_cons_zero, List.set_cons_succ])
               refine wpAnyH_take (i := 6) (v := ?_) rfl (by kernel_rfl) (by kernel_rfl) (by kernel_rfl) (fun _ _ _ h => h) (Or.inl ⟨by kernel_rfl, ?_⟩) (by assumption) ?_; rotate_left; focus ((intro w hSw; (try dsimp only at hSw); go_simp) <;> with_reducible rfl); (try simp only [Act.put, List.setIfInBounds_toArray, List.set_cons_zero, List.set_cons_succ])
               refine wpAnyH_take (i := 7) (v := ?_) rfl (by kernel_rfl) (by kernel_rfl) (by kernel_rfl) (fun _ _ _ h => h) (Or.inl ⟨by kernel_rfl, ?_⟩) (by assumption) ?_; rotate_left; focus ((intro w hSw; (try dsimp only at hSw); go_simp) <;> with_reducible rfl); (try simp only [Act.put, List.setIfInBounds_toArray, List.set_cons_zero, List.set_cons_succ])
               refine wpAnyH_take (i := 8) (v := ?_) rfl (by kernel_rfl) (by kernel_rfl) (by kernel_rfl) (fun _ _ _ h => h) (Or.inl ⟨by kernel_rfl, ?_⟩) (by assumption) ?_; rotate_left; focus ((intro w hSw; (try dsimp only at hSw); go_simp) <;> with_reducible rfl); (try simp only [Act.put, List.setIfInBounds_toArray, List.set_cons_zero, List.set_cons_succ])
               refine wpAnyH_take (i := 9) (v := ?_) rfl (by kernel_rfl) (by kernel_rfl) (by kernel_rfl) (fun _ _ _ h => h) (Or.inl ⟨by kernel_rfl, ?_⟩) (by assumption) ?_; rotate_left; focus ((intro w hSw; (try dsimp only at hSw); go_simp) <;> with_reducible rfl); (try simp only [Act.put, List.setIfInBounds_toArray, List.set_cons_zero, List.set_cons_succ])
               refine wpAnyH_take (i := 10) (v := ?_) rfl (by kernel_rfl) (by kernel_rfl) (by kernel_rfl) (fun _ _ _ h => h) (Or.inl ⟨by kernel_rfl, ?_⟩) (by assumption) ?_; rotate_left; focus ((intro w hSw; (try dsimp only at hSw); go_simp) <;> with_reducible rfl); (try simp only [Act.put, List.setIfInBounds_toArray, List.set_cons_zero, List.set_cons_succ])
               refine wpAnyH_take (i := 11) (v := ?_) rfl (by kernel_rfl) (by kernel_rfl) (by kernel_rfl) (fun _ _ _ h => h) (Or.inl ⟨by kernel_rfl, ?_⟩) (by assumption) ?_; rotate_left; focus ((intro w hSw; (try dsimp only at hSw); go_simp) <;> with_reducible rfl); (try simp only [Act.put, List.setIfInBounds_toArray, List.set_cons_zero, List.set_cons_succ])
               refine wpAnyH_take (i := 12) (v := ?_) rfl (by kernel_rfl) (by kernel_rfl) (by kernel_rfl) (fun _ _ _ h => h) (Or.inl ⟨by kernel_rfl, ?_⟩) (by assumption) ?_; rotate_left; focus ((intro w hSw; (try dsimp only at hSw); go_simp) <;> with_reducible rfl); (try simp only [Act.put, List.setIfInBounds_toArray, List.set_cons_zero, List.set_cons_succ])
               refine wpAnyH_take (i := 13) (v := ?_) rfl (by kernel_rfl) (by kernel_rfl) (by kernel_rfl) (fun _ _ _ h => h) (Or.inl ⟨by kernel_rfl, ?_⟩) (by assumption) ?_; rotate_left; focus ((intro w hSw; (try dsimp only at hSw); go_simp) <;> with_reducible rfl); (try simp only [Act.put, List.setIfInBounds_toArray, List.set_cons_zero, List.set_cons_succ])
               refine wpAnyH_take (i := 14) (v := ?_) rfl (by kernel_rfl) (by kernel_rfl) (by kernel_rfl) (fun _ _ _ h => h) (Or.inl ⟨by kernel_rfl, ?_⟩) (by assumption) ?_; rotate_left; focus ((intro w hSw; (try dsimp only at hSw); go_simp) <;> with_reducible rfl); (try simp only [Act.put, List.setIfInBounds_toArray, List.set_cons_zero, List.set_cons_succ])
               refine wpAnyH_take (i := 15) (v := ?_) rfl (by kernel_rfl) (by kernel_rfl) (by kernel_rfl) (fun _ _ _ h => h) (Or.inl ⟨by kernel_rfl, ?_⟩) (by assumption) ?_; rotate_left; focus ((intro w hSw; (try dsimp only at hSw); go_simp) <;> with_reducible rfl); (try simp only [Act.put, List.setIfInBounds_toArray, List.set_cons_zero, List.set_cons_succ])
               refine wpAnyH_take (i := 16) (v := ?_) rfl (by kernel_rfl) (by kernel_rfl) (by kernel_rfl) (fun _ _ _ h => h) (Or.inl ⟨by kernel_rfl, ?_⟩) (by assumption) ?_; rotate_left; focus ((intro w hSw; (try dsimp only at hSw); go_simp) <;> with_reducible rfl); (try simp only [Act.put, List.setIfInBounds_toArray, List.set_cons_zero, List.set_cons_succ])
               refine wpAnyH_take (i := 17) (v := ?_) rfl (by kernel_rfl) (by kernel_rfl) (by kernel_rfl) (fun _ _ _ h => h) (Or.inl ⟨by kernel_rfl, ?_⟩) (by assumption) ?_; rotate_left; focus ((intro w hSw; (try dsimp only at hSw); go_simp) <;> with_reducible rfl); (try simp only [Act.put, List.setIfInBounds_toArray, List.set_cons_zero, List.set_cons_succ])
               refine wpAnyH_take (i := 18) (v := ?_) rfl (by kernel_rfl) (by kernel_rfl) (by kernel_rfl) (fun _ _ _ h => h) (Or.inl ⟨by kernel_rfl, ?_⟩) (by assumption) ?_; rotate_left; focus ((intro w hSw; (try dsimp only at hSw); go_simp) <;> with_reducible rfl); (try simp only [Act.put, List.setIfInBounds_toArray, List.set_cons_zero, List.set_cons_succ])
               refine wpAnyH_take (i := 19) (v := ?_) rfl (by kernel_rfl) (by kernel_rfl) (by kernel_rfl) (fun _ _ _ h => h) (Or.inl ⟨by kernel_rfl, ?_⟩) (by assumption) ?_; rotate_left; focus ((intro w hSw; (try dsimp only at hSw); go_simp) <;> with_reducible rfl); (try simp only [Act.put, List.setIfInBounds_toArray, List.set_cons_zero, List.set_cons_succ])
               refine wpAnyH_take (i := 20) (v := ?_) rfl (by kernel_rfl) (by kernel_rfl) (by kernel_rfl) (fun _ _ _ h => h) (Or.inl ⟨by kernel_rfl, ?_⟩) (by assumption) ?_; rotate_left; focus ((intro w hSw; (try dsimp only at hSw); go_simp) <;> with_reducible rfl); (try simp only [Act.put, List.setIfInBounds_toArray, List.set_cons_zero, List.set_cons_succ])
               refine wpAnyH_take (i := 21) (v := ?_) rfl (by kernel_rfl) (by kernel_rfl) (by kernel_rfl) (fun _ _ _ h => h) (Or.inl ⟨by kernel_rfl, ?_⟩) (by assumption) ?_; rotate_left; focus ((intro w hSw; (try dsimp only at hSw); go_simp) <;> with_reducible rfl); (try simp only [Act.put, List.setIfInBounds_toArray, List.set_cons_zero, List.set_cons_succ])
               refine wpAnyH_take (i := 22) (v := ?_) rfl (by kernel_rfl) (by kernel_rfl) (by kernel_rfl) (fun _ _ _ h => h) (Or.inl ⟨by kernel_rfl, ?_⟩) (by assumption) ?_; rotate_left; focus ((intro w hSw; (try dsimp only at hSw); go_simp) <;> with_reducible rfl); (try simp only [Act.put, List.setIfInBounds_toArray, List.set_cons_zero, List.set_cons_succ])
               refine wpAnyH_take (i := 23) (v := ?_) rfl (by kernel_rfl) (by kernel_rfl) (by kernel_rfl) (fun _ _ _ h => h) (Or.inl ⟨by kernel_rfl, ?_⟩) (by assumption) ?_; rotate_left; focus ((intro w hSw; (try dsimp only at hSw); go_simp) <;> with_reducible rfl); (try simp only [Act.put, List.setIfInBounds_toArray, List.set_cons_zero, List.set_cons_succ])
               refine wpAnyH_take (i := 24) (v := ?_) rfl (by kernel_rfl) (by kernel_rfl) (by kernel_rfl) (fun _ _ _ h => h) (Or.inl ⟨by kernel_rfl, ?_⟩) (by assumption) ?_; rotate_left; focus ((intro w hSw; (try dsimp only at hSw); go_simp) <;> with_reducible rfl); (try simp only [Act.put, List.setIfInBounds_toArray, List.set_cons_zero, List.set_cons_succ])
               refine wpAnyH_take (i := 25) (v := ?_) rfl (by kernel_rfl) (by kernel_rfl) (by kernel_rfl) (fun _ _ _ h => h) (Or.inl ⟨by kernel_rfl, ?_⟩) (by assumption) ?_; rotate_left; focus ((intro w hSw; (try dsimp only at hSw); go_simp) <;> with_reducible rfl); (try simp only [Act.put, List.setIfInBounds_toArray, List.set_cons_zero, List.set_cons_succ])
               refine wpAnyH_take (i := 26) (v := ?_) rfl (by kernel_rfl) (by kernel_rfl) (by kernel_rfl) (fun _ _ _ h => h) (Or.inl ⟨by kernel_rfl, ?_⟩) (by assumption) ?_; rotate_left; focus ((intro w hSw; (try dsimp only at hSw); go_simp) <;> with_reducible rfl); (try simp only [Act.put, List.setIfInBounds_toArray, List.set_cons_zero, List.set_cons_succ])
               refine wpAnyH_ready (rs := [27]) (by kernel_rfl) (by simp) ?_
               refine AllReadyH.cons rfl (fun KK hKK => ?_) AllReadyH.nil
               go_simp
               refine hKK.out _ _ ?_ (fun hHeld => ?_)
               focus (first | exact hK.out _ hbd.out | exact hK.out _ (hbs.out _))
               clear hKK KK
               (try simp only [Act.put, List.setIfInBounds_toArray, List.set_cons_zero, List.set_cons_succ])
               refine wpAnyH_done (by kernel_rfl) ?_ _
               refine NoPanic.normal ?_
               go_wp2_with fail
               go_roundw
               case rel => exact ⟨j + 1, _, by omega, by omega, by go_num, hnew.out, hst.out _ (by simp [orR, hpd, hqd]), hfr.out _⟩
               case measure => simp [intOf] <;> omega)
        · obtain rfl : j = a.length := by omega
          have hf2 := hid (fun (p q : Nat) (h1 : p < q) (h2 : q < a.length) (h3 : p < i + 1) => hf.out p q h1 h2 (by omega))
          replace hO := hid hO
          replace hb := hid hb
          clear hf
          go_wp2_with fail
          go_roundw
          case rel => exact ⟨i + 1, f, by omega, by go_num, hf2.out, hO.out, hb.out⟩
          case measure => simp [intOf] <;> omega
    · obtain rfl : i = a.length := by omega
      have hf2 := hid (fun (p q : Nat) (h1 : p < q) (h2 : q < a.length) => hf.out p q h1 h2 (by omega))
      clear hf
      have hR := hid (show ∃ R, R = orR a b from ⟨_, rfl⟩)
      obtain ⟨R, hRe⟩ := hR.out
      have hRe := hid hRe
      clear hR
      have hf3 := hid (fun (p q : Nat) (h1 : p < q) (h2 : q < a.length) => (show f p q = R p q from by rw [hRe.out]; exact hf2.out p q h1 h2))
      clear hf2
      go_wp2_with fail
      go_loopw [9, 10, 11] (fun c _ _ wr => ∃ (W : Nat) (f : Nat → Nat → Bool), 2 ≤ W ∧ W ≤ a.length + 2 ∧ c = .int .i64 W ∧ (∀ p q, p < q → q < a.length → f p q = if q - p < W then clos R p q else R p q) ∧ Own wr w.heap.size 4 V (tab a.length f) ∧ Below w.heap.size w wr) (fun c _ _ _ => a.length + 2 - (intOf c).toNat)
      case atStart =>
        refine ⟨2, f, by omega, by omega, rfl, fun p q h1 h2 => ?_, hO.out, hb.out⟩
        rw [hf3.out p q h1 h2]
        by_cases e : q - p < 2
        · rw [if_pos e, ← prt_end h1, show q = p + 1 by omega, prt_start]
        · rw [if_neg e]
      case round =>
        clear hf3 hO hb
        obtain ⟨W, f, hW2, hWn, rfl, hf, hO, hb⟩ := hrel
        replace hf := hid hf
        replace hO := hid hO
        replace hb := hid hb
        by_cases hWl : W < a.length
        · go_wp2_with fail
          rename World => wF
          go_loopw [10, 11] (fun c _ wr => ∃ (i : Nat) (f : Nat → Nat → Bool), i + W ≤ a.length ∧ c = .int .i64 i ∧ (∀ p q, p < q → q < a.length → f p q = if q - p < W ∨ q - p = W ∧ p < i then clos R p q else R p q) ∧ Own wr w.heap.size 4 V (tab a.length f) ∧ Below w.heap.size w wr) (fun c _ _ => a.length - (intOf c).toNat)
          case atStart =>
            refine ⟨0, f, by omega, rfl, fun p q h1 h2 => ?_, hO.out, hb.out⟩
            rw [hf.out p q h1 h2]
            by_cases e : q - p < W
            · rw [if_pos e, if_pos (.inl e)]
            · rw [if_neg e, if_neg (by omega)]
          case round =>
          clear hf hO hb
          obtain ⟨i, f, hi, rfl, hf, hO, hb⟩ := hrel
          replace hf := hid hf
          replace hO := hid hO
          replace hb := hid hb
          by_cases hiW : i + W < a.length
          case neg =>
            have hf2 := hid (fun (p q : Nat) (h1 : p < q) (h2 : q < a.length) => (show f p q = if q - p < W + 1 then clos R p q else R p q from by
              rw [hf.out p q h1 h2]
              by_cases e : q - p < W + 1
              · rw [if_pos e, if_pos (by omega)]
              · rw [if_neg e, if_neg (by omega)]))
            clear hf
            go_wp2_with fail
            go_roundw
            case rel => exact ⟨W + 1, f, by omega, by omega, by go_num, hf2.out, hO.out, hb.out⟩
            case measure => simp [intOf] <;> omega
          case pos =>
          go_wp2_with fail
          rename World => wG
          go_loopw [11] (fun c wr => ∃ (j : Nat) (f : Nat → Nat → Bool), i < j ∧ j ≤ i + W ∧ c = .int .i64 j ∧ (∀ p q, p < q → q < a.length → f p q = if q - p < W ∨ q - p = W ∧ p < i then clos R p q else if p = i ∧ q = i + W then prt R i (i + W) j else R p q) ∧ Own wr w.heap.size 4 V (tab a.length f) ∧ Below w.heap.size w wr) (fun c _ => i + W - (intOf c).toNat)
          case atStart =>
            refine ⟨i + 1, f, by omega, by omega, by go_num, fun p q h1 h2 => ?_, hO.out, hb.out⟩
            rw [hf.out p q h1 h2]
            by_cases e : q - p < W ∨ q - p = W ∧ p < i
            · rw [if_pos e, if_pos e]
            · rw [if_neg e, if_neg e]
              by_cases e2 : p = i ∧ q = i + W
              · rw [if_pos e2, prt_start, e2.1, e2.2]
              · rw [if_neg e2]
          case round =>
          clear hf hO hb
          obtain ⟨j, f, hij, hj, rfl, hf, hO, hb⟩ := hrel
          replace hf := hid hf
          by_cases hjW : j < i + W
          case neg =>
            obtain rfl : j = i + W := by omega
            have hf2 := hid (fun (p q : Nat) (h1 : p < q) (h2 : q < a.length) => (show f p q = if q - p < W ∨ q - p = W ∧ p < i + 1 then clos R p q else R p q from by
              rw [hf.out p q h1 h2, prt_end (by omega)]
              by_cases e : q - p < W ∨ q - p = W ∧ p < i
              · rw [if_pos e, if_pos (by omega)]
              · rw [if_neg e]
                by_cases e2 : p = i ∧ q = i + W
                · rw [if_pos e2, if_pos (by omega), e2.1, e2.2]
                · rw [if_neg e2, if_neg (by omega)]))
            replace hO := hid hO
            replace hb := hid hb
            clear hf
            go_wp2_with fail
            go_roundw
            case rel => exact ⟨i + 1, f, by omega, by go_num, hf2.out, hO.out, hb.out⟩
            case measure => simp [intOf] <;> omega
          case pos =>
          have hbd0 := hid (ij_bd hn (show i ≤ a.length by omega))
          have hbd1 := hid (ij_bd hn (show j ≤ a.length by omega))
          have wr1 := Go.IntWalk.i64_in ((i : Int) * (a.length : Int)) (by have := hbd0.out; omega)
          have wr2 := Go.IntWalk.i64_in ((i : Int) * (a.length : Int) + (j : Int)) (by have := hbd0.out; omega)
          have wr3 := Go.IntWalk.i64_in ((j : Int) * (a.length : Int)) (by have := hbd1.out; omega)
          have wr4 := Go.IntWalk.i64_in ((j : Int) * (a.length : Int) + (i : Int)) (by have := hbd1.out; omega)
          have wr5 := Go.IntWalk.i64_in ((j : Int) * (a.length : Int) + (i : Int) + (W : Int)) (by have := hbd1.out; omega)
          have wr6 := Go.IntWalk.i64_in ((i : Int) * (a.length : Int) + (i : Int)) (by have := hbd0.out; omega)
          have wr7 := Go.IntWalk.i64_in ((i : Int) * (a.length : Int) + (i : Int) + (W : Int)) (by have := hbd0.out; omega)
          have iv1 := tab_idx hO (i := i) (j := j) (by omega) (by omega)
          have iv2 := tab_idx hO (i := j) (j := i + W) (by omega) (by omega)
          have iv3 := tab_idx hO (i := i) (j := i + W) (by omega) (by omega)
          rw [Int.natCast_add, ← Int.add_assoc] at iv2 iv3
          have c1 := hO.reads.cell (i * a.length + j) _ (tab_at (by omega) (by omega))
          have c2 := hO.reads.cell (j * a.length + (i + W)) _ (tab_at (by omega) (by omega))
          have c3 := hO.reads.cell (i * a.length + (i + W)) _ (tab_at (by omega) (by omega))
          have f3 := hO.frozen (i := i * a.length + (i + W)) (by rw [length_tab]; exact ij_lt (by omega) (by omega))
          have hab := (hO.adr_blk (i := i * a.length + (i + W)) (by rw [length_tab]; exact ij_lt (by omega) (by omega))).2.1
          have hst := hid (by have := hO.set (i := i * a.length + (i + W)) (by rw [length_tab]; exact ij_lt (by omega) (by omega)) (.bool true); rw [tab_set (by omega) (by omega)] at this; exact this : Own (wr.setCell (adr V (i * a.length + (i + W))) (.bool true)) w.heap.size 4 V (tab a.length (upd f i (i + W) true)))
          have hfr := hid (hb.setCell (p := adr V (i * a.length + (i + W))) hab (.bool true))
          have e1 := hf.out i j hij (by omega)
          rw [if_pos (by omega)] at e1
          have e2 := hf.out j (i + W) hjW (by omega)
          rw [if_pos (by omega)] at e2
          have hps := hid (prt_succ (R := R) (i := i) (j := i + W) (m := j) hij)
          rw [← e1, ← e2] at hps
          replace e1 := hid e1
          replace e2 := hid e2
          have hgen := hid (fun (g : Nat → Nat → Bool) (hg : ∀ p q, ¬ (p = i ∧ q = i + W) → g p q = f p q) (hg2 : g i (i + W) = prt R i (i + W) (j + 1)) (p q : Nat) (h1 : p < q) (h2 : q < a.length) => (show g p q = if q - p < W ∨ q - p = W ∧ p < i then clos R p q else if p = i ∧ q = i + W then prt R i (i + W) (j + 1) else R p q from by
            by_cases e : p = i ∧ q = i + W
            · rw [if_neg (by omega), if_pos e, e.1, e.2, hg2]
            · rw [hg p q e, hf.out p q h1 h2, if_neg e, if_neg e]))
          have hsame := hid (show f i (i + W) = prt R i (i + W) j from by rw [hf.out i (i + W) (by omega) hiW, if_neg (by omega), if_pos ⟨rfl, rfl⟩])
          replace hO := hid hO
          replace hb := hid hb
          clear hf hab
          by_cases hv1 : f i j = true
          · by_cases hv2 : f j (i + W) = true
            · go_wp2_with fail
              go_roundw
              case rel => exact ⟨j + 1, _, by omega, by omega, by go_num, hgen.out (upd f i (i + W) true) (fun p q e => by unfold upd; rw [if_neg e]) (by rw [hps.out, hv1, hv2]; simp [upd]), hst.out, hfr.out⟩
              case measure => simp [intOf] <;> omega
            · have hv2' : f j (i + W) = false := by simpa using hv2
              go_wp2_with fail
              go_roundw
              case rel => exact ⟨j + 1, f, by omega, by omega, by go_num, hgen.out f (fun p q e => rfl) (by rw [hps.out, hv2', Bool.and_false, Bool.or_false]; exact hsame.out), hO.out, hb.out⟩
              case measure => simp [intOf] <;> omega
          · have hv1' : f i j = false := by simpa using hv1
            go_wp2_with fail
            go_roundw
            case rel => exact ⟨j + 1, f, by omega, by omega, by go_num, hgen.out f (fun p q e => rfl) (by rw [hps.out, hv1', Bool.false_and, Bool.or_false]; exact hsame.out), hO.out, hb.out⟩
            case measure => simp [intOf] <;> omega
        · have hf2 := hid (fun (p q : Nat) (h1 : p < q) (h2 : q < a.length) => (show f p q = clos R p q from by rw [hf.out p q h1 h2, if_pos (by omega)]))
          clear hf
          have hmk2 := hmk2h.out
          clear hmk2h
          have hP := hid (own_made wr 2 a.length (.int .i64 0) (by omega) (B := wr.heap.size) (Nat.le_refl _))
          have hPb := hid (below_made wr 2 (.int .i64 0) a.length)
          rw [show List.replicate a.length (Value.int .i64 0) = ints (stL (clos R) a.length 0 1) from by rw [stL_start]; simp [ints]] at hP
          have hV := hid (fun (w' : World) (hw : Below wr.heap.size wr w') => (hO.out.below hw))
          rename World => wZ
          go_wp2_with fail
          generalize madeV wZ a.length = Z at *
          generalize madeW wZ 2 (.int .i64 0) a.length = w9 at *
          have hbZ := hid (hb.out.trans (hPb.out.mono hb.out.size))
          clear hmk2
          go_loopw [13, 14] (fun c _ wr => ∃ i : Nat, i ≤ a.length ∧ c = .int .i64 i ∧ Own wr wZ.heap.size 2 Z (ints (stL (clos R) a.length i (i + 1))) ∧ Below wZ.heap.size wZ wr) (fun c _ _ => a.length - (intOf c).toNat)
          case atStart => exact ⟨0, by omega, rfl, hP.out, hPb.out⟩
          case round =>
          clear hP hPb hbZ
          obtain ⟨i, hi, rfl, hP, hbP⟩ := hrel
          by_cases hlt : i < a.length
          case neg =>
            obtain rfl : i = a.length := by omega
            rw [stL_end] at hP
            have hfin := hid (hb.out.trans (hbP.mono hb.out.size))
            have hP2 := hid (hP.mono hb.out.size)
            rw [hRe.out] at hP2
            clear hP hbP
            go_wp2_with fail
            go_ret
            exact ⟨_, rfl, hP2.out, hfin.out⟩
          case pos =>
          replace hP := hid hP
          replace hbP := hid hbP
          go_wp2_with fail
          rename World => wY
          go_loopw [14] (fun c wr => ∃ j : Nat, i < j ∧ j ≤ a.length ∧ c = .int .i64 j ∧ Own wr wZ.heap.size 2 Z (ints (stL (clos R) a.length i j)) ∧ Below wZ.heap.size wZ wr) (fun c _ => a.length - (intOf c).toNat)
          case atStart => exact ⟨i + 1, by omega, by omega, by go_num, hP.out, hbP.out⟩
          case round =>
          clear hP hbP
          obtain ⟨j, hij, hj, rfl, hP, hbP⟩ := hrel
          by_cases hlt2 : j < a.length
          case neg =>
            obtain rfl : j = a.length := by omega
            rw [stL_row _ hlt] at hP
            replace hP := hid hP
            replace hbP := hid hbP
            go_wp2_with fail
            go_roundw
            case rel => exact ⟨i + 1, by omega, by go_num, hP.out, hbP.out⟩
            case measure => simp [intOf] <;> omega
          case pos =>
          have hbd0 := hid (ij_bd hn hi)
          have wr1 := Go.IntWalk.i64_in ((i : Int) * (a.length : Int)) (by have := hbd0.out; omega)
          have wr2 := Go.IntWalk.i64_in ((i : Int) * (a.length : Int) + (j : Int)) (by have := hbd0.out; omega)
          have iv := tab_idx hO.out hlt hlt2
          have d1 := (hV.out _ hbP).reads.cell (i * a.length + j) _ (tab_at hlt hlt2)
          have hfv := hf2.out i j hij hlt2
          have hex : ∃ t, t < a.length ∧ (stL (clos R) a.length i j).set t (nth (stL (clos R) a.length i j) t + 1) = stL (clos R) a.length i (j + 1) ∧ ((f i j = true ∧ i = t) ∨ (f i j = false ∧ j = t)) := by
            rw [hfv]
            cases e : clos R i j with
            | true => exact ⟨i, hlt, stL_yes hij hlt2 e, .inl ⟨rfl, rfl⟩⟩
            | false => exact ⟨j, hlt2, stL_no hij hlt2 e, .inr ⟨rfl, rfl⟩⟩
          clear hfv
          obtain ⟨t, ht2, hs, hor⟩ := hex
          have hbd := stL_bd (E := clos R) (n := a.length) (i := i) (j := j) ht2 hlt (by omega)
          have ia := hP.reads.idx (P := Try.prog) 22 sliceI sizeI .i64 (t : Int) (by omega) (by simp; omega)
          simp only [Int.toNat_natCast] at ia
          have ca := hP.reads.int (i := t) (by simp; omega)
          have fa := hP.frozen (i := t) (by simp; omega)
          have ab := (hP.adr_blk (i := t) (by simp; omega)).2.1
          have hst := hP.set (i := t) (by simp; omega) (.int .i64 (nth (stL (clos R) a.length i j) t + 1))
          rw [ints_set, hs] at hst
          have hbs := hbP.setCell (p := adr Z t) (by omega) (.int .i64 (nth (stL (clos R) a.length i j) t + 1))
          generalize nth (stL (clos R) a.length i j) t = y at *
          replace hst := hid hst
          replace hbs := hid hbs
          replace hs := hid hs
          replace hbd0 := hid hbd
          clear hP hbP
          rcases hor with ⟨hv, rfl⟩ | ⟨hv, rfl⟩
          all_goals
            go_wp2_with fail
            go_roundw
            case rel => exact ⟨j + 1, by omega, by omega, by go_num, hst.out, hbs.out⟩
            case measure => simp [intOf] <;> omega



end Go.Proofs.Ytgibgcjpehcemaa
