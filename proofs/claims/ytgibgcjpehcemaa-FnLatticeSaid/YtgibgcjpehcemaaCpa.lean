/- Contracts: the closure of pairs, the permutation with given pairs. -/
import Derived.Test.YtgibgcjpehcemaaClo
import Derived.Test.YtgibgcjpehcemaaBx
import Derived.Test.YtgibgcjpehcemaaSwp
import Derived.Deep.WholeRow
import Derived.Deep.RegionHeld3
namespace Go.Proofs.Ytgibgcjpehcemaa
open Go.RowKit
set_option linter.unusedSimpArgs false

/-- twelve rows of twelve cells -/
def prs (f : Nat → Nat → Bool) : List Value := (List.range 144).map fun q => Value.bool (f (q / 12) (q % 12))
@[simp] theorem length_prs (f : Nat → Nat → Bool) : (prs f).length = 144 := by simp [prs]
theorem prs_at {f : Nat → Nat → Bool} {i j : Nat} (hi : i < 12) (hj : j < 12) : (prs f)[i * 12 + j]? = some (.bool (f i j)) := by
  have h : i * 12 + j < 144 := by omega
  have e1 : (i * 12 + j) / 12 = i := by omega
  have e2 : (i * 12 + j) % 12 = j := by omega
  simp [prs, h, e1, e2]
def upd (f : Nat → Nat → Bool) (i j : Nat) (b : Bool) : Nat → Nat → Bool := fun a c => if a = i ∧ c = j then b else f a c
theorem prs_set {f : Nat → Nat → Bool} {i j : Nat} (hj : j < 12) (b : Bool) : (prs f).set (i * 12 + j) (.bool b) = prs (upd f i j b) := by
  apply List.ext_getElem?
  intro q
  rw [List.getElem?_set]
  by_cases h : i * 12 + j = q
  · subst h
    have e1 : (i * 12 + j) / 12 = i := by omega
    have e2 : (i * 12 + j) % 12 = j := by omega
    by_cases h2 : i * 12 + j < 144
    · simp [prs, upd, h2, e1, e2]
    · simp [prs, h2]
  · rw [if_neg h]
    by_cases h2 : q < 144
    · have e : ¬ (q / 12 = i ∧ q % 12 = j) := by omega
      simp [prs, upd, h2, e]
    · simp [prs, h2]

theorem pairsU : Try.prog.underlying 52 = some (.array 12 50) := by kernel_rfl
theorem pairsI (f : Nat → Nat → Bool) : (Try.prog.info? 52).map (·.size) = some (prs f).toArray.size := by
  rw [show (prs f).toArray.size = 144 from by simp]; kernel_rfl
theorem prs_one (f : Nat → Nat → Bool) : (prs f).toArray.all (·.oneCell') = true := by
  rw [Array.all_eq_true_iff_forall_mem]
  intro v hv
  simp only [prs, List.mem_toArray, List.mem_map] at hv
  obtain ⟨q, _, rfl⟩ := hv
  rfl
theorem zeroP : Try.zeroCells52.toList = prs (fun _ _ => false) := by kernel_rfl
/-- what the pairs are reckoned from -/
def pairR (a b : List Int) (x : Bool) (i j : Nat) : Bool := (decide (nth a j < nth a i) == x) || (decide (nth b j < nth b i) == x)
/-- a table of pairs i < j < n reads as R -/
def TabR (n : Nat) (f R : Nat → Nat → Bool) : Prop := ∀ i j, i < j → j < n → f i j = R i j

set_option maxHeartbeats 8000000 in
theorem closed_impl (v u : Value) (a b : List Int) (x : Bool) (w : World) (h : Reads w v (ints a)) (h' : Reads w u (ints b)) (hl : a.length = b.length) (hn : a.length ≤ 12) :
    Calls Try.prog 55 #[v, u, .bool x] w fun e w' => ∃ f : Nat → Nat → Bool, e = .returned (.agg (prs f).toArray) ∧ TabR a.length f (clos (pairR a b x)) ∧ Below w.heap.size w w' := by
  have hst := run_storeCells_new (P := Try.prog) (w.alloc (.cells Try.zeroCells52 52)) 52 Try.zeroCells52 Try.zeroCells52 (by kernel_rfl) rfl (by kernel_rfl)
  rw [World.size_alloc] at hst
  have hA0 := (Bx.new w Try.zeroCells52 52).alloc (.cells Try.zeroCells52 52)
  have hB0 := Bx.new (w.alloc (.cells Try.zeroCells52 52)) Try.zeroCells52 52
  have hb0 : Below w.heap.size w ((w.alloc (.cells Try.zeroCells52 52)).alloc (.cells Try.zeroCells52 52)) := ((Below.refl _ _).alloc (Nat.le_refl _) _).alloc (by simp) _
  rw [zeroP] at hA0 hB0
  rw [World.size_alloc] at hB0
  have hlen := h.len (P := Try.prog) 22 3 ⟨_, sliceI⟩
  simp only [length_ints] at hlen
  replace hl := hid hl
  go_enter Try.func55, Try.ntmps55
  go_wp2_with fail
  generalize (w.alloc (.cells Try.zeroCells52 52)).alloc (.cells Try.zeroCells52 52) = w0 at *
  clear hst
  have hA1 := hid hA0
  have hB1 := hid hB0
  have hb1 := hid hb0
  clear hA0 hB0 hb0
  go_loopw [8, 9, 16] (fun _ _ c wr => ∃ (i : Nat) (f : Nat → Nat → Bool), i ≤ a.length ∧ c = .int .i64 i ∧ (∀ p q, p < q → q < a.length → p < i → f p q = pairR a b x p q) ∧ Bx wr (w.heap.size + 1) (prs f) ∧ Bx wr w.heap.size (prs fun _ _ => false) ∧ Below w.heap.size w wr) (fun _ _ c _ => a.length - (intOf c).toNat)
  case atStart => exact ⟨0, _, by omega, rfl, fun p q _ _ h => by omega, hB1.out, hA1.out, hb1.out⟩
  case round =>
    clear hA1 hB1 hb1
    obtain ⟨i, f, hi, rfl, hf, hB, hA, hb⟩ := hrel
    replace hf := hid hf
    replace hB := hid hB
    replace hA := hid hA
    replace hb := hid hb
    by_cases hlt : i < a.length
    · go_wp2_with fail
      rename World => wF
      go_loopw [9] (fun c wr => ∃ (j : Nat) (f : Nat → Nat → Bool), i < j ∧ j ≤ a.length ∧ c = .int .i64 j ∧ (∀ p q, p < q → q < a.length → (p < i ∨ p = i ∧ q < j) → f p q = pairR a b x p q) ∧ Bx wr (w.heap.size + 1) (prs f) ∧ Bx wr w.heap.size (prs fun _ _ => false) ∧ Below w.heap.size w wr) (fun c _ => a.length - (intOf c).toNat)
      case atStart => exact ⟨i + 1, f, by omega, by omega, by go_num, fun p q h1 h2 h3 => hf.out p q h1 h2 (by omega), hB.out, hA.out, hb.out⟩
      case round =>
        clear hf hB hA hb
        obtain ⟨j, f, hij, hj, rfl, hf, hB, hA, hb⟩ := hrel
        replace hf := hid hf
        by_cases hlt2 : j < a.length
        · have ia := (h.below hb).idx (P := Try.prog) 22 sliceI sizeI .i64 (i : Int) (by omega) (by simp; omega)
          have ja := (h.below hb).idx (P := Try.prog) 22 sliceI sizeI .i64 (j : Int) (by omega) (by simp; omega)
          have ib := (h'.below hb).idx (P := Try.prog) 22 sliceI sizeI .i64 (i : Int) (by omega) (by have := hl.out; simp; omega)
          have jb := (h'.below hb).idx (P := Try.prog) 22 sliceI sizeI .i64 (j : Int) (by omega) (by have := hl.out; simp; omega)
          simp only [Int.toNat_natCast] at ia ja ib jb
          have c1 := (h.below hb).cell i _ (ints_at (by omega))
          have c2 := (h.below hb).cell j _ (ints_at (by omega))
          have c3 := (h'.below hb).cell i _ (ints_at (by have := hl.out; omega))
          have c4 := (h'.below hb).cell j _ (ints_at (by have := hl.out; omega))
          have i0 : (0 : Int) ≤ (i : Int) := by omega
          have i12 : (i : Int) < 12 := by omega
          have j0 : (0 : Int) ≤ (j : Int) := by omega
          have j12 : (j : Int) < 12 := by omega
          have d1 := hB.cell (i * 12 + j) (prs_at (by omega) (by omega))
          have d2 := hB.frozen (i * 12 + j)
          go_wp2_with fail
          have hK := hid (fun (w' : World) (hw : Below w.heap.size w w') => (⟨(h.below hw).cell i _ (ints_at (by omega)), (h.below hw).cell j _ (ints_at (by omega)), (h'.below hw).cell i _ (ints_at (by have := hl.out; omega)), (h'.below hw).cell j _ (ints_at (by have := hl.out; omega))⟩ : w'.cell? (adr v i) = some (.int .i64 (nth a i)) ∧ w'.cell? (adr v j) = some (.int .i64 (nth a j)) ∧ w'.cell? (adr u i) = some (.int .i64 (nth b i)) ∧ w'.cell? (adr u j) = some (.int .i64 (nth b j))))
          have hbd := hid hb.drew
          have hbs := hid (fun (k : Nat) (z : Value) => hb.drew.setCell (p := ⟨w.heap.size + 1, k, none⟩) (by simp) z)
          replace hA := hid hA
          replace hB := hid hB
          replace hb := hid hb
          clear c1 c2 c3 c4
          have hfr := hid (fun (z : Value) => hb.out.drew.setCell (p := ⟨w.heap.size + 1, i * 12 + j, none⟩) (by simp) z)
          have hst := hid (fun (β : Bool) (hβ : β = pairR a b x i j) => (show Bx (wr.drew.setCell ⟨w.heap.size + 1, i * 12 + j, none⟩ (.bool β)) (w.heap.size + 1) (prs (upd f i j (pairR a b x i j))) from by have := hB.out.drew.set (i * 12 + j) (.bool β); rw [prs_set (by omega), hβ] at this; rw [hβ]; exact this))
          have hres := hid (fun (z : Value) => (hA.out.drew).other (a := ⟨w.heap.size + 1, i * 12 + j, none⟩) (by simp) z)
          have hnew := hid (fun (p q : Nat) (h1 : p < q) (h2 : q < a.length) (h3 : p < i ∨ p = i ∧ q < j + 1) => (show upd f i j (pairR a b x i j) p q = pairR a b x p q from by
            unfold upd
            by_cases e : p = i ∧ q = j
            · rw [if_pos e, e.1, e.2]
            · rw [if_neg e]; exact hf.out p q h1 h2 (by omega)))
          clear hA hB hb hf
          by_cases hq : nth b j < nth b i
          all_goals
            by_cases hp : nth a j < nth a i
            · have hpd : decide (nth a j < nth a i) = true := decide_eq_true hp
              cases x
              · skip
                first | have hqd : decide (nth b j < nth b i) = true := decide_eq_true hq | have hqd : decide (nth b j < nth b i) = false := decide_eq_false hq
                go_wp2_with fail
                go_region_held3 (fun w' => w'.cell? (adr v i) = some (.int .i64 (nth a i)) ∧ w'.cell? (adr v j) = some (.int .i64 (nth a j)) ∧ w'.cell? (adr u i) = some (.int .i64 (nth b i)) ∧ w'.cell? (adr u j) = some (.int .i64 (nth b j))) (first | exact hK.out _ hbd.out | exact hK.out _ (hbs.out _ _)) (fail)
                all_goals
                 go_wp2_with fail
                 go_roundw
                 case rel => exact ⟨j + 1, _, by omega, by omega, by go_num, hnew.out, hst.out _ (by simp [pairR, hpd, hqd]), hres.out _, hfr.out _⟩
                 case measure => simp [intOf] <;> omega
              · skip
                first | have hqd : decide (nth b j < nth b i) = true := decide_eq_true hq | have hqd : decide (nth b j < nth b i) = false := decide_eq_false hq
                go_wp2_with fail
                refine wp_region_noPanic ?_
                refine wp_region_held_drew (S := (fun w' => w'.cell? (adr v i) = some (.int .i64 (nth a i)) ∧ w'.cell? (adr v j) = some (.int .i64 (nth a j)) ∧ w'.cell? (adr u i) = some (.int .i64 (nth b i)) ∧ w'.cell? (adr u j) = some (.int .i64 (nth b j)))) (by kernel_rfl) ?_ (fun hHeld => ?_)
                focus (first | exact hK.out _ hbd.out | exact hK.out _ (hbs.out _ _))
                refine wpAnyH_take (i := 0) (v := ?_) rfl (by kernel_rfl) (by kernel_rfl) (by kernel_rfl) (fun _ _ _ h => h) (Or.inl ⟨by rfl, ?_⟩) (by assumption) ?_; rotate_left; focus ((intro w hSw; (try dsimp only at hSw); go_simp) <;> with_reducible rfl); (try simp only [Act.put, List.setIfInBounds_toArray, List.set_cons_zero, List.set_cons_succ])
                refine wpAnyH_take (i := 1) (v := ?_) rfl (by kernel_rfl) (by kernel_rfl) (by kernel_rfl) (fun _ _ _ h => h) (Or.inl ⟨by rfl, ?_⟩) (by assumption) ?_; rotate_left; focus ((intro w hSw; (try dsimp only at hSw); go_simp) <;> with_reducible rfl); (try simp only [Act.put, List.setIfInBounds_toArray, List.set_cons_zero, List.set_cons_succ])
                refine wpAnyH_take (i := 2) (v := ?_) rfl (by kernel_rfl) (by kernel_rfl) (by kernel_rfl) (fun _ _ _ h => h) (Or.inl ⟨by rfl, ?_⟩) (by assumption) ?_; rotate_left; focus ((intro w hSw; (try dsimp only at hSw); go_simp) <;> with_reducible rfl); (try simp only [Act.put, List.setIfInBounds_toArray, List.set_cons_zero, List.set_cons_succ])
                refine wpAnyH_take (i := 3) (v := ?_) rfl (by kernel_rfl) (by kernel_rfl) (by kernel_rfl) (fun _ _ _ h => h) (Or.inl ⟨by rfl, ?_⟩) (by assumption) ?_; rotate_left; focus ((intro w hSw; (try dsimp only at hSw); go_simp) <;> with_reducible rfl); (try simp only [Act.put, List.setIfInBounds_toArray, List.set_cons_zero, List.set_cons_succ])
                refine wpAnyH_take (i := 4) (v := ?_) rfl (by kernel_rfl) (by kernel_rfl) (by kernel_rfl) (fun _ _ _ h => h) (Or.inl ⟨by rfl, ?_⟩) (by assumption) ?_; rotate_left; focus ((intro w hSw; (try dsimp only at hSw); go_simp) <;> with_reducible rfl); (try simp only [Act.put, List.setIfInBounds_toArray, List.set_cons_zero, List.set_cons_succ])
                refine wpAnyH_take (i := 5) (v := ?_) rfl (by kernel_rfl) (by kernel_rfl) (by kernel_rfl) (fun _ _ _ h => h) (Or.inl ⟨by rfl, ?_⟩) (by assumption) ?_; rotate_left; focus ((intro w hSw; (try dsimp only at hSw); go_simp) <;> with_reducible rfl); (try simp only [Act.put, List.setIfInBounds_toArray, List.set_cons_zero, List.set_cons_succ])
                refine wpAnyH_take (i := 6) (v := ?_) rfl (by kernel_rfl) (by kernel_rfl) (by kernel_rfl) (fun _ _ _ h => h) (Or.inl ⟨by rfl, ?_⟩) (by assumption) ?_; rotate_left; focus ((intro w hSw; (try dsimp only at hSw); go_simp) <;> with_reducible rfl); (try simp only [Act.put, List.setIfInBounds_toArray, List.set_cons_zero, List.set_cons_succ])
                refine wpAnyH_take (i := 7) (v := ?_) rfl (by kernel_rfl) (by kernel_rfl) (by kernel_rfl) (fun _ _ _ h => h) (Or.inl ⟨by rfl, ?_⟩) (by assumption) ?_; rotate_left; focus ((intro w hSw; (try dsimp only at hSw); go_simp) <;> with_reducible rfl); (try simp only [Act.put, List.setIfInBounds_toArray, List.set_cons_zero, List.set_cons_succ])
                refine wpAnyH_take (i := 8) (v := ?_) rfl (by kernel_rfl) (by kernel_rfl) (by kernel_rfl) (fun _ _ _ h => h) (Or.inl ⟨by rfl, ?_⟩) (by assumption) ?_; rotate_left; focus ((intro w hSw; (try dsimp only at hSw); go_simp) <;> with_reducible rfl); (try simp only [Act.put, List.setIfInBounds_toArray, List.set_cons_zero, List.set_cons_succ])
                refine wpAnyH_take (i := 9) (v := ?_) rfl (by kernel_rfl) (by kernel_rfl) (by kernel_rfl) (fun _ _ _ h => h) (Or.inl ⟨by rfl, ?_⟩) (by assumption) ?_; rotate_left; focus ((intro w hSw; (try dsimp only at hSw); go_simp) <;> with_reducible rfl); (try simp only [Act.put, List.setIfInBounds_toArray, List.set_cons_zero, List.set_cons_succ])
                refine wpAnyH_take (i := 10) (v := ?_) rfl (by kernel_rfl) (by kernel_rfl) (by kernel_rfl) (fun _ _ _ h => h) (Or.inl ⟨by rfl, ?_⟩) (by assumption) ?_; rotate_left; focus ((intro w hSw; (try dsimp only at hSw); go_simp) <;> with_reducible rfl); (try simp only [Act.put, List.setIfInBounds_toArray, List.set_cons_zero, List.set_cons_succ])
                refine wpAnyH_take (i := 11) (v := ?_) rfl (by kernel_rfl) (by kernel_rfl) (by kernel_rfl) (fun _ _ _ h => h) (Or.inl ⟨by rfl, ?_⟩) (by assumption) ?_; rotate_left; focus ((intro w hSw; (try dsimp only at hSw); go_simp) <;> with_reducible rfl); (try simp only [Act.put, List.setIfInBounds_toArray, List.set_cons_zero, List.set_cons_succ])
                refine wpAnyH_take (i := 12) (v := ?_) rfl (by kernel_rfl) (by kernel_rfl) (by kernel_rfl) (fun _ _ _ h => h) (Or.inl ⟨by rfl, ?_⟩) (by assumption) ?_; rotate_left; focus ((intro w hSw; (try dsimp only at hSw); go_simp) <;> with_reducible rfl); (try simp only [Act.put, List.setIfInBounds_toArray, List.set_cons_zero, List.set_cons_succ])
                refine wpAnyH_take (i := 13) (v := ?_) rfl (by kernel_rfl) (by kernel_rfl) (by kernel_rfl) (fun _ _ _ h => h) (Or.inl ⟨by rfl, ?_⟩) (by assumption) ?_; rotate_left; focus ((intro w hSw; (try dsimp only at hSw); go_simp) <;> with_reducible rfl); (try simp only [Act.put, List.setIfInBounds_toArray, List.set_cons_zero, List.set_cons_succ])
                refine wpAnyH_take (i := 14) (v := undef) rfl (by kernel_rfl) (by kernel_rfl) (by kernel_rfl) (fun _ _ _ h => h) (Or.inr ⟨by kernel_rfl, rfl⟩) (by assumption) ?_; (try simp only [Act.put, List.setIfInBounds_toArray, List.set_cons_zero, List.set_cons_succ])
                refine wpAnyH_take (i := 15) (v := undef) rfl (by kernel_rfl) (by kernel_rfl) (by kernel_rfl) (fun _ _ _ h => h) (Or.inr ⟨by kernel_rfl, rfl⟩) (by assumption) ?_; (try simp only [Act.put, List.setIfInBounds_toArray, List.set_cons_zero, List.set_cons_succ])
                refine wpAnyH_take (i := 16) (v := undef) rfl (by kernel_rfl) (by kernel_rfl) (by kernel_rfl) (fun _ _ _ h => h) (Or.inr ⟨by kernel_rfl, rfl⟩) (by assumption) ?_; (try simp only [Act.put, List.setIfInBounds_toArray, List.set_cons_zero, List.set_cons_succ])
                refine wpAnyH_take (i := 17) (v := undef) rfl (by kernel_rfl) (by kernel_rfl) (by kernel_rfl) (fun _ _ _ h => h) (Or.inr ⟨by kernel_rfl, rfl⟩) (by assumption) ?_; (try simp only [Act.put, List.setIfInBounds_toArray, List.set_cons_zero, List.set_cons_succ])
                refine wpAnyH_take (i := 18) (v := undef) rfl (by kernel_rfl) (by kernel_rfl) (by kernel_rfl) (fun _ _ _ h => h) (Or.inr ⟨by kernel_rfl, rfl⟩) (by assumption) ?_; (try simp only [Act.put, List.setIfInBounds_toArray, List.set_cons_zero, List.set_cons_succ])
                refine wpAnyH_take (i := 19) (v := undef) rfl (by kernel_rfl) (by kernel_rfl) (by kernel_rfl) (fun _ _ _ h => h) (Or.inr ⟨by kernel_rfl, rfl⟩) (by assumption) ?_; (try simp only [Act.put, List.setIfInBounds_toArray, List.set_cons_zero, List.set_cons_succ])
                refine wpAnyH_take (i := 20) (v := undef) rfl (by kernel_rfl) (by kernel_rfl) (by kernel_rfl) (fun _ _ _ h => h) (Or.inr ⟨by kernel_rfl, rfl⟩) (by assumption) ?_; (try simp only [Act.put, List.setIfInBounds_toArray, List.set_cons_zero, List.set_cons_succ])
                refine wpAnyH_take (i := 21) (v := undef) rfl (by kernel_rfl) (by kernel_rfl) (by kernel_rfl) (fun _ _ _ h => h) (Or.inr ⟨by kernel_rfl, rfl⟩) (by assumption) ?_; (try simp only [Act.put, List.setIfInBounds_toArray, List.set_cons_zero, List.set_cons_succ])
                refine wpAnyH_take (i := 22) (v := undef) rfl (by kernel_rfl) (by kernel_rfl) (by kernel_rfl) (fun _ _ _ h => h) (Or.inr ⟨by kernel_rfl, rfl⟩) (by assumption) ?_; (try simp only [Act.put, List.setIfInBounds_toArray, List.set_cons_zero, List.set_cons_succ])
                refine wpAnyH_take (i := 23) (v := undef) rfl (by kernel_rfl) (by kernel_rfl) (by kernel_rfl) (fun _ _ _ h => h) (Or.inr ⟨by kernel_rfl, rfl⟩) (by assumption) ?_; (try simp only [Act.put, List.setIfInBounds_toArray, List.set_cons_zero, List.set_cons_succ])
                refine wpAnyH_take (i := 24) (v := undef) rfl (by kernel_rfl) (by kernel_rfl) (by kernel_rfl) (fun _ _ _ h => h) (Or.inr ⟨by kernel_rfl, rfl⟩) (by assumption) ?_; (try simp only [Act.put, List.setIfInBounds_toArray, List.set_cons_zero, List.set_cons_succ])
                refine wpAnyH_take (i := 25) (v := ?_) rfl (by kernel_rfl) (by kernel_rfl) (by kernel_rfl) (fun _ _ _ h => h) (Or.inl ⟨by rfl, ?_⟩) (by assumption) ?_; rotate_left; focus ((intro w hSw; (try dsimp only at hSw); go_simp) <;> with_reducible rfl); (try simp only [Act.put, List.setIfInBounds_toArray, List.set_cons_zero, List.set_cons_succ])
                refine wpAnyH_take (i := 26) (v := ?_) rfl (by kernel_rfl) (by kernel_rfl) (by kernel_rfl) (fun _ _ _ h => h) (Or.inl ⟨by rfl, ?_⟩) (by assumption) ?_; rotate_left; focus ((intro w hSw; (try dsimp only at hSw); go_simp) <;> with_reducible rfl); (try simp only [Act.put, List.setIfInBounds_toArray, List.set_cons_zero, List.set_cons_succ])
                refine wpAnyH_take (i := 27) (v := ?_) rfl (by kernel_rfl) (by kernel_rfl) (by kernel_rfl) (fun _ _ _ h => h) (Or.inl ⟨by rfl, ?_⟩) (by assumption) ?_; rotate_left; focus ((intro w hSw; (try dsimp only at hSw); go_simp) <;> with_reducible rfl); (try simp only [Act.put, List.setIfInBounds_toArray, List.set_cons_zero, List.set_cons_succ])
                refine wpAnyH_ready (rs := [28]) (by kernel_rfl) (by simp) ?_
                refine AllReadyH.cons rfl (fun KK hKK => ?_) AllReadyH.nil
                go_simp
                refine hKK.out _ _ ?_ (fun hHeld => ?_)
                focus (first | exact hK.out _ hbd.out | exact hK.out _ (hbs.out _ _))
                clear hKK KK
                (try simp only [Act.put, List.setIfInBounds_toArray, List.set_cons_zero, List.set_cons_succ])
                refine wpAnyH_done (by kernel_rfl) ?_ _
                refine NoPanic.normal ?_
                go_wp2_with fail
                go_roundw
                case rel => exact ⟨j + 1, _, by omega, by omega, by go_num, hnew.out, hst.out _ (by simp [pairR, hpd, hqd]), hres.out _, hfr.out _⟩
                case measure => simp [intOf] <;> omega
            · have hpd : decide (nth a j < nth a i) = false := decide_eq_false hp
              cases x
              · skip
                first | have hqd : decide (nth b j < nth b i) = true := decide_eq_true hq | have hqd : decide (nth b j < nth b i) = false := decide_eq_false hq
                go_wp2_with fail
                refine wp_region_noPanic ?_
                refine wp_region_held_drew (S := (fun w' => w'.cell? (adr v i) = some (.int .i64 (nth a i)) ∧ w'.cell? (adr v j) = some (.int .i64 (nth a j)) ∧ w'.cell? (adr u i) = some (.int .i64 (nth b i)) ∧ w'.cell? (adr u j) = some (.int .i64 (nth b j)))) (by kernel_rfl) ?_ (fun hHeld => ?_)
                focus (first | exact hK.out _ hbd.out | exact hK.out _ (hbs.out _ _))
                refine wpAnyH_take (i := 0) (v := ?_) rfl (by kernel_rfl) (by kernel_rfl) (by kernel_rfl) (fun _ _ _ h => h) (Or.inl ⟨by rfl, ?_⟩) (by assumption) ?_; rotate_left; focus ((intro w hSw; (try dsimp only at hSw); go_simp) <;> with_reducible rfl); (try simp only [Act.put, List.setIfInBounds_toArray, List.set_cons_zero, List.set_cons_succ])
                refine wpAnyH_take (i := 1) (v := ?_) rfl (by kernel_rfl) (by kernel_rfl) (by kernel_rfl) (fun _ _ _ h => h) (Or.inl ⟨by rfl, ?_⟩) (by assumption) ?_; rotate_left; focus ((intro w hSw; (try dsimp only at hSw); go_simp) <;> with_reducible rfl); (try simp only [Act.put, List.setIfInBounds_toArray, List.set_cons_zero, List.set_cons_succ])
                refine wpAnyH_take (i := 2) (v := ?_) rfl (by kernel_rfl) (by kernel_rfl) (by kernel_rfl) (fun _ _ _ h => h) (Or.inl ⟨by rfl, ?_⟩) (by assumption) ?_; rotate_left; focus ((intro w hSw; (try dsimp only at hSw); go_simp) <;> with_reducible rfl); (try simp only [Act.put, List.setIfInBounds_toArray, List.set_cons_zero, List.set_cons_succ])
                refine wpAnyH_take (i := 3) (v := ?_) rfl (by kernel_rfl) (by kernel_rfl) (by kernel_rfl) (fun _ _ _ h => h) (Or.inl ⟨by rfl, ?_⟩) (by assumption) ?_; rotate_left; focus ((intro w hSw; (try dsimp only at hSw); go_simp) <;> with_reducible rfl); (try simp only [Act.put, List.setIfInBounds_toArray, List.set_cons_zero, List.set_cons_succ])
                refine wpAnyH_take (i := 4) (v := ?_) rfl (by kernel_rfl) (by kernel_rfl) (by kernel_rfl) (fun _ _ _ h => h) (Or.inl ⟨by rfl, ?_⟩) (by assumption) ?_; rotate_left; focus ((intro w hSw; (try dsimp only at hSw); go_simp) <;> with_reducible rfl); (try simp only [Act.put, List.setIfInBounds_toArray, List.set_cons_zero, List.set_cons_succ])
                refine wpAnyH_take (i := 5) (v := ?_) rfl (by kernel_rfl) (by kernel_rfl) (by kernel_rfl) (fun _ _ _ h => h) (Or.inl ⟨by rfl, ?_⟩) (by assumption) ?_; rotate_left; focus ((intro w hSw; (try dsimp only at hSw); go_simp) <;> with_reducible rfl); (try simp only [Act.put, List.setIfInBounds_toArray, List.set_cons_zero, List.set_cons_succ])
                refine wpAnyH_take (i := 6) (v := ?_) rfl (by kernel_rfl) (by kernel_rfl) (by kernel_rfl) (fun _ _ _ h => h) (Or.inl ⟨by rfl, ?_⟩) (by assumption) ?_; rotate_left; focus ((intro w hSw; (try dsimp only at hSw); go_simp) <;> with_reducible rfl); (try simp only [Act.put, List.setIfInBounds_toArray, List.set_cons_zero, List.set_cons_succ])
                refine wpAnyH_take (i := 7) (v := ?_) rfl (by kernel_rfl) (by kernel_rfl) (by kernel_rfl) (fun _ _ _ h => h) (Or.inl ⟨by rfl, ?_⟩) (by assumption) ?_; rotate_left; focus ((intro w hSw; (try dsimp only at hSw); go_simp) <;> with_reducible rfl); (try simp only [Act.put, List.setIfInBounds_toArray, List.set_cons_zero, List.set_cons_succ])
                refine wpAnyH_take (i := 8) (v := ?_) rfl (by kernel_rfl) (by kernel_rfl) (by kernel_rfl) (fun _ _ _ h => h) (Or.inl ⟨by rfl, ?_⟩) (by assumption) ?_; rotate_left; focus ((intro w hSw; (try dsimp only at hSw); go_simp) <;> with_reducible rfl); (try simp only [Act.put, List.setIfInBounds_toArray, List.set_cons_zero, List.set_cons_succ])
                refine wpAnyH_take (i := 9) (v := ?_) rfl (by kernel_rfl) (by kernel_rfl) (by kernel_rfl) (fun _ _ _ h => h) (Or.inl ⟨by rfl, ?_⟩) (by assumption) ?_; rotate_left; focus ((intro w hSw; (try dsimp only at hSw); go_simp) <;> with_reducible rfl); (try simp only [Act.put, List.setIfInBounds_toArray, List.set_cons_zero, List.set_cons_succ])
                refine wpAnyH_take (i := 10) (v := ?_) rfl (by kernel_rfl) (by kernel_rfl) (by kernel_rfl) (fun _ _ _ h => h) (Or.inl ⟨by rfl, ?_⟩) (by assumption) ?_; rotate_left; focus ((intro w hSw; (try dsimp only at hSw); go_simp) <;> with_reducible rfl); (try simp only [Act.put, List.setIfInBounds_toArray, List.set_cons_zero, List.set_cons_succ])
                refine wpAnyH_take (i := 11) (v := ?_) rfl (by kernel_rfl) (by kernel_rfl) (by kernel_rfl) (fun _ _ _ h => h) (Or.inl ⟨by rfl, ?_⟩) (by assumption) ?_; rotate_left; focus ((intro w hSw; (try dsimp only at hSw); go_simp) <;> with_reducible rfl); (try simp only [Act.put, List.setIfInBounds_toArray, List.set_cons_zero, List.set_cons_succ])
                refine wpAnyH_take (i := 12) (v := ?_) rfl (by kernel_rfl) (by kernel_rfl) (by kernel_rfl) (fun _ _ _ h => h) (Or.inl ⟨by rfl, ?_⟩) (by assumption) ?_; rotate_left; focus ((intro w hSw; (try dsimp only at hSw); go_simp) <;> with_reducible rfl); (try simp only [Act.put, List.setIfInBounds_toArray, List.set_cons_zero, List.set_cons_succ])
                refine wpAnyH_take (i := 13) (v := ?_) rfl (by kernel_rfl) (by kernel_rfl) (by kernel_rfl) (fun _ _ _ h => h) (Or.inl ⟨by rfl, ?_⟩) (by assumption) ?_; rotate_left; focus ((intro w hSw; (try dsimp only at hSw); go_simp) <;> with_reducible rfl); (try simp only [Act.put, List.setIfInBounds_toArray, List.set_cons_zero, List.set_cons_succ])
                refine wpAnyH_take (i := 14) (v := undef) rfl (by kernel_rfl) (by kernel_rfl) (by kernel_rfl) (fun _ _ _ h => h) (Or.inr ⟨by kernel_rfl, rfl⟩) (by assumption) ?_; (try simp only [Act.put, List.setIfInBounds_toArray, List.set_cons_zero, List.set_cons_succ])
                refine wpAnyH_take (i := 15) (v := undef) rfl (by kernel_rfl) (by kernel_rfl) (by kernel_rfl) (fun _ _ _ h => h) (Or.inr ⟨by kernel_rfl, rfl⟩) (by assumption) ?_; (try simp only [Act.put, List.setIfInBounds_toArray, List.set_cons_zero, List.set_cons_succ])
                refine wpAnyH_take (i := 16) (v := undef) rfl (by kernel_rfl) (by kernel_rfl) (by kernel_rfl) (fun _ _ _ h => h) (Or.inr ⟨by kernel_rfl, rfl⟩) (by assumption) ?_; (try simp only [Act.put, List.setIfInBounds_toArray, List.set_cons_zero, List.set_cons_succ])
                refine wpAnyH_take (i := 17) (v := undef) rfl (by kernel_rfl) (by kernel_rfl) (by kernel_rfl) (fun _ _ _ h => h) (Or.inr ⟨by kernel_rfl, rfl⟩) (by assumption) ?_; (try simp only [Act.put, List.setIfInBounds_toArray, List.set_cons_zero, List.set_cons_succ])
                refine wpAnyH_take (i := 18) (v := undef) rfl (by kernel_rfl) (by kernel_rfl) (by kernel_rfl) (fun _ _ _ h => h) (Or.inr ⟨by kernel_rfl, rfl⟩) (by assumption) ?_; (try simp only [Act.put, List.setIfInBounds_toArray, List.set_cons_zero, List.set_cons_succ])
                refine wpAnyH_take (i := 19) (v := undef) rfl (by kernel_rfl) (by kernel_rfl) (by kernel_rfl) (fun _ _ _ h => h) (Or.inr ⟨by kernel_rfl, rfl⟩) (by assumption) ?_; (try simp only [Act.put, List.setIfInBounds_toArray, List.set_cons_zero, List.set_cons_succ])
                refine wpAnyH_take (i := 20) (v := undef) rfl (by kernel_rfl) (by kernel_rfl) (by kernel_rfl) (fun _ _ _ h => h) (Or.inr ⟨by kernel_rfl, rfl⟩) (by assumption) ?_; (try simp only [Act.put, List.setIfInBounds_toArray, List.set_cons_zero, List.set_cons_succ])
                refine wpAnyH_take (i := 21) (v := undef) rfl (by kernel_rfl) (by kernel_rfl) (by kernel_rfl) (fun _ _ _ h => h) (Or.inr ⟨by kernel_rfl, rfl⟩) (by assumption) ?_; (try simp only [Act.put, List.setIfInBounds_toArray, List.set_cons_zero, List.set_cons_succ])
                refine wpAnyH_take (i := 22) (v := undef) rfl (by kernel_rfl) (by kernel_rfl) (by kernel_rfl) (fun _ _ _ h => h) (Or.inr ⟨by kernel_rfl, rfl⟩) (by assumption) ?_; (try simp only [Act.put, List.setIfInBounds_toArray, List.set_cons_zero, List.set_cons_succ])
                refine wpAnyH_take (i := 23) (v := undef) rfl (by kernel_rfl) (by kernel_rfl) (by kernel_rfl) (fun _ _ _ h => h) (Or.inr ⟨by kernel_rfl, rfl⟩) (by assumption) ?_; (try simp only [Act.put, List.setIfInBounds_toArray, List.set_cons_zero, List.set_cons_succ])
                refine wpAnyH_take (i := 24) (v := undef) rfl (by kernel_rfl) (by kernel_rfl) (by kernel_rfl) (fun _ _ _ h => h) (Or.inr ⟨by kernel_rfl, rfl⟩) (by assumption) ?_; (try simp only [Act.put, List.setIfInBounds_toArray, List.set_cons_zero, List.set_cons_succ])
                refine wpAnyH_take (i := 25) (v := ?_) rfl (by kernel_rfl) (by kernel_rfl) (by kernel_rfl) (fun _ _ _ h => h) (Or.inl ⟨by rfl, ?_⟩) (by assumption) ?_; rotate_left; focus ((intro w hSw; (try dsimp only at hSw); go_simp) <;> with_reducible rfl); (try simp only [Act.put, List.setIfInBounds_toArray, List.set_cons_zero, List.set_cons_succ])
                refine wpAnyH_take (i := 26) (v := ?_) rfl (by kernel_rfl) (by kernel_rfl) (by kernel_rfl) (fun _ _ _ h => h) (Or.inl ⟨by rfl, ?_⟩) (by assumption) ?_; rotate_left; focus ((intro w hSw; (try dsimp only at hSw); go_simp) <;> with_reducible rfl); (try simp only [Act.put, List.setIfInBounds_toArray, List.set_cons_zero, List.set_cons_succ])
                refine wpAnyH_take (i := 27) (v := ?_) rfl (by kernel_rfl) (by kernel_rfl) (by kernel_rfl) (fun _ _ _ h => h) (Or.inl ⟨by rfl, ?_⟩) (by assumption) ?_; rotate_left; focus ((intro w hSw; (try dsimp only at hSw); go_simp) <;> with_reducible rfl); (try simp only [Act.put, List.setIfInBounds_toArray, List.set_cons_zero, List.set_cons_succ])
                refine wpAnyH_ready (rs := [28]) (by kernel_rfl) (by simp) ?_
                refine AllReadyH.cons rfl (fun KK hKK => ?_) AllReadyH.nil
                go_simp
                refine hKK.out _ _ ?_ (fun hHeld => ?_)
                focus (first | exact hK.out _ hbd.out | exact hK.out _ (hbs.out _ _))
                clear hKK KK
                (try simp only [Act.put, List.setIfInBounds_toArray, List.set_cons_zero, List.set_cons_succ])
                refine wpAnyH_done (by kernel_rfl) ?_ _
                refine NoPanic.normal ?_
                go_wp2_with fail
                go_roundw
                case rel => exact ⟨j + 1, _, by omega, by omega, by go_num, hnew.out, hst.out _ (by simp [pairR, hpd, hqd]), hres.out _, hfr.out _⟩
                case measure => simp [intOf] <;> omega
              · skip
                first | have hqd : decide (nth b j < nth b i) = true := decide_eq_true hq | have hqd : decide (nth b j < nth b i) = false := decide_eq_false hq
                go_wp2_with fail
                go_region_held3 (fun w' => w'.cell? (adr v i) = some (.int .i64 (nth a i)) ∧ w'.cell? (adr v j) = some (.int .i64 (nth a j)) ∧ w'.cell? (adr u i) = some (.int .i64 (nth b i)) ∧ w'.cell? (adr u j) = some (.int .i64 (nth b j))) (first | exact hK.out _ hbd.out | exact hK.out _ (hbs.out _ _)) (fail)
                all_goals
                 go_wp2_with fail
                 go_roundw
                 case rel => exact ⟨j + 1, _, by omega, by omega, by go_num, hnew.out, hst.out _ (by simp [pairR, hpd, hqd]), hres.out _, hfr.out _⟩
                 case measure => simp [intOf] <;> omega
        · obtain rfl : j = a.length := by omega
          replace hA := hid hA
          replace hB := hid hB
          replace hb := hid hb
          have hf2 := hid (fun (p q : Nat) (h1 : p < q) (h2 : q < a.length) (h3 : p < i + 1) => hf.out p q h1 h2 (by omega))
          clear hf
          go_wp2_with fail
          go_roundw
          case rel => exact ⟨i + 1, f, by omega, by go_num, hf2.out, hB.out, hA.out, hb.out⟩
          case measure => simp [intOf] <;> omega
    · obtain rfl : i = a.length := by omega
      have hf2 := hid (fun (p q : Nat) (h1 : p < q) (h2 : q < a.length) => hf.out p q h1 h2 (by omega))
      clear hf
      replace hA := hid hA.out
      go_wp2_with fail
      go_loopw [10, 11, 12, 58, 62] (fun _ _ _ c _ wr => ∃ (k : Nat) (f : Nat → Nat → Bool), k ≤ a.length ∧ c = .int .i64 k ∧ (∀ p q, p < q → q < a.length → f p q = wars (pairR a b x) k p q) ∧ Bx wr (w.heap.size + 1) (prs f) ∧ Bx wr w.heap.size (prs fun _ _ => false) ∧ Below w.heap.size w wr) (fun _ _ _ c _ _ => a.length - (intOf c).toNat)
      case atStart => exact ⟨0, f, by omega, rfl, hf2.out, hB.out, hA.out, hb.out⟩
      case round =>
        clear hf2 hB hA hb
        obtain ⟨k, f, hk, rfl, hf, hB, hA, hb⟩ := hrel
        replace hf := hid hf
        replace hB := hid hB
        replace hA := hid hA
        replace hb := hid hb
        by_cases hlt3 : k < a.length
        · go_wp2_with fail
          rename World => wF
          go_loopw [11, 12, 62] (fun _ _ c wr => ∃ (i : Nat) (f : Nat → Nat → Bool), i ≤ k ∧ c = .int .i64 i ∧ (∀ p q, p < q → q < a.length → f p q = if p < i then wars (pairR a b x) (k + 1) p q else wars (pairR a b x) k p q) ∧ Bx wr (w.heap.size + 1) (prs f) ∧ Bx wr w.heap.size (prs fun _ _ => false) ∧ Below w.heap.size w wr) (fun _ _ c _ => k - (intOf c).toNat)
          case atStart => exact ⟨0, f, by omega, rfl, fun p q h1 h2 => by rw [if_neg (by omega)]; exact hf.out p q h1 h2, hB.out, hA.out, hb.out⟩
          case round =>
          clear hf hB hA hb
          obtain ⟨i, f, hi, rfl, hf, hB, hA, hb⟩ := hrel
          replace hf := hid hf
          replace hB := hid hB
          replace hA := hid hA
          replace hb := hid hb
          by_cases hik : i < k
          · go_wp2_with fail
            rename World => wG
            go_loopw [12] (fun c wr => ∃ (j : Nat) (f : Nat → Nat → Bool), k < j ∧ j ≤ a.length ∧ c = .int .i64 j ∧ (∀ p q, p < q → q < a.length → f p q = if p < i ∨ p = i ∧ q < j then wars (pairR a b x) (k + 1) p q else wars (pairR a b x) k p q) ∧ Bx wr (w.heap.size + 1) (prs f) ∧ Bx wr w.heap.size (prs fun _ _ => false) ∧ Below w.heap.size w wr) (fun c _ => a.length - (intOf c).toNat)
            case atStart =>
              refine ⟨k + 1, f, by omega, by omega, by go_num, fun p q h1 h2 => ?_, hB.out, hA.out, hb.out⟩
              rw [hf.out p q h1 h2]
              by_cases e1 : p < i
              · rw [if_pos e1, if_pos (.inl e1)]
              · rw [if_neg e1]
                by_cases e2 : p = i ∧ q < k + 1
                · rw [if_pos (.inr e2), wars_out (by omega)]
                · rw [if_neg (by omega)]
            case round =>
            clear hf hB hA hb
            obtain ⟨j, f, hkj, hj, rfl, hf, hB, hA, hb⟩ := hrel
            replace hf := hid hf
            by_cases hjn : j < a.length
            case neg =>
              obtain rfl : j = a.length := by omega
              have hf2 := hid (fun (p q : Nat) (h1 : p < q) (h2 : q < a.length) => (show f p q = if p < i + 1 then wars (pairR a b x) (k + 1) p q else wars (pairR a b x) k p q from by
                rw [hf.out p q h1 h2]
                by_cases e : p < i + 1
                · rw [if_pos e, if_pos (by omega)]
                · rw [if_neg e, if_neg (by omega)]))
              replace hA := hid hA
              replace hB := hid hB
              replace hb := hid hb
              clear hf
              go_wp2_with fail
              go_roundw
              case rel => exact ⟨i + 1, f, by omega, by go_num, hf2.out, hB.out, hA.out, hb.out⟩
              case measure => simp [intOf] <;> omega
            case pos =>
            have i0 : (0 : Int) ≤ (i : Int) := by omega
            have i12 : (i : Int) < 12 := by omega
            have j0 : (0 : Int) ≤ (j : Int) := by omega
            have j12 : (j : Int) < 12 := by omega
            have k0 : (0 : Int) ≤ (k : Int) := by omega
            have k12 : (k : Int) < 12 := by omega
            have d1 := hB.cell (i * 12 + j) (prs_at (by omega) (by omega))
            have d3 := hB.cell (i * 12 + k) (prs_at (by omega) (by omega))
            have d4 := hB.cell (k * 12 + j) (prs_at (by omega) (by omega))
            have d2 := hB.frozen (i * 12 + j)
            have hnv := hid (show wars (pairR a b x) (k + 1) i j = (f i j || (f i k && f k j)) from by
              rw [wars_in hik hkj, hf.out i j (by omega) hjn, hf.out i k hik (by omega), hf.out k j hkj hjn, if_neg (by omega), if_pos (by omega), if_neg (by omega), wars_out (by omega)])
            have hfr := hid (fun (z : Value) => hb.drew.setCell (p := ⟨w.heap.size + 1, i * 12 + j, none⟩) (by simp) z)
            have hst := hid (fun (β : Bool) (hβ : β = (f i j || (f i k && f k j))) => (show Bx (wr.drew.setCell ⟨w.heap.size + 1, i * 12 + j, none⟩ (.bool β)) (w.heap.size + 1) (prs (upd f i j (wars (pairR a b x) (k + 1) i j))) from by have := hB.drew.set (i * 12 + j) (.bool β); rw [prs_set (by omega), hβ] at this; rw [hβ, hnv.out]; exact this))
            have hres := hid (fun (z : Value) => (hA.drew).other (a := ⟨w.heap.size + 1, i * 12 + j, none⟩) (by simp) z)
            have hnew := hid (fun (p q : Nat) (h1 : p < q) (h2 : q < a.length) => (show upd f i j (wars (pairR a b x) (k + 1) i j) p q = if p < i ∨ p = i ∧ q < j + 1 then wars (pairR a b x) (k + 1) p q else wars (pairR a b x) k p q from by
              unfold upd
              by_cases e : p = i ∧ q = j
              · rw [if_pos e, e.1, e.2, if_pos (by omega)]
              · rw [if_neg e, hf.out p q h1 h2]
                by_cases e2 : p < i ∨ p = i ∧ q < j
                · rw [if_pos e2, if_pos (by omega)]
                · rw [if_neg e2, if_neg (by omega)]))
            clear hA hB hb hf hnv
            generalize f i j = v1 at *
            generalize f i k = v2 at *
            generalize f k j = v3 at *
            cases v1
            · cases v2
              · go_wp2_with fail
                refine wp_region_noPanic ?_
                refine wp_region_any (by kernel_rfl) ?_
                try (change wpAny _ _ _ _ _ _ _ (World.drew _))
                refine wpAny_take (i := 0) (v := ?_) rfl (by kernel_rfl) (by kernel_rfl) (by kernel_rfl) (fun _ _ _ h => h) (Or.inl ⟨by rfl, ?_⟩) ?_; rotate_left; focus ((intro w; go_simp) <;> with_reducible rfl); (try simp only [Act.put, List.setIfInBounds_toArray, List.set_cons_zero, List.set_cons_succ])
                refine wpAny_take (i := 1) (v := ?_) rfl (by kernel_rfl) (by kernel_rfl) (by kernel_rfl) (fun _ _ _ h => h) (Or.inl ⟨by rfl, ?_⟩) ?_; rotate_left; focus ((intro w; go_simp) <;> with_reducible rfl); (try simp only [Act.put, List.setIfInBounds_toArray, List.set_cons_zero, List.set_cons_succ])
                refine wpAny_take (i := 2) (v := ?_) rfl (by kernel_rfl) (by kernel_rfl) (by kernel_rfl) (fun _ _ _ h => h) (Or.inl ⟨by rfl, ?_⟩) ?_; rotate_left; focus ((intro w; go_simp) <;> with_reducible rfl); (try simp only [Act.put, List.setIfInBounds_toArray, List.set_cons_zero, List.set_cons_succ])
                refine wpAny_take (i := 3) (v := ?_) rfl (by kernel_rfl) (by kernel_rfl) (by kernel_rfl) (fun _ _ _ h => h) (Or.inl ⟨by rfl, ?_⟩) ?_; rotate_left; focus ((intro w; go_simp) <;> with_reducible rfl); (try simp only [Act.put, List.setIfInBounds_toArray, List.set_cons_zero, List.set_cons_succ])
                refine wpAny_take (i := 4) (v := ?_) rfl (by kernel_rfl) (by kernel_rfl) (by kernel_rfl) (fun _ _ _ h => h) (Or.inl ⟨by rfl, ?_⟩) ?_; rotate_left; focus ((intro w; go_simp) <;> with_reducible rfl); (try simp only [Act.put, List.setIfInBounds_toArray, List.set_cons_zero, List.set_cons_succ])
                refine wpAny_take (i := 5) (v := ?_) rfl (by kernel_rfl) (by kernel_rfl) (by kernel_rfl) (fun _ _ _ h => h) (Or.inl ⟨by rfl, ?_⟩) ?_; rotate_left; focus ((intro w; go_simp) <;> with_reducible rfl); (try simp only [Act.put, List.setIfInBounds_toArray, List.set_cons_zero, List.set_cons_succ])
                refine wpAny_take (i := 21) (v := ?_) rfl (by kernel_rfl) (by kernel_rfl) (by kernel_rfl) (fun _ _ _ h => h) (Or.inl ⟨by rfl, ?_⟩) ?_; rotate_left; focus ((intro w; go_simp) <;> with_reducible rfl); (try simp only [Act.put, List.setIfInBounds_toArray, List.set_cons_zero, List.set_cons_succ])
                refine wpAny_ready (rs := [6]) (by kernel_rfl) (by simp) ?_; refine AllReady.cons rfl (fun KK hKK => ?_) AllReady.nil; go_simp; refine hKK _ _ ?_; clear hKK KK; (try simp only [Act.put, List.setIfInBounds_toArray, List.set_cons_zero, List.set_cons_succ])
                refine wpAny_take (i := 7) (v := ?_) rfl (by kernel_rfl) (by kernel_rfl) (by kernel_rfl) (fun _ _ _ h => h) (Or.inl ⟨by rfl, ?_⟩) ?_; rotate_left; focus ((intro w; go_simp) <;> with_reducible rfl); (try simp only [Act.put, List.setIfInBounds_toArray, List.set_cons_zero, List.set_cons_succ])
                refine wpAny_take (i := 8) (v := ?_) rfl (by kernel_rfl) (by kernel_rfl) (by kernel_rfl) (fun _ _ _ h => h) (Or.inl ⟨by rfl, ?_⟩) ?_; rotate_left; focus ((intro w; go_simp) <;> with_reducible rfl); (try simp only [Act.put, List.setIfInBounds_toArray, List.set_cons_zero, List.set_cons_succ])
                refine wpAny_take (i := 9) (v := ?_) rfl (by kernel_rfl) (by kernel_rfl) (by kernel_rfl) (fun _ _ _ h => h) (Or.inl ⟨by rfl, ?_⟩) ?_; rotate_left; focus ((intro w; go_simp) <;> with_reducible rfl); (try simp only [Act.put, List.setIfInBounds_toArray, List.set_cons_zero, List.set_cons_succ])
                refine wpAny_take (i := 10) (v := ?_) rfl (by kernel_rfl) (by kernel_rfl) (by kernel_rfl) (fun _ _ _ h => h) (Or.inl ⟨by rfl, ?_⟩) ?_; rotate_left; focus ((intro w; go_simp) <;> with_reducible rfl); (try simp only [Act.put, List.setIfInBounds_toArray, List.set_cons_zero, List.set_cons_succ])
                refine wpAny_take (i := 11) (v := ?_) rfl (by kernel_rfl) (by kernel_rfl) (by kernel_rfl) (fun _ _ _ h => h) (Or.inl ⟨by rfl, ?_⟩) ?_; rotate_left; focus ((intro w; go_simp) <;> with_reducible rfl); (try simp only [Act.put, List.setIfInBounds_toArray, List.set_cons_zero, List.set_cons_succ])
                refine wpAny_ready (rs := [12]) (by kernel_rfl) (by simp) ?_; refine AllReady.cons rfl (fun KK hKK => ?_) AllReady.nil; go_simp; refine hKK _ _ ?_; clear hKK KK; (try simp only [Act.put, List.setIfInBounds_toArray, List.set_cons_zero, List.set_cons_succ])
                refine wpAny_take (i := 13) (v := ?_) rfl (by kernel_rfl) (by kernel_rfl) (by kernel_rfl) (fun _ _ _ h => h) (Or.inl ⟨by rfl, ?_⟩) ?_; rotate_left; focus ((intro w; go_simp) <;> with_reducible rfl); (try simp only [Act.put, List.setIfInBounds_toArray, List.set_cons_zero, List.set_cons_succ])
                refine wpAny_take (i := 14) (v := undef) rfl (by kernel_rfl) (by kernel_rfl) (by kernel_rfl) (fun _ _ _ h => h) (Or.inr ⟨by kernel_rfl, rfl⟩) ?_; (try simp only [Act.put, List.setIfInBounds_toArray, List.set_cons_zero, List.set_cons_succ])
                refine wpAny_take (i := 15) (v := undef) rfl (by kernel_rfl) (by kernel_rfl) (by kernel_rfl) (fun _ _ _ h => h) (Or.inr ⟨by kernel_rfl, rfl⟩) ?_; (try simp only [Act.put, List.setIfInBounds_toArray, List.set_cons_zero, List.set_cons_succ])
                refine wpAny_take (i := 16) (v := undef) rfl (by kernel_rfl) (by kernel_rfl) (by kernel_rfl) (fun _ _ _ h => h) (Or.inr ⟨by kernel_rfl, rfl⟩) ?_; (try simp only [Act.put, List.setIfInBounds_toArray, List.set_cons_zero, List.set_cons_succ])
                refine wpAny_take (i := 17) (v := undef) rfl (by kernel_rfl) (by kernel_rfl) (by kernel_rfl) (fun _ _ _ h => h) (Or.inr ⟨by kernel_rfl, rfl⟩) ?_; (try simp only [Act.put, List.setIfInBounds_toArray, List.set_cons_zero, List.set_cons_succ])
                refine wpAny_take (i := 18) (v := undef) rfl (by kernel_rfl) (by kernel_rfl) (by kernel_rfl) (fun _ _ _ h => h) (Or.inr ⟨by kernel_rfl, rfl⟩) ?_; (try simp only [Act.put, List.setIfInBounds_toArray, List.set_cons_zero, List.set_cons_succ])
                refine wpAny_take (i := 19) (v := ?_) rfl (by kernel_rfl) (by kernel_rfl) (by kernel_rfl) (fun _ _ _ h => h) (Or.inl ⟨by rfl, ?_⟩) ?_; rotate_left; focus ((intro w; go_simp) <;> with_reducible rfl); (try simp only [Act.put, List.setIfInBounds_toArray, List.set_cons_zero, List.set_cons_succ])
                refine wpAny_take (i := 20) (v := ?_) rfl (by kernel_rfl) (by kernel_rfl) (by kernel_rfl) (fun _ _ _ h => h) (Or.inl ⟨by rfl, ?_⟩) ?_; rotate_left; focus ((intro w; go_simp) <;> with_reducible rfl); (try simp only [Act.put, List.setIfInBounds_toArray, List.set_cons_zero, List.set_cons_succ])
                refine wpAny_take (i := 22) (v := ?_) rfl (by kernel_rfl) (by kernel_rfl) (by kernel_rfl) (fun _ _ _ h => h) (Or.inl ⟨by rfl, ?_⟩) ?_; rotate_left; focus ((intro w; go_simp) <;> with_reducible rfl); (try simp only [Act.put, List.setIfInBounds_toArray, List.set_cons_zero, List.set_cons_succ])
                refine wpAny_ready (rs := [23]) (by kernel_rfl) (by simp) ?_; refine AllReady.cons rfl (fun KK hKK => ?_) AllReady.nil; go_simp; refine hKK _ _ ?_; clear hKK KK; (try simp only [Act.put, List.setIfInBounds_toArray, List.set_cons_zero, List.set_cons_succ])
                refine wpAny_done (by kernel_rfl) ?_ _
                refine NoPanic.normal ?_
                go_wp2_with fail
                go_roundw
                case rel => exact ⟨j + 1, _, by omega, by omega, by go_num, hnew.out, hst.out _ (by simp []), hres.out _, hfr.out _⟩
                case measure => simp [intOf] <;> omega

              · go_wp2_with fail
                refine wp_region_noPanic ?_
                refine wp_region_any (by kernel_rfl) ?_
                try (change wpAny _ _ _ _ _ _ _ (World.drew _))
                refine wpAny_take (i := 0) (v := ?_) rfl (by kernel_rfl) (by kernel_rfl) (by kernel_rfl) (fun _ _ _ h => h) (Or.inl ⟨by rfl, ?_⟩) ?_; rotate_left; focus ((intro w; go_simp) <;> with_reducible rfl); (try simp only [Act.put, List.setIfInBounds_toArray, List.set_cons_zero, List.set_cons_succ])
                refine wpAny_take (i := 1) (v := ?_) rfl (by kernel_rfl) (by kernel_rfl) (by kernel_rfl) (fun _ _ _ h => h) (Or.inl ⟨by rfl, ?_⟩) ?_; rotate_left; focus ((intro w; go_simp) <;> with_reducible rfl); (try simp only [Act.put, List.setIfInBounds_toArray, List.set_cons_zero, List.set_cons_succ])
                refine wpAny_take (i := 2) (v := ?_) rfl (by kernel_rfl) (by kernel_rfl) (by kernel_rfl) (fun _ _ _ h => h) (Or.inl ⟨by rfl, ?_⟩) ?_; rotate_left; focus ((intro w; go_simp) <;> with_reducible rfl); (try simp only [Act.put, List.setIfInBounds_toArray, List.set_cons_zero, List.set_cons_succ])
                refine wpAny_take (i := 3) (v := ?_) rfl (by kernel_rfl) (by kernel_rfl) (by kernel_rfl) (fun _ _ _ h => h) (Or.inl ⟨by rfl, ?_⟩) ?_; rotate_left; focus ((intro w; go_simp) <;> with_reducible rfl); (try simp only [Act.put, List.setIfInBounds_toArray, List.set_cons_zero, List.set_cons_succ])
                refine wpAny_take (i := 4) (v := ?_) rfl (by kernel_rfl) (by kernel_rfl) (by kernel_rfl) (fun _ _ _ h => h) (Or.inl ⟨by rfl, ?_⟩) ?_; rotate_left; focus ((intro w; go_simp) <;> with_reducible rfl); (try simp only [Act.put, List.setIfInBounds_toArray, List.set_cons_zero, List.set_cons_succ])
                refine wpAny_take (i := 5) (v := ?_) rfl (by kernel_rfl) (by kernel_rfl) (by kernel_rfl) (fun _ _ _ h => h) (Or.inl ⟨by rfl, ?_⟩) ?_; rotate_left; focus ((intro w; go_simp) <;> with_reducible rfl); (try simp only [Act.put, List.setIfInBounds_toArray, List.set_cons_zero, List.set_cons_succ])
                refine wpAny_take (i := 21) (v := ?_) rfl (by kernel_rfl) (by kernel_rfl) (by kernel_rfl) (fun _ _ _ h => h) (Or.inl ⟨by rfl, ?_⟩) ?_; rotate_left; focus ((intro w; go_simp) <;> with_reducible rfl); (try simp only [Act.put, List.setIfInBounds_toArray, List.set_cons_zero, List.set_cons_succ])
                refine wpAny_ready (rs := [6]) (by kernel_rfl) (by simp) ?_; refine AllReady.cons rfl (fun KK hKK => ?_) AllReady.nil; go_simp; refine hKK _ _ ?_; clear hKK KK; (try simp only [Act.put, List.setIfInBounds_toArray, List.set_cons_zero, List.set_cons_succ])
                refine wpAny_take (i := 7) (v := ?_) rfl (by kernel_rfl) (by kernel_rfl) (by kernel_rfl) (fun _ _ _ h => h) (Or.inl ⟨by rfl, ?_⟩) ?_; rotate_left; focus ((intro w; go_simp) <;> with_reducible rfl); (try simp only [Act.put, List.setIfInBounds_toArray, List.set_cons_zero, List.set_cons_succ])
                refine wpAny_take (i := 8) (v := ?_) rfl (by kernel_rfl) (by kernel_rfl) (by kernel_rfl) (fun _ _ _ h => h) (Or.inl ⟨by rfl, ?_⟩) ?_; rotate_left; focus ((intro w; go_simp) <;> with_reducible rfl); (try simp only [Act.put, List.setIfInBounds_toArray, List.set_cons_zero, List.set_cons_succ])
                refine wpAny_take (i := 9) (v := ?_) rfl (by kernel_rfl) (by kernel_rfl) (by kernel_rfl) (fun _ _ _ h => h) (Or.inl ⟨by rfl, ?_⟩) ?_; rotate_left; focus ((intro w; go_simp) <;> with_reducible rfl); (try simp only [Act.put, List.setIfInBounds_toArray, List.set_cons_zero, List.set_cons_succ])
                refine wpAny_take (i := 10) (v := ?_) rfl (by kernel_rfl) (by kernel_rfl) (by kernel_rfl) (fun _ _ _ h => h) (Or.inl ⟨by rfl, ?_⟩) ?_; rotate_left; focus ((intro w; go_simp) <;> with_reducible rfl); (try simp only [Act.put, List.setIfInBounds_toArray, List.set_cons_zero, List.set_cons_succ])
                refine wpAny_take (i := 11) (v := ?_) rfl (by kernel_rfl) (by kernel_rfl) (by kernel_rfl) (fun _ _ _ h => h) (Or.inl ⟨by rfl, ?_⟩) ?_; rotate_left; focus ((intro w; go_simp) <;> with_reducible rfl); (try simp only [Act.put, List.setIfInBounds_toArray, List.set_cons_zero, List.set_cons_succ])
                refine wpAny_ready (rs := [12]) (by kernel_rfl) (by simp) ?_; refine AllReady.cons rfl (fun KK hKK => ?_) AllReady.nil; go_simp; refine hKK _ _ ?_; clear hKK KK; (try simp only [Act.put, List.setIfInBounds_toArray, List.set_cons_zero, List.set_cons_succ])
                refine wpAny_take (i := 13) (v := ?_) rfl (by kernel_rfl) (by kernel_rfl) (by kernel_rfl) (fun _ _ _ h => h) (Or.inl ⟨by rfl, ?_⟩) ?_; rotate_left; focus ((intro w; go_simp) <;> with_reducible rfl); (try simp only [Act.put, List.setIfInBounds_toArray, List.set_cons_zero, List.set_cons_succ])
                refine wpAny_take (i := 14) (v := ?_) rfl (by kernel_rfl) (by kernel_rfl) (by kernel_rfl) (fun _ _ _ h => h) (Or.inl ⟨by rfl, ?_⟩) ?_; rotate_left; focus ((intro w; go_simp) <;> with_reducible rfl); (try simp only [Act.put, List.setIfInBounds_toArray, List.set_cons_zero, List.set_cons_succ])
                refine wpAny_take (i := 15) (v := ?_) rfl (by kernel_rfl) (by kernel_rfl) (by kernel_rfl) (fun _ _ _ h => h) (Or.inl ⟨by rfl, ?_⟩) ?_; rotate_left; focus ((intro w; go_simp) <;> with_reducible rfl); (try simp only [Act.put, List.setIfInBounds_toArray, List.set_cons_zero, List.set_cons_succ])
                refine wpAny_take (i := 16) (v := ?_) rfl (by kernel_rfl) (by kernel_rfl) (by kernel_rfl) (fun _ _ _ h => h) (Or.inl ⟨by rfl, ?_⟩) ?_; rotate_left; focus ((intro w; go_simp) <;> with_reducible rfl); (try simp only [Act.put, List.setIfInBounds_toArray, List.set_cons_zero, List.set_cons_succ])
                refine wpAny_take (i := 17) (v := ?_) rfl (by kernel_rfl) (by kernel_rfl) (by kernel_rfl) (fun _ _ _ h => h) (Or.inl ⟨by rfl, ?_⟩) ?_; rotate_left; focus ((intro w; go_simp) <;> with_reducible rfl); (try simp only [Act.put, List.setIfInBounds_toArray, List.set_cons_zero, List.set_cons_succ])
                refine wpAny_ready (rs := [18]) (by kernel_rfl) (by simp) ?_; refine AllReady.cons rfl (fun KK hKK => ?_) AllReady.nil; go_simp; refine hKK _ _ ?_; clear hKK KK; (try simp only [Act.put, List.setIfInBounds_toArray, List.set_cons_zero, List.set_cons_succ])
                refine wpAny_take (i := 19) (v := ?_) rfl (by kernel_rfl) (by kernel_rfl) (by kernel_rfl) (fun _ _ _ h => h) (Or.inl ⟨by rfl, ?_⟩) ?_; rotate_left; focus ((intro w; go_simp) <;> with_reducible rfl); (try simp only [Act.put, List.setIfInBounds_toArray, List.set_cons_zero, List.set_cons_succ])
                refine wpAny_take (i := 20) (v := ?_) rfl (by kernel_rfl) (by kernel_rfl) (by kernel_rfl) (fun _ _ _ h => h) (Or.inl ⟨by rfl, ?_⟩) ?_; rotate_left; focus ((intro w; go_simp) <;> with_reducible rfl); (try simp only [Act.put, List.setIfInBounds_toArray, List.set_cons_zero, List.set_cons_succ])
                refine wpAny_take (i := 22) (v := ?_) rfl (by kernel_rfl) (by kernel_rfl) (by kernel_rfl) (fun _ _ _ h => h) (Or.inl ⟨by rfl, ?_⟩) ?_; rotate_left; focus ((intro w; go_simp) <;> with_reducible rfl); (try simp only [Act.put, List.setIfInBounds_toArray, List.set_cons_zero, List.set_cons_succ])
                refine wpAny_ready (rs := [23]) (by kernel_rfl) (by simp) ?_; refine AllReady.cons rfl (fun KK hKK => ?_) AllReady.nil; go_simp; refine hKK _ _ ?_; clear hKK KK; (try simp only [Act.put, List.setIfInBounds_toArray, List.set_cons_zero, List.set_cons_succ])
                refine wpAny_done (by kernel_rfl) ?_ _
                refine NoPanic.normal ?_
                go_wp2_with fail
                go_roundw
                case rel => exact ⟨j + 1, _, by omega, by omega, by go_num, hnew.out, hst.out _ (by simp []), hres.out _, hfr.out _⟩
                case measure => simp [intOf] <;> omega

            · go_wp2_with fail
              refine wp_region_noPanic ?_
              refine wp_region_any (by kernel_rfl) ?_
              try (change wpAny _ _ _ _ _ _ _ (World.drew _))
              refine wpAny_take (i := 0) (v := ?_) rfl (by kernel_rfl) (by kernel_rfl) (by kernel_rfl) (fun _ _ _ h => h) (Or.inl ⟨by rfl, ?_⟩) ?_; rotate_left; focus ((intro w; go_simp) <;> with_reducible rfl); (try simp only [Act.put, List.setIfInBounds_toArray, List.set_cons_zero, List.set_cons_succ])
              refine wpAny_take (i := 1) (v := ?_) rfl (by kernel_rfl) (by kernel_rfl) (by kernel_rfl) (fun _ _ _ h => h) (Or.inl ⟨by rfl, ?_⟩) ?_; rotate_left; focus ((intro w; go_simp) <;> with_reducible rfl); (try simp only [Act.put, List.setIfInBounds_toArray, List.set_cons_zero, List.set_cons_succ])
              refine wpAny_take (i := 2) (v := ?_) rfl (by kernel_rfl) (by kernel_rfl) (by kernel_rfl) (fun _ _ _ h => h) (Or.inl ⟨by rfl, ?_⟩) ?_; rotate_left; focus ((intro w; go_simp) <;> with_reducible rfl); (try simp only [Act.put, List.setIfInBounds_toArray, List.set_cons_zero, List.set_cons_succ])
              refine wpAny_take (i := 3) (v := ?_) rfl (by kernel_rfl) (by kernel_rfl) (by kernel_rfl) (fun _ _ _ h => h) (Or.inl ⟨by rfl, ?_⟩) ?_; rotate_left; focus ((intro w; go_simp) <;> with_reducible rfl); (try simp only [Act.put, List.setIfInBounds_toArray, List.set_cons_zero, List.set_cons_succ])
              refine wpAny_take (i := 4) (v := ?_) rfl (by kernel_rfl) (by kernel_rfl) (by kernel_rfl) (fun _ _ _ h => h) (Or.inl ⟨by rfl, ?_⟩) ?_; rotate_left; focus ((intro w; go_simp) <;> with_reducible rfl); (try simp only [Act.put, List.setIfInBounds_toArray, List.set_cons_zero, List.set_cons_succ])
              refine wpAny_take (i := 5) (v := ?_) rfl (by kernel_rfl) (by kernel_rfl) (by kernel_rfl) (fun _ _ _ h => h) (Or.inl ⟨by rfl, ?_⟩) ?_; rotate_left; focus ((intro w; go_simp) <;> with_reducible rfl); (try simp only [Act.put, List.setIfInBounds_toArray, List.set_cons_zero, List.set_cons_succ])
              refine wpAny_take (i := 21) (v := ?_) rfl (by kernel_rfl) (by kernel_rfl) (by kernel_rfl) (fun _ _ _ h => h) (Or.inl ⟨by rfl, ?_⟩) ?_; rotate_left; focus ((intro w; go_simp) <;> with_reducible rfl); (try simp only [Act.put, List.setIfInBounds_toArray, List.set_cons_zero, List.set_cons_succ])
              refine wpAny_ready (rs := [6]) (by kernel_rfl) (by simp) ?_; refine AllReady.cons rfl (fun KK hKK => ?_) AllReady.nil; go_simp; refine hKK _ _ ?_; clear hKK KK; (try simp only [Act.put, List.setIfInBounds_toArray, List.set_cons_zero, List.set_cons_succ])
              refine wpAny_take (i := 7) (v := ?_) rfl (by kernel_rfl) (by kernel_rfl) (by kernel_rfl) (fun _ _ _ h => h) (Or.inl ⟨by rfl, ?_⟩) ?_; rotate_left; focus ((intro w; go_simp) <;> with_reducible rfl); (try simp only [Act.put, List.setIfInBounds_toArray, List.set_cons_zero, List.set_cons_succ])
              refine wpAny_take (i := 8) (v := undef) rfl (by kernel_rfl) (by kernel_rfl) (by kernel_rfl) (fun _ _ _ h => h) (Or.inr ⟨by kernel_rfl, rfl⟩) ?_; (try simp only [Act.put, List.setIfInBounds_toArray, List.set_cons_zero, List.set_cons_succ])
              refine wpAny_take (i := 9) (v := undef) rfl (by kernel_rfl) (by kernel_rfl) (by kernel_rfl) (fun _ _ _ h => h) (Or.inr ⟨by kernel_rfl, rfl⟩) ?_; (try simp only [Act.put, List.setIfInBounds_toArray, List.set_cons_zero, List.set_cons_succ])
              refine wpAny_take (i := 10) (v := undef) rfl (by kernel_rfl) (by kernel_rfl) (by kernel_rfl) (fun _ _ _ h => h) (Or.inr ⟨by kernel_rfl, rfl⟩) ?_; (try simp only [Act.put, List.setIfInBounds_toArray, List.set_cons_zero, List.set_cons_succ])
              refine wpAny_take (i := 11) (v := undef) rfl (by kernel_rfl) (by kernel_rfl) (by kernel_rfl) (fun _ _ _ h => h) (Or.inr ⟨by kernel_rfl, rfl⟩) ?_; (try simp only [Act.put, List.setIfInBounds_toArray, List.set_cons_zero, List.set_cons_succ])
              refine wpAny_take (i := 12) (v := undef) rfl (by kernel_rfl) (by kernel_rfl) (by kernel_rfl) (fun _ _ _ h => h) (Or.inr ⟨by kernel_rfl, rfl⟩) ?_; (try simp only [Act.put, List.setIfInBounds_toArray, List.set_cons_zero, List.set_cons_succ])
              refine wpAny_take (i := 13) (v := undef) rfl (by kernel_rfl) (by kernel_rfl) (by kernel_rfl) (fun _ _ _ h => h) (Or.inr ⟨by kernel_rfl, rfl⟩) ?_; (try simp only [Act.put, List.setIfInBounds_toArray, List.set_cons_zero, List.set_cons_succ])
              refine wpAny_take (i := 14) (v := undef) rfl (by kernel_rfl) (by kernel_rfl) (by kernel_rfl) (fun _ _ _ h => h) (Or.inr ⟨by kernel_rfl, rfl⟩) ?_; (try simp only [Act.put, List.setIfInBounds_toArray, List.set_cons_zero, List.set_cons_succ])
              refine wpAny_take (i := 15) (v := undef) rfl (by kernel_rfl) (by kernel_rfl) (by kernel_rfl) (fun _ _ _ h => h) (Or.inr ⟨by kernel_rfl, rfl⟩) ?_; (try simp only [Act.put, List.setIfInBounds_toArray, List.set_cons_zero, List.set_cons_succ])
              refine wpAny_take (i := 16) (v := undef) rfl (by kernel_rfl) (by kernel_rfl) (by kernel_rfl) (fun _ _ _ h => h) (Or.inr ⟨by kernel_rfl, rfl⟩) ?_; (try simp only [Act.put, List.setIfInBounds_toArray, List.set_cons_zero, List.set_cons_succ])
              refine wpAny_take (i := 17) (v := undef) rfl (by kernel_rfl) (by kernel_rfl) (by kernel_rfl) (fun _ _ _ h => h) (Or.inr ⟨by kernel_rfl, rfl⟩) ?_; (try simp only [Act.put, List.setIfInBounds_toArray, List.set_cons_zero, List.set_cons_succ])
              refine wpAny_take (i := 18) (v := undef) rfl (by kernel_rfl) (by kernel_rfl) (by kernel_rfl) (fun _ _ _ h => h) (Or.inr ⟨by kernel_rfl, rfl⟩) ?_; (try simp only [Act.put, List.setIfInBounds_toArray, List.set_cons_zero, List.set_cons_succ])
              refine wpAny_take (i := 19) (v := undef) rfl (by kernel_rfl) (by kernel_rfl) (by kernel_rfl) (fun _ _ _ h => h) (Or.inr ⟨by kernel_rfl, rfl⟩) ?_; (try simp only [Act.put, List.setIfInBounds_toArray, List.set_cons_zero, List.set_cons_succ])
              refine wpAny_take (i := 20) (v := ?_) rfl (by kernel_rfl) (by kernel_rfl) (by kernel_rfl) (fun _ _ _ h => h) (Or.inl ⟨by rfl, ?_⟩) ?_; rotate_left; focus ((intro w; go_simp) <;> with_reducible rfl); (try simp only [Act.put, List.setIfInBounds_toArray, List.set_cons_zero, List.set_cons_succ])
              refine wpAny_take (i := 22) (v := ?_) rfl (by kernel_rfl) (by kernel_rfl) (by kernel_rfl) (fun _ _ _ h => h) (Or.inl ⟨by rfl, ?_⟩) ?_; rotate_left; focus ((intro w; go_simp) <;> with_reducible rfl); (try simp only [Act.put, List.setIfInBounds_toArray, List.set_cons_zero, List.set_cons_succ])
              refine wpAny_ready (rs := [23]) (by kernel_rfl) (by simp) ?_; refine AllReady.cons rfl (fun KK hKK => ?_) AllReady.nil; go_simp; refine hKK _ _ ?_; clear hKK KK; (try simp only [Act.put, List.setIfInBounds_toArray, List.set_cons_zero, List.set_cons_succ])
              refine wpAny_done (by kernel_rfl) ?_ _
              refine NoPanic.normal ?_
              go_wp2_with fail
              go_roundw
              case rel => exact ⟨j + 1, _, by omega, by omega, by go_num, hnew.out, hst.out _ (by simp []), hres.out _, hfr.out _⟩
              case measure => simp [intOf] <;> omega

          · obtain rfl : i = k := by omega
            have hf2 := hid (fun (p q : Nat) (h1 : p < q) (h2 : q < a.length) => (show f p q = wars (pairR a b x) (i + 1) p q from by
              rw [hf.out p q h1 h2]
              by_cases e : p < i
              · rw [if_pos e]
              · rw [if_neg e, wars_out (by omega)]))
            clear hf
            go_wp2_with fail
            go_roundw
            case rel => exact ⟨i + 1, f, by omega, by go_num, hf2.out, hB.out, hA.out, hb.out⟩
            case measure => simp [intOf] <;> omega
        · obtain rfl : k = a.length := by omega
          have hT := hid (fun (p q : Nat) (h1 : p < q) (h2 : q < a.length) => (hf.out p q h1 h2).trans (wars_eq h1 h2))
          clear hf
          have hb0 := hid hb.out
          obtain ⟨tA, hgA⟩ := hA.out
          obtain ⟨tB, hgB⟩ := hB.out
          replace hgA := hid hgA
          replace hgB := hid hgB
          clear hA hB hb
          go_wp2_with (first | (refine wpList_load_row rfl 52 _ rfl (w.heap.size + 1) rfl tB (prs f).toArray (0, 0) _ hgB.out pairsU rfl (pairsI f) ?_) | (refine wpList_store_row rfl 52 _ _ rfl w.heap.size (prs f).toArray rfl rfl tA _ hgA.out (pairsI f) (by simp) (prs_one f) ?_))
          refine bodyPost_ret (v := .agg (prs f).toArray) (results_cell_row rfl _ _ w.heap.size tA _ (0, 0) _ rfl (setRow_heap _ _ _ _ _ _ hgA.out) pairsU rfl (pairsI f)) rfl ⟨f, rfl, hT.out, hb0.out.grown (grown_setRow _ _ _) hb0.out.size (fun q hq => by injection hq with hq; omega)⟩



end Go.Proofs.Ytgibgcjpehcemaa
