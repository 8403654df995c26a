/- Contracts: meets and joins of permutations. -/
import Derived.Test.YtgibgcjpehcemaaClo
import Derived.Test.YtgibgcjpehcemaaBx
import Derived.Test.YtgibgcjpehcemaaSwp
import Derived.Deep.WholeRow
import Derived.Deep.RegionHeld3
import Derived.Test.YtgibgcjpehcemaaWpe
namespace Go.Proofs.Ytgibgcjpehcemaa
open Go.RowKit
set_option linter.unusedSimpArgs false

/-- twelve rows of twelve cells -/
def prs (f : Nat → Nat → Bool) : List Value := (List.range 144).map fun q => Value.bool (f (q / 12) (q % 12))
@[simp] theorem length_prs (f : Nat → Nat → Bool) : (prs f).length = 144 := by simp [prs]
theorem prs_at {f : Nat → Nat → Bool} {i j : Nat} (hi : i < 12) (hj : j < 12) : (prs f)[i * 12 + j]? = some (.bool (f i j)) := by
  have h : i * 12 + j < 144 := by omega
  have e1 : (i * 12 + j) / 12 = i := by omega
  have e2 : (i * 12 + j) % 12 = j := by omega
  simp [prs, h, e1, e2]
def upd (f : Nat → Nat → Bool) (i j : Nat) (b : Bool) : Nat → Nat → Bool := fun a c => if a = i ∧ c = j then b else f a c
theorem prs_set {f : Nat → Nat → Bool} {i j : Nat} (hj : j < 12) (b : Bool) : (prs f).set (i * 12 + j) (.bool b) = prs (upd f i j b) := by
  apply List.ext_getElem?
  intro q
  rw [List.getElem?_set]
  by_cases h : i * 12 + j = q
  · subst h
    have e1 : (i * 12 + j) / 12 = i := by omega
    have e2 : (i * 12 + j) % 12 = j := by omega
    by_cases h2 : i * 12 + j < 144
    · simp [prs, upd, h2, e1, e2]
    · simp [prs, h2]
  · rw [if_neg h]
    by_cases h2 : q < 144
    · have e : ¬ (q / 12 = i ∧ q % 12 = j) := by omega
      simp [prs, upd, h2, e]
    · simp [prs, h2]

theorem pairsU : Try.prog.underlying 52 = some (.array 12 50) := by kernel_rfl
theorem pairsI (f : Nat → Nat → Bool) : (Try.prog.info? 52).map (·.size) = some (prs f).toArray.size := by
  rw [show (prs f).toArray.size = 144 from by simp]; kernel_rfl
theorem prs_one (f : Nat → Nat → Bool) : (prs f).toArray.all (·.oneCell') = true := by
  rw [Array.all_eq_true_iff_forall_mem]
  intro v hv
  simp only [prs, List.mem_toArray, List.mem_map] at hv
  obtain ⟨q, _, rfl⟩ := hv
  rfl
theorem zeroP : Try.zeroCells52.toList = prs (fun _ _ => false) := by kernel_rfl
/-- what the pairs are reckoned from -/
def pairR (a b : List Int) (x : Bool) (i j : Nat) : Bool := (decide (nth a j < nth a i) == x) || (decide (nth b j < nth b i) == x)
/-- a table of pairs i < j < n reads as R -/
def TabR (n : Nat) (f R : Nat → Nat → Bool) : Prop := ∀ i j, i < j → j < n → f i j = R i j

set_option maxHeartbeats 8000000 in
theorem closed_impl (v u : Value) (a b : List Int) (x : Bool) (w : World) (h : Reads w v (ints a)) (h' : Reads w u (ints b)) (hl : a.length = b.length) (hn : a.length ≤ 12) :
    Calls Try.prog 55 #[v, u, .bool x] w fun e w' => ∃ f : Nat → Nat → Bool, e = .returned (.agg (prs f).toArray) ∧ TabR a.length f (clos (pairR a b x)) ∧ Below w.heap.size w w' := by
  have hst := run_storeCells_new (P := Try.prog) (w.alloc (.cells Try.zeroCells52 52)) 52 Try.zeroCells52 Try.zeroCells52 (by kernel_rfl) rfl (by kernel_rfl)
  rw [World.size_alloc] at hst
  have hA0 := (Bx.new w Try.zeroCells52 52).alloc (.cells Try.zeroCells52 52)
  have hB0 := Bx.new (w.alloc (.cells Try.zeroCells52 52)) Try.zeroCells52 52
  have hb0 : Below w.heap.size w ((w.alloc (.cells Try.zeroCells52 52)).alloc (.cells Try.zeroCells52 52)) := ((Below.refl _ _).alloc (Nat.le_refl _) _).alloc (by simp) _
  rw [zeroP] at hA0 hB0
  rw [World.size_alloc] at hB0
  have hlen := h.len (P := Try.prog) 22 3 ⟨_, sliceI⟩
  simp only [length_ints] at hlen
  replace hl := hid hl
  go_enter Try.func55, Try.ntmps55
  go_wp2_with fail
  generalize (w.alloc (.cells Try.zeroCells52 52)).alloc (.cells Try.zeroCells52 52) = w0 at *
  clear hst
  have hA1 := hid hA0
  have hB1 := hid hB0
  have hb1 := hid hb0
  clear hA0 hB0 hb0
  go_loopw [8, 9, 16] (fun _ _ c wr => ∃ (i : Nat) (f : Nat → Nat → Bool), i ≤ a.length ∧ c = .int .i64 i ∧ (∀ p q, p < q → q < a.length → p < i → f p q = pairR a b x p q) ∧ Bx wr (w.heap.size + 1) (prs f) ∧ Bx wr w.heap.size (prs fun _ _ => false) ∧ Below w.heap.size w wr) (fun _ _ c _ => a.length - (intOf c).toNat)
  case atStart => exact ⟨0, _, by omega, rfl, fun p q _ _ h => by omega, hB1.out, hA1.out, hb1.out⟩
  case round =>
    clear hA1 hB1 hb1
    obtain ⟨i, f, hi, rfl, hf, hB, hA, hb⟩ := hrel
    replace hf := hid hf
    replace hB := hid hB
    replace hA := hid hA
    replace hb := hid hb
    by_cases hlt : i < a.length
    · go_wp2_with fail
      rename World => wF
      go_loopw [9] (fun c wr => ∃ (j : Nat) (f : Nat → Nat → Bool), i < j ∧ j ≤ a.length ∧ c = .int .i64 j ∧ (∀ p q, p < q → q < a.length → (p < i ∨ p = i ∧ q < j) → f p q = pairR a b x p q) ∧ Bx wr (w.heap.size + 1) (prs f) ∧ Bx wr w.heap.size (prs fun _ _ => false) ∧ Below w.heap.size w wr) (fun c _ => a.length - (intOf c).toNat)
      case atStart => exact ⟨i + 1, f, by omega, by omega, by go_num, fun p q h1 h2 h3 => hf.out p q h1 h2 (by omega), hB.out, hA.out, hb.out⟩
      case round =>
        clear hf hB hA hb
        obtain ⟨j, f, hij, hj, rfl, hf, hB, hA, hb⟩ := hrel
        replace hf := hid hf
        by_cases hlt2 : j < a.length
        · have ia := (h.below hb).idx (P := Try.prog) 22 sliceI sizeI .i64 (i : Int) (by omega) (by simp; omega)
          have ja := (h.below hb).idx (P := Try.prog) 22 sliceI sizeI .i64 (j : Int) (by omega) (by simp; omega)
          have ib := (h'.below hb).idx (P := Try.prog) 22 sliceI sizeI .i64 (i : Int) (by omega) (by have := hl.out; simp; omega)
          have jb := (h'.below hb).idx (P := Try.prog) 22 sliceI sizeI .i64 (j : Int) (by omega) (by have := hl.out; simp; omega)
          simp only [Int.toNat_natCast] at ia ja ib jb
          have c1 := (h.below hb).cell i _ (ints_at (by omega))
          have c2 := (h.below hb).cell j _ (ints_at (by omega))
          have c3 := (h'.below hb).cell i _ (ints_at (by have := hl.out; omega))
          have c4 := (h'.below hb).cell j _ (ints_at (by have := hl.out; omega))
          have i0 : (0 : Int) ≤ (i : Int) := by omega
          have i12 : (i : Int) < 12 := by omega
          have j0 : (0 : Int) ≤ (j : Int) := by omega
          have j12 : (j : Int) < 12 := by omega
          have d1 := hB.cell (i * 12 + j) (prs_at (by omega) (by omega))
          have d2 := hB.frozen (i * 12 + j)
          go_wp2_with fail
          have hK := hid (fun (w' : World) (hw : Below w.heap.size w w') => (⟨(h.below hw).cell i _ (ints_at (by omega)), (h.below hw).cell j _ (ints_at (by omega)), (h'.below hw).cell i _ (ints_at (by have := hl.out; omega)), (h'.below hw).cell j _ (ints_at (by have := hl.out; omega))⟩ : w'.cell? (adr v i) = some (.int .i64 (nth a i)) ∧ w'.cell? (adr v j) = some (.int .i64 (nth a j)) ∧ w'.cell? (adr u i) = some (.int .i64 (nth b i)) ∧ w'.cell? (adr u j) = some (.int .i64 (nth b j))))
          have hbd := hid hb.drew
          have hbs := hid (fun (k : Nat) (z : Value) => hb.drew.setCell (p := ⟨w.heap.size + 1, k, none⟩) (by simp) z)
          replace hA := hid hA
          replace hB := hid hB
          replace hb := hid hb
          clear c1 c2 c3 c4
          have hfr := hid (fun (z : Value) => hb.out.drew.setCell (p := ⟨w.heap.size + 1, i * 12 + j, none⟩) (by simp) z)
          have hst := hid (fun (β : Bool) (hβ : β = pairR a b x i j) => (show Bx (wr.drew.setCell ⟨w.heap.size + 1, i * 12 + j, none⟩ (.bool β)) (w.heap.size + 1) (prs (upd f i j (pairR a b x i j))) from by have := hB.out.drew.set (i * 12 + j) (.bool β); rw [prs_set (by omega), hβ] at this; rw [hβ]; exact this))
          have hres := hid (fun (z : Value) => (hA.out.drew).other (a := ⟨w.heap.size + 1, i * 12 + j, none⟩) (by simp) z)
          have hnew := hid (fun (p q : Nat) (h1 : p < q) (h2 : q < a.length) (h3 : p < i ∨ p = i ∧ q < j + 1) => (show upd f i j (pairR a b x i j) p q = pairR a b x p q from by
            unfold upd
            by_cases e : p = i ∧ q = j
            · rw [if_pos e, e.1, e.2]
            · rw [if_neg e]; exact hf.out p q h1 h2 (by omega)))
          clear hA hB hb hf
          by_cases hq : nth b j < nth b i
          all_goals
            by_cases hp : nth a j < nth a i
            · have hpd : decide (nth a j < nth a i) = true := decide_eq_true hp
              cases x
              · skip
                first | have hqd : decide (nth b j < nth b i) = true := decide_eq_true hq | have hqd : decide (nth b j < nth b i) = false := decide_eq_false hq
                go_wp2_with fail
                go_region_held3 (fun w' => w'.cell? (adr v i) = some (.int .i64 (nth a i)) ∧ w'.cell? (adr v j) = some (.int .i64 (nth a j)) ∧ w'.cell? (adr u i) = some (.int .i64 (nth b i)) ∧ w'.cell? (adr u j) = some (.int .i64 (nth b j))) (first | exact hK.out _ hbd.out | exact hK.out _ (hbs.out _ _)) (fail)
                all_goals
                 go_wp2_with fail
                 go_roundw
                 case rel => exact ⟨j + 1, _, by omega, by omega, by go_num, hnew.out, hst.out _ (by simp [pairR, hpd, hqd]), hres.out _, hfr.out _⟩
                 case measure => simp [intOf] <;> omega
              · skip
                first | have hqd : decide (nth b j < nth b i) = true := decide_eq_true hq | have hqd : decide (nth b j < nth b i) = false := decide_eq_false hq
                go_wp2_with fail
                refine wp_region_noPanic ?_
                refine wp_region_held_drew (S := (fun w' => w'.cell? (adr v i) = some (.int .i64 (nth a i)) ∧ w'.cell? (adr v j) = some (.int .i64 (nth a j)) ∧ w'.cell? (adr u i) = some (.int .i64 (nth b i)) ∧ w'.cell? (adr u j) = some (.int .i64 (nth b j)))) (by kernel_rfl) ?_ (fun hHeld => ?_)
                focus (first | exact hK.out _ hbd.out | exact hK.out _ (hbs.out _ _))
                refine wpAnyH_take (i := 0) (v := ?_) rfl (by kernel_rfl) (by kernel_rfl) (by kernel_rfl) (fun _ _ _ h => h) (Or.inl ⟨by rfl, ?_⟩) (by assumption) ?_; rotate_left; focus ((intro w hSw; (try dsimp only at hSw); go_simp) <;> with_reducible rfl); (try simp only [Act.put, List.setIfInBounds_toArray, List.set_cons_zero, List.set_cons_succ])
                refine wpAnyH_take (i := 1) (v := ?_) rfl (by kernel_rfl) (by kernel_rfl) (by kernel_rfl) (fun _ _ _ h => h) (Or.inl ⟨by rfl, ?_⟩) (by assumption) ?_; rotate_left; focus ((intro w hSw; (try dsimp only at hSw); go_simp) <;> with_reducible rfl); (try simp only [Act.put, List.setIfInBounds_toArray, List.set_cons_zero, List.set_cons_succ])
                refine wpAnyH_take (i := 2) (v := ?_) rfl (by kernel_rfl) (by kernel_rfl) (by kernel_rfl) (fun _ _ _ h => h) (Or.inl ⟨by rfl, ?_⟩) (by assumption) ?_; rotate_left; focus ((intro w hSw; (try dsimp only at hSw); go_simp) <;> with_reducible rfl); (try simp only [Act.put, List.setIfInBounds_toArray, List.set_cons_zero, List.set_cons_succ])
                refine wpAnyH_take (i := 3) (v := ?_) rfl (by kernel_rfl) (by kernel_rfl) (by kernel_rfl) (fun _ _ _ h => h) (Or.inl ⟨by rfl, ?_⟩) (by assumption) ?_; rotate_left; focus ((intro w hSw; (try dsimp only at hSw); go_simp) <;> with_reducible rfl); (try simp only [Act.put, List.setIfInBounds_toArray, List.set_cons_zero, List.set_cons_succ])
                refine wpAnyH_take (i := 4) (v := ?_) rfl (by kernel_rfl) (by kernel_rfl) (by kernel_rfl) (fun _ _ _ h => h) (Or.inl ⟨by rfl, ?_⟩) (by assumption) ?_; rotate_left; focus ((intro w hSw; (try dsimp only at hSw); go_simp) <;> with_reducible rfl); (try simp only [Act.put, List.setIfInBounds_toArray, List.set_cons_zero, List.set_cons_succ])
                refine wpAnyH_take (i := 5) (v := ?_) rfl (by kernel_rfl) (by kernel_rfl) (by kernel_rfl) (fun _ _ _ h => h) (Or.inl ⟨by rfl, ?_⟩) (by assumption) ?_; rotate_left; focus ((intro w hSw; (try dsimp only at hSw); go_simp) <;> with_reducible rfl); (try simp only [Act.put, List.setIfInBounds_toArray, List.set_cons_zero, List.set_cons_succ])
                refine wpAnyH_take (i := 6) (v := ?_) rfl (by kernel_rfl) (by kernel_rfl) (by kernel_rfl) (fun _ _ _ h => h) (Or.inl ⟨by rfl, ?_⟩) (by assumption) ?_; rotate_left; focus ((intro w hSw; (try dsimp only at hSw); go_simp) <;> with_reducible rfl); (try simp only [Act.put, List.setIfInBounds_toArray, List.set_cons_zero, List.set_cons_succ])
                refine wpAnyH_take (i := 7) (v := ?_) rfl (by kernel_rfl) (by kernel_rfl) (by kernel_rfl) (fun _ _ _ h => h) (Or.inl ⟨by rfl, ?_⟩) (by assumption) ?_; rotate_left; focus ((intro w hSw; (try dsimp only at hSw); go_simp) <;> with_reducible rfl); (try simp only [Act.put, List.setIfInBounds_toArray, List.set_cons_zero, List.set_cons_succ])
                refine wpAnyH_take (i := 8) (v := ?_) rfl (by kernel_rfl) (by kernel_rfl) (by kernel_rfl) (fun _ _ _ h => h) (Or.inl ⟨by rfl, ?_⟩) (by assumption) ?_; rotate_left; focus ((intro w hSw; (try dsimp only at hSw); go_simp) <;> with_reducible rfl); (try simp only [Act.put, List.setIfInBounds_toArray, List.set_cons_zero, List.set_cons_succ])
                refine wpAnyH_take (i := 9) (v := ?_) rfl (by kernel_rfl) (by kernel_rfl) (by kernel_rfl) (fun _ _ _ h => h) (Or.inl ⟨by rfl, ?_⟩) (by assumption) ?_; rotate_left; focus ((intro w hSw; (try dsimp only at hSw); go_simp) <;> with_reducible rfl); (try simp only [Act.put, List.setIfInBounds_toArray, List.set_cons_zero, List.set_cons_succ])
                refine wpAnyH_take (i := 10) (v := ?_) rfl (by kernel_rfl) (by kernel_rfl) (by kernel_rfl) (fun _ _ _ h => h) (Or.inl ⟨by rfl, ?_⟩) (by assumption) ?_; rotate_left; focus ((intro w hSw; (try dsimp only at hSw); go_simp) <;> with_reducible rfl); (try simp only [Act.put, List.setIfInBounds_toArray, List.set_cons_zero, List.set_cons_succ])
                refine wpAnyH_take (i := 11) (v := ?_) rfl (by kernel_rfl) (by kernel_rfl) (by kernel_rfl) (fun _ _ _ h => h) (Or.inl ⟨by rfl, ?_⟩) (by assumption) ?_; rotate_left; focus ((intro w hSw; (try dsimp only at hSw); go_simp) <;> with_reducible rfl); (try simp only [Act.put, List.setIfInBounds_toArray, List.set_cons_zero, List.set_cons_succ])
                refine wpAnyH_take (i := 12) (v := ?_) rfl (by kernel_rfl) (by kernel_rfl) (by kernel_rfl) (fun _ _ _ h => h) (Or.inl ⟨by rfl, ?_⟩) (by assumption) ?_; rotate_left; focus ((intro w hSw; (try dsimp only at hSw); go_simp) <;> with_reducible rfl); (try simp only [Act.put, List.setIfInBounds_toArray, List.set_cons_zero, List.set_cons_succ])
                refine wpAnyH_take (i := 13) (v := ?_) rfl (by kernel_rfl) (by kernel_rfl) (by kernel_rfl) (fun _ _ _ h => h) (Or.inl ⟨by rfl, ?_⟩) (by assumption) ?_; rotate_left; focus ((intro w hSw; (try dsimp only at hSw); go_simp) <;> with_reducible rfl); (try simp only [Act.put, List.setIfInBounds_toArray, List.set_cons_zero, List.set_cons_succ])
                refine wpAnyH_take (i := 14) (v := undef) rfl (by kernel_rfl) (by kernel_rfl) (by kernel_rfl) (fun _ _ _ h => h) (Or.inr ⟨by kernel_rfl, rfl⟩) (by assumption) ?_; (try simp only [Act.put, List.setIfInBounds_toArray, List.set_cons_zero, List.set_cons_succ])
                refine wpAnyH_take (i := 15) (v := undef) rfl (by kernel_rfl) (by kernel_rfl) (by kernel_rfl) (fun _ _ _ h => h) (Or.inr ⟨by kernel_rfl, rfl⟩) (by assumption) ?_; (try simp only [Act.put, List.setIfInBounds_toArray, List.set_cons_zero, List.set_cons_succ])
                refine wpAnyH_take (i := 16) (v := undef) rfl (by kernel_rfl) (by kernel_rfl) (by kernel_rfl) (fun _ _ _ h => h) (Or.inr ⟨by kernel_rfl, rfl⟩) (by assumption) ?_; (try simp only [Act.put, List.setIfInBounds_toArray, List.set_cons_zero, List.set_cons_succ])
                refine wpAnyH_take (i := 17) (v := undef) rfl (by kernel_rfl) (by kernel_rfl) (by kernel_rfl) (fun _ _ _ h => h) (Or.inr ⟨by kernel_rfl, rfl⟩) (by assumption) ?_; (try simp only [Act.put, List.setIfInBounds_toArray, List.set_cons_zero, List.set_cons_succ])
                refine wpAnyH_take (i := 18) (v := undef) rfl (by kernel_rfl) (by kernel_rfl) (by kernel_rfl) (fun _ _ _ h => h) (Or.inr ⟨by kernel_rfl, rfl⟩) (by assumption) ?_; (try simp only [Act.put, List.setIfInBounds_toArray, List.set_cons_zero, List.set_cons_succ])
                refine wpAnyH_take (i := 19) (v := undef) rfl (by kernel_rfl) (by kernel_rfl) (by kernel_rfl) (fun _ _ _ h => h) (Or.inr ⟨by kernel_rfl, rfl⟩) (by assumption) ?_; (try simp only [Act.put, List.setIfInBounds_toArray, List.set_cons_zero, List.set_cons_succ])
                refine wpAnyH_take (i := 20) (v := undef) rfl (by kernel_rfl) (by kernel_rfl) (by kernel_rfl) (fun _ _ _ h => h) (Or.inr ⟨by kernel_rfl, rfl⟩) (by assumption) ?_; (try simp only [Act.put, List.setIfInBounds_toArray, List.set_cons_zero, List.set_cons_succ])
                refine wpAnyH_take (i := 21) (v := undef) rfl (by kernel_rfl) (by kernel_rfl) (by kernel_rfl) (fun _ _ _ h => h) (Or.inr ⟨by kernel_rfl, rfl⟩) (by assumption) ?_; (try simp only [Act.put, List.setIfInBounds_toArray, List.set_cons_zero, List.set_cons_succ])
                refine wpAnyH_take (i := 22) (v := undef) rfl (by kernel_rfl) (by kernel_rfl) (by kernel_rfl) (fun _ _ _ h => h) (Or.inr ⟨by kernel_rfl, rfl⟩) (by assumption) ?_; (try simp only [Act.put, List.setIfInBounds_toArray, List.set_cons_zero, List.set_cons_succ])
                refine wpAnyH_take (i := 23) (v := undef) rfl (by kernel_rfl) (by kernel_rfl) (by kernel_rfl) (fun _ _ _ h => h) (Or.inr ⟨by kernel_rfl, rfl⟩) (by assumption) ?_; (try simp only [Act.put, List.setIfInBounds_toArray, List.set_cons_zero, List.set_cons_succ])
                refine wpAnyH_take (i := 24) (v := undef) rfl (by kernel_rfl) (by kernel_rfl) (by kernel_rfl) (fun _ _ _ h => h) (Or.inr ⟨by kernel_rfl, rfl⟩) (by assumption) ?_; (try simp only [Act.put, List.setIfInBounds_toArray, List.set_cons_zero, List.set_cons_succ])
                refine wpAnyH_take (i := 25) (v := ?_) rfl (by kernel_rfl) (by kernel_rfl) (by kernel_rfl) (fun _ _ _ h => h) (Or.inl ⟨by rfl, ?_⟩) (by assumption) ?_; rotate_left; focus ((intro w hSw; (try dsimp only at hSw); go_simp) <;> with_reducible rfl); (try simp only [Act.put, List.setIfInBounds_toArray, List.set_cons_zero, List.set_cons_succ])
                refine wpAnyH_take (i := 26) (v := ?_) rfl (by kernel_rfl) (by kernel_rfl) (by kernel_rfl) (fun _ _ _ h => h) (Or.inl ⟨by rfl, ?_⟩) (by assumption) ?_; rotate_left; focus ((intro w hSw; (try dsimp only at hSw); go_simp) <;> with_reducible rfl); (try simp only [Act.put, List.setIfInBounds_toArray, List.set_cons_zero, List.set_cons_succ])
                refine wpAnyH_take (i := 27) (v := ?_) rfl (by kernel_rfl) (by kernel_rfl) (by kernel_rfl) (fun _ _ _ h => h) (Or.inl ⟨by rfl, ?_⟩) (by assumption) ?_; rotate_left; focus ((intro w hSw; (try dsimp only at hSw); go_simp) <;> with_reducible rfl); (try simp only [Act.put, List.setIfInBounds_toArray, List.set_cons_zero, List.set_cons_succ])
                refine wpAnyH_ready (rs := [28]) (by kernel_rfl) (by simp) ?_
                refine AllReadyH.cons rfl (fun KK hKK => ?_) AllReadyH.nil
                go_simp
                refine hKK.out _ _ ?_ (fun hHeld => ?_)
                focus (first | exact hK.out _ hbd.out | exact hK.out _ (hbs.out _ _))
                clear hKK KK
                (try simp only [Act.put, List.setIfInBounds_toArray, List.set_cons_zero, List.set_cons_succ])
                refine wpAnyH_done (by kernel_rfl) ?_ _
                refine NoPanic.normal ?_
                go_wp2_with fail
                go_roundw
                case rel => exact ⟨j + 1, _, by omega, by omega, by go_num, hnew.out, hst.out _ (by simp [pairR, hpd, hqd]), hres.out _, hfr.out _⟩
                case measure => simp [intOf] <;> omega
            · have hpd : decide (nth a j < nth a i) = false := decide_eq_false hp
              cases x
              · skip
                first | have hqd : decide (nth b j < nth b i) = true := decide_eq_true hq | have hqd : decide (nth b j < nth b i) = false := decide_eq_false hq
                go_wp2_with fail
                refine wp_region_noPanic ?_
                refine wp_region_held_drew (S := (fun w' => w'.cell? (adr v i) = some (.int .i64 (nth a i)) ∧ w'.cell? (adr v j) = some (.int .i64 (nth a j)) ∧ w'.cell? (adr u i) = some (.int .i64 (nth b i)) ∧ w'.cell? (adr u j) = some (.int .i64 (nth b j)))) (by kernel_rfl) ?_ (fun hHeld => ?_)
                focus (first | exact hK.out _ hbd.out | exact hK.out _ (hbs.out _ _))
                refine wpAnyH_take (i := 0) (v := ?_) rfl (by kernel_rfl) (by kernel_rfl) (by kernel_rfl) (fun _ _ _ h => h) (Or.inl ⟨by rfl, ?_⟩) (by assumption) ?_; rotate_left; focus ((intro w hSw; (try dsimp only at hSw); go_simp) <;> with_reducible rfl); (try simp only [Act.put, List.setIfInBounds_toArray, List.set_cons_zero, List.set_cons_succ])
                refine wpAnyH_take (i := 1) (v := ?_) rfl (by kernel_rfl) (by kernel_rfl) (by kernel_rfl) (fun _ _ _ h => h) (Or.inl ⟨by rfl, ?_⟩) (by assumption) ?_; rotate_left; focus ((intro w hSw; (try dsimp only at hSw); go_simp) <;> with_reducible rfl); (try simp only [Act.put, List.setIfInBounds_toArray, List.set_cons_zero, List.set_cons_succ])
                refine wpAnyH_take (i := 2) (v := ?_) rfl (by kernel_rfl) (by kernel_rfl) (by kernel_rfl) (fun _ _ _ h => h) (Or.inl ⟨by rfl, ?_⟩) (by assumption) ?_; rotate_left; focus ((intro w hSw; (try dsimp only at hSw); go_simp) <;> with_reducible rfl); (try simp only [Act.put, List.setIfInBounds_toArray, List.set_cons_zero, List.set_cons_succ])
                refine wpAnyH_take (i := 3) (v := ?_) rfl (by kernel_rfl) (by kernel_rfl) (by kernel_rfl) (fun _ _ _ h => h) (Or.inl ⟨by rfl, ?_⟩) (by assumption) ?_; rotate_left; focus ((intro w hSw; (try dsimp only at hSw); go_simp) <;> with_reducible rfl); (try simp only [Act.put, List.setIfInBounds_toArray, List.set_cons_zero, List.set_cons_succ])
                refine wpAnyH_take (i := 4) (v := ?_) rfl (by kernel_rfl) (by kernel_rfl) (by kernel_rfl) (fun _ _ _ h => h) (Or.inl ⟨by rfl, ?_⟩) (by assumption) ?_; rotate_left; focus ((intro w hSw; (try dsimp only at hSw); go_simp) <;> with_reducible rfl); (try simp only [Act.put, List.setIfInBounds_toArray, List.set_cons_zero, List.set_cons_succ])
                refine wpAnyH_take (i := 5) (v := ?_) rfl (by kernel_rfl) (by kernel_rfl) (by kernel_rfl) (fun _ _ _ h => h) (Or.inl ⟨by rfl, ?_⟩) (by assumption) ?_; rotate_left; focus ((intro w hSw; (try dsimp only at hSw); go_simp) <;> with_reducible rfl); (try simp only [Act.put, List.setIfInBounds_toArray, List.set_cons_zero, List.set_cons_succ])
                refine wpAnyH_take (i := 6) (v := ?_) rfl (by kernel_rfl) (by kernel_rfl) (by kernel_rfl) (fun _ _ _ h => h) (Or.inl ⟨by rfl, ?_⟩) (by assumption) ?_; rotate_left; focus ((intro w hSw; (try dsimp only at hSw); go_simp) <;> with_reducible rfl); (try simp only [Act.put, List.setIfInBounds_toArray, List.set_cons_zero, List.set_cons_succ])
                refine wpAnyH_take (i := 7) (v := ?_) rfl (by kernel_rfl) (by kernel_rfl) (by kernel_rfl) (fun _ _ _ h => h) (Or.inl ⟨by rfl, ?_⟩) (by assumption) ?_; rotate_left; focus ((intro w hSw; (try dsimp only at hSw); go_simp) <;> with_reducible rfl); (try simp only [Act.put, List.setIfInBounds_toArray, List.set_cons_zero, List.set_cons_succ])
                refine wpAnyH_take (i := 8) (v := ?_) rfl (by kernel_rfl) (by kernel_rfl) (by kernel_rfl) (fun _ _ _ h => h) (Or.inl ⟨by rfl, ?_⟩) (by assumption) ?_; rotate_left; focus ((intro w hSw; (try dsimp only at hSw); go_simp) <;> with_reducible rfl); (try simp only [Act.put, List.setIfInBounds_toArray, List.set_cons_zero, List.set_cons_succ])
                refine wpAnyH_take (i := 9) (v := ?_) rfl (by kernel_rfl) (by kernel_rfl) (by kernel_rfl) (fun _ _ _ h => h) (Or.inl ⟨by rfl, ?_⟩) (by assumption) ?_; rotate_left; focus ((intro w hSw; (try dsimp only at hSw); go_simp) <;> with_reducible rfl); (try simp only [Act.put, List.setIfInBounds_toArray, List.set_cons_zero, List.set_cons_succ])
                refine wpAnyH_take (i := 10) (v := ?_) rfl (by kernel_rfl) (by kernel_rfl) (by kernel_rfl) (fun _ _ _ h => h) (Or.inl ⟨by rfl, ?_⟩) (by assumption) ?_; rotate_left; focus ((intro w hSw; (try dsimp only at hSw); go_simp) <;> with_reducible rfl); (try simp only [Act.put, List.setIfInBounds_toArray, List.set_cons_zero, List.set_cons_succ])
                refine wpAnyH_take (i := 11) (v := ?_) rfl (by kernel_rfl) (by kernel_rfl) (by kernel_rfl) (fun _ _ _ h => h) (Or.inl ⟨by rfl, ?_⟩) (by assumption) ?_; rotate_left; focus ((intro w hSw; (try dsimp only at hSw); go_simp) <;> with_reducible rfl); (try simp only [Act.put, List.setIfInBounds_toArray, List.set_cons_zero, List.set_cons_succ])
                refine wpAnyH_take (i := 12) (v := ?_) rfl (by kernel_rfl) (by kernel_rfl) (by kernel_rfl) (fun _ _ _ h => h) (Or.inl ⟨by rfl, ?_⟩) (by assumption) ?_; rotate_left; focus ((intro w hSw; (try dsimp only at hSw); go_simp) <;> with_reducible rfl); (try simp only [Act.put, List.setIfInBounds_toArray, List.set_cons_zero, List.set_cons_succ])
                refine wpAnyH_take (i := 13) (v := ?_) rfl (by kernel_rfl) (by kernel_rfl) (by kernel_rfl) (fun _ _ _ h => h) (Or.inl ⟨by rfl, ?_⟩) (by assumption) ?_; rotate_left; focus ((intro w hSw; (try dsimp only at hSw); go_simp) <;> with_reducible rfl); (try simp only [Act.put, List.setIfInBounds_toArray, List.set_cons_zero, List.set_cons_succ])
                refine wpAnyH_take (i := 14) (v := undef) rfl (by kernel_rfl) (by kernel_rfl) (by kernel_rfl) (fun _ _ _ h => h) (Or.inr ⟨by kernel_rfl, rfl⟩) (by assumption) ?_; (try simp only [Act.put, List.setIfInBounds_toArray, List.set_cons_zero, List.set_cons_succ])
                refine wpAnyH_take (i := 15) (v := undef) rfl (by kernel_rfl) (by kernel_rfl) (by kernel_rfl) (fun _ _ _ h => h) (Or.inr ⟨by kernel_rfl, rfl⟩) (by assumption) ?_; (try simp only [Act.put, List.setIfInBounds_toArray, List.set_cons_zero, List.set_cons_succ])
                refine wpAnyH_take (i := 16) (v := undef) rfl (by kernel_rfl) (by kernel_rfl) (by kernel_rfl) (fun _ _ _ h => h) (Or.inr ⟨by kernel_rfl, rfl⟩) (by assumption) ?_; (try simp only [Act.put, List.setIfInBounds_toArray, List.set_cons_zero, List.set_cons_succ])
                refine wpAnyH_take (i := 17) (v := undef) rfl (by kernel_rfl) (by kernel_rfl) (by kernel_rfl) (fun _ _ _ h => h) (Or.inr ⟨by kernel_rfl, rfl⟩) (by assumption) ?_; (try simp only [Act.put, List.setIfInBounds_toArray, List.set_cons_zero, List.set_cons_succ])
                refine wpAnyH_take (i := 18) (v := undef) rfl (by kernel_rfl) (by kernel_rfl) (by kernel_rfl) (fun _ _ _ h => h) (Or.inr ⟨by kernel_rfl, rfl⟩) (by assumption) ?_; (try simp only [Act.put, List.setIfInBounds_toArray, List.set_cons_zero, List.set_cons_succ])
                refine wpAnyH_take (i := 19) (v := undef) rfl (by kernel_rfl) (by kernel_rfl) (by kernel_rfl) (fun _ _ _ h => h) (Or.inr ⟨by kernel_rfl, rfl⟩) (by assumption) ?_; (try simp only [Act.put, List.setIfInBounds_toArray, List.set_cons_zero, List.set_cons_succ])
                refine wpAnyH_take (i := 20) (v := undef) rfl (by kernel_rfl) (by kernel_rfl) (by kernel_rfl) (fun _ _ _ h => h) (Or.inr ⟨by kernel_rfl, rfl⟩) (by assumption) ?_; (try simp only [Act.put, List.setIfInBounds_toArray, List.set_cons_zero, List.set_cons_succ])
                refine wpAnyH_take (i := 21) (v := undef) rfl (by kernel_rfl) (by kernel_rfl) (by kernel_rfl) (fun _ _ _ h => h) (Or.inr ⟨by kernel_rfl, rfl⟩) (by assumption) ?_; (try simp only [Act.put, List.setIfInBounds_toArray, List.set_cons_zero, List.set_cons_succ])
                refine wpAnyH_take (i := 22) (v := undef) rfl (by kernel_rfl) (by kernel_rfl) (by kernel_rfl) (fun _ _ _ h => h) (Or.inr ⟨by kernel_rfl, rfl⟩) (by assumption) ?_; (try simp only [Act.put, List.setIfInBounds_toArray, List.set_cons_zero, List.set_cons_succ])
                refine wpAnyH_take (i := 23) (v := undef) rfl (by kernel_rfl) (by kernel_rfl) (by kernel_rfl) (fun _ _ _ h => h) (Or.inr ⟨by kernel_rfl, rfl⟩) (by assumption) ?_; (try simp only [Act.put, List.setIfInBounds_toArray, List.set_cons_zero, List.set_cons_succ])
                refine wpAnyH_take (i := 24) (v := undef) rfl (by kernel_rfl) (by kernel_rfl) (by kernel_rfl) (fun _ _ _ h => h) (Or.inr ⟨by kernel_rfl, rfl⟩) (by assumption) ?_; (try simp only [Act.put, List.setIfInBounds_toArray, List.set_cons_zero, List.set_cons_succ])
                refine wpAnyH_take (i := 25) (v := ?_) rfl (by kernel_rfl) (by kernel_rfl) (by kernel_rfl) (fun _ _ _ h => h) (Or.inl ⟨by rfl, ?_⟩) (by assumption) ?_; rotate_left; focus ((intro w hSw; (try dsimp only at hSw); go_simp) <;> with_reducible rfl); (try simp only [Act.put, List.setIfInBounds_toArray, List.set_cons_zero, List.set_cons_succ])
                refine wpAnyH_take (i := 26) (v := ?_) rfl (by kernel_rfl) (by kernel_rfl) (by kernel_rfl) (fun _ _ _ h => h) (Or.inl ⟨by rfl, ?_⟩) (by assumption) ?_; rotate_left; focus ((intro w hSw; (try dsimp only at hSw); go_simp) <;> with_reducible rfl); (try simp only [Act.put, List.setIfInBounds_toArray, List.set_cons_zero, List.set_cons_succ])
                refine wpAnyH_take (i := 27) (v := ?_) rfl (by kernel_rfl) (by kernel_rfl) (by kernel_rfl) (fun _ _ _ h => h) (Or.inl ⟨by rfl, ?_⟩) (by assumption) ?_; rotate_left; focus ((intro w hSw; (try dsimp only at hSw); go_simp) <;> with_reducible rfl); (try simp only [Act.put, List.setIfInBounds_toArray, List.set_cons_zero, List.set_cons_succ])
                refine wpAnyH_ready (rs := [28]) (by kernel_rfl) (by simp) ?_
                refine AllReadyH.cons rfl (fun KK hKK => ?_) AllReadyH.nil
                go_simp
                refine hKK.out _ _ ?_ (fun hHeld => ?_)
                focus (first | exact hK.out _ hbd.out | exact hK.out _ (hbs.out _ _))
                clear hKK KK
                (try simp only [Act.put, List.setIfInBounds_toArray, List.set_cons_zero, List.set_cons_succ])
                refine wpAnyH_done (by kernel_rfl) ?_ _
                refine NoPanic.normal ?_
                go_wp2_with fail
                go_roundw
                case rel => exact ⟨j + 1, _, by omega, by omega, by go_num, hnew.out, hst.out _ (by simp [pairR, hpd, hqd]), hres.out _, hfr.out _⟩
                case measure => simp [intOf] <;> omega
              · skip
                first | have hqd : decide (nth b j < nth b i) = true := decide_eq_true hq | have hqd : decide (nth b j < nth b i) = false := decide_eq_false hq
                go_wp2_with fail
                go_region_held3 (fun w' => w'.cell? (adr v i) = some (.int .i64 (nth a i)) ∧ w'.cell? (adr v j) = some (.int .i64 (nth a j)) ∧ w'.cell? (adr u i) = some (.int .i64 (nth b i)) ∧ w'.cell? (adr u j) = some (.int .i64 (nth b j))) (first | exact hK.out _ hbd.out | exact hK.out _ (hbs.out _ _)) (fail)
                all_goals
                 go_wp2_with fail
                 go_roundw
                 case rel => exact ⟨j + 1, _, by omega, by omega, by go_num, hnew.out, hst.out _ (by simp [pairR, hpd, hqd]), hres.out _, hfr.out _⟩
                 case measure => simp [intOf] <;> omega
        · obtain rfl : j = a.length := by omega
          replace hA := hid hA
          replace hB := hid hB
          replace hb := hid hb
          have hf2 := hid (fun (p q : Nat) (h1 : p < q) (h2 : q < a.length) (h3 : p < i + 1) => hf.out p q h1 h2 (by omega))
          clear hf
          go_wp2_with fail
          go_roundw
          case rel => exact ⟨i + 1, f, by omega, by go_num, hf2.out, hB.out, hA.out, hb.out⟩
          case measure => simp [intOf] <;> omega
    · obtain rfl : i = a.length := by omega
      have hf2 := hid (fun (p q : Nat) (h1 : p < q) (h2 : q < a.length) => hf.out p q h1 h2 (by omega))
      clear hf
      replace hA := hid hA.out
      go_wp2_with fail
      go_loopw [10, 11, 12, 58, 62] (fun _ _ _ c _ wr => ∃ (k : Nat) (f : Nat → Nat → Bool), k ≤ a.length ∧ c = .int .i64 k ∧ (∀ p q, p < q → q < a.length → f p q = wars (pairR a b x) k p q) ∧ Bx wr (w.heap.size + 1) (prs f) ∧ Bx wr w.heap.size (prs fun _ _ => false) ∧ Below w.heap.size w wr) (fun _ _ _ c _ _ => a.length - (intOf c).toNat)
      case atStart => exact ⟨0, f, by omega, rfl, hf2.out, hB.out, hA.out, hb.out⟩
      case round =>
        clear hf2 hB hA hb
        obtain ⟨k, f, hk, rfl, hf, hB, hA, hb⟩ := hrel
        replace hf := hid hf
        replace hB := hid hB
        replace hA := hid hA
        replace hb := hid hb
        by_cases hlt3 : k < a.length
        · go_wp2_with fail
          rename World => wF
          go_loopw [11, 12, 62] (fun _ _ c wr => ∃ (i : Nat) (f : Nat → Nat → Bool), i ≤ k ∧ c = .int .i64 i ∧ (∀ p q, p < q → q < a.length → f p q = if p < i then wars (pairR a b x) (k + 1) p q else wars (pairR a b x) k p q) ∧ Bx wr (w.heap.size + 1) (prs f) ∧ Bx wr w.heap.size (prs fun _ _ => false) ∧ Below w.heap.size w wr) (fun _ _ c _ => k - (intOf c).toNat)
          case atStart => exact ⟨0, f, by omega, rfl, fun p q h1 h2 => by rw [if_neg (by omega)]; exact hf.out p q h1 h2, hB.out, hA.out, hb.out⟩
          case round =>
          clear hf hB hA hb
          obtain ⟨i, f, hi, rfl, hf, hB, hA, hb⟩ := hrel
          replace hf := hid hf
          replace hB := hid hB
          replace hA := hid hA
          replace hb := hid hb
          by_cases hik : i < k
          · go_wp2_with fail
            rename World => wG
            go_loopw [12] (fun c wr => ∃ (j : Nat) (f : Nat → Nat → Bool), k < j ∧ j ≤ a.length ∧ c = .int .i64 j ∧ (∀ p q, p < q → q < a.length → f p q = if p < i ∨ p = i ∧ q < j then wars (pairR a b x) (k + 1) p q else wars (pairR a b x) k p q) ∧ Bx wr (w.heap.size + 1) (prs f) ∧ Bx wr w.heap.size (prs fun _ _ => false) ∧ Below w.heap.size w wr) (fun c _ => a.length - (intOf c).toNat)
            case atStart =>
              refine ⟨k + 1, f, by omega, by omega, by go_num, fun p q h1 h2 => ?_, hB.out, hA.out, hb.out⟩
              rw [hf.out p q h1 h2]
              by_cases e1 : p < i
              · rw [if_pos e1, if_pos (.inl e1)]
              · rw [if_neg e1]
                by_cases e2 : p = i ∧ q < k + 1
                · rw [if_pos (.inr e2), wars_out (by omega)]
                · rw [if_neg (by omega)]
            case round =>
            clear hf hB hA hb
            obtain ⟨j, f, hkj, hj, rfl, hf, hB, hA, hb⟩ := hrel
            replace hf := hid hf
            by_cases hjn : j < a.length
            case neg =>
              obtain rfl : j = a.length := by omega
              have hf2 := hid (fun (p q : Nat) (h1 : p < q) (h2 : q < a.length) => (show f p q = if p < i + 1 then wars (pairR a b x) (k + 1) p q else wars (pairR a b x) k p q from by
                rw [hf.out p q h1 h2]
                by_cases e : p < i + 1
                · rw [if_pos e, if_pos (by omega)]
                · rw [if_neg e, if_neg (by omega)]))
              replace hA := hid hA
              replace hB := hid hB
              replace hb := hid hb
              clear hf
              go_wp2_with fail
              go_roundw
              case rel => exact ⟨i + 1, f, by omega, by go_num, hf2.out, hB.out, hA.out, hb.out⟩
              case measure => simp [intOf] <;> omega
            case pos =>
            have i0 : (0 : Int) ≤ (i : Int) := by omega
            have i12 : (i : Int) < 12 := by omega
            have j0 : (0 : Int) ≤ (j : Int) := by omega
            have j12 : (j : Int) < 12 := by omega
            have k0 : (0 : Int) ≤ (k : Int) := by omega
            have k12 : (k : Int) < 12 := by omega
            have d1 := hB.cell (i * 12 + j) (prs_at (by omega) (by omega))
            have d3 := hB.cell (i * 12 + k) (prs_at (by omega) (by omega))
            have d4 := hB.cell (k * 12 + j) (prs_at (by omega) (by omega))
            have d2 := hB.frozen (i * 12 + j)
            have hnv := hid (show wars (pairR a b x) (k + 1) i j = (f i j || (f i k && f k j)) from by
              rw [wars_in hik hkj, hf.out i j (by omega) hjn, hf.out i k hik (by omega), hf.out k j hkj hjn, if_neg (by omega), if_pos (by omega), if_neg (by omega), wars_out (by omega)])
            have hfr := hid (fun (z : Value) => hb.drew.setCell (p := ⟨w.heap.size + 1, i * 12 + j, none⟩) (by simp) z)
            have hst := hid (fun (β : Bool) (hβ : β = (f i j || (f i k && f k j))) => (show Bx (wr.drew.setCell ⟨w.heap.size + 1, i * 12 + j, none⟩ (.bool β)) (w.heap.size + 1) (prs (upd f i j (wars (pairR a b x) (k + 1) i j))) from by have := hB.drew.set (i * 12 + j) (.bool β); rw [prs_set (by omega), hβ] at this; rw [hβ, hnv.out]; exact this))
            have hres := hid (fun (z : Value) => (hA.drew).other (a := ⟨w.heap.size + 1, i * 12 + j, none⟩) (by simp) z)
            have hnew := hid (fun (p q : Nat) (h1 : p < q) (h2 : q < a.length) => (show upd f i j (wars (pairR a b x) (k + 1) i j) p q = if p < i ∨ p = i ∧ q < j + 1 then wars (pairR a b x) (k + 1) p q else wars (pairR a b x) k p q from by
              unfold upd
              by_cases e : p = i ∧ q = j
              · rw [if_pos e, e.1, e.2, if_pos (by omega)]
              · rw [if_neg e, hf.out p q h1 h2]
                by_cases e2 : p < i ∨ p = i ∧ q < j
                · rw [if_pos e2, if_pos (by omega)]
                · rw [if_neg e2, if_neg (by omega)]))
            clear hA hB hb hf hnv
            generalize f i j = v1 at *
            generalize f i k = v2 at *
            generalize f k j = v3 at *
            cases v1
            · cases v2
              · go_wp2_with fail
                refine wp_region_noPanic ?_
                refine wp_region_any (by kernel_rfl) ?_
                try (change wpAny _ _ _ _ _ _ _ (World.drew _))
                refine wpAny_take (i := 0) (v := ?_) rfl (by kernel_rfl) (by kernel_rfl) (by kernel_rfl) (fun _ _ _ h => h) (Or.inl ⟨by rfl, ?_⟩) ?_; rotate_left; focus ((intro w; go_simp) <;> with_reducible rfl); (try simp only [Act.put, List.setIfInBounds_toArray, List.set_cons_zero, List.set_cons_succ])
                refine wpAny_take (i := 1) (v := ?_) rfl (by kernel_rfl) (by kernel_rfl) (by kernel_rfl) (fun _ _ _ h => h) (Or.inl ⟨by rfl, ?_⟩) ?_; rotate_left; focus ((intro w; go_simp) <;> with_reducible rfl); (try simp only [Act.put, List.setIfInBounds_toArray, List.set_cons_zero, List.set_cons_succ])
                refine wpAny_take (i := 2) (v := ?_) rfl (by kernel_rfl) (by kernel_rfl) (by kernel_rfl) (fun _ _ _ h => h) (Or.inl ⟨by rfl, ?_⟩) ?_; rotate_left; focus ((intro w; go_simp) <;> with_reducible rfl); (try simp only [Act.put, List.setIfInBounds_toArray, List.set_cons_zero, List.set_cons_succ])
                refine wpAny_take (i := 3) (v := ?_) rfl (by kernel_rfl) (by kernel_rfl) (by kernel_rfl) (fun _ _ _ h => h) (Or.inl ⟨by rfl, ?_⟩) ?_; rotate_left; focus ((intro w; go_simp) <;> with_reducible rfl); (try simp only [Act.put, List.setIfInBounds_toArray, List.set_cons_zero, List.set_cons_succ])
                refine wpAny_take (i := 4) (v := ?_) rfl (by kernel_rfl) (by kernel_rfl) (by kernel_rfl) (fun _ _ _ h => h) (Or.inl ⟨by rfl, ?_⟩) ?_; rotate_left; focus ((intro w; go_simp) <;> with_reducible rfl); (try simp only [Act.put, List.setIfInBounds_toArray, List.set_cons_zero, List.set_cons_succ])
                refine wpAny_take (i := 5) (v := ?_) rfl (by kernel_rfl) (by kernel_rfl) (by kernel_rfl) (fun _ _ _ h => h) (Or.inl ⟨by rfl, ?_⟩) ?_; rotate_left; focus ((intro w; go_simp) <;> with_reducible rfl); (try simp only [Act.put, List.setIfInBounds_toArray, List.set_cons_zero, List.set_cons_succ])
                refine wpAny_take (i := 21) (v := ?_) rfl (by kernel_rfl) (by kernel_rfl) (by kernel_rfl) (fun _ _ _ h => h) (Or.inl ⟨by rfl, ?_⟩) ?_; rotate_left; focus ((intro w; go_simp) <;> with_reducible rfl); (try simp only [Act.put, List.setIfInBounds_toArray, List.set_cons_zero, List.set_cons_succ])
                refine wpAny_ready (rs := [6]) (by kernel_rfl) (by simp) ?_; refine AllReady.cons rfl (fun KK hKK => ?_) AllReady.nil; go_simp; refine hKK _ _ ?_; clear hKK KK; (try simp only [Act.put, List.setIfInBounds_toArray, List.set_cons_zero, List.set_cons_succ])
                refine wpAny_take (i := 7) (v := ?_) rfl (by kernel_rfl) (by kernel_rfl) (by kernel_rfl) (fun _ _ _ h => h) (Or.inl ⟨by rfl, ?_⟩) ?_; rotate_left; focus ((intro w; go_simp) <;> with_reducible rfl); (try simp only [Act.put, List.setIfInBounds_toArray, List.set_cons_zero, List.set_cons_succ])
                refine wpAny_take (i := 8) (v := ?_) rfl (by kernel_rfl) (by kernel_rfl) (by kernel_rfl) (fun _ _ _ h => h) (Or.inl ⟨by rfl, ?_⟩) ?_; rotate_left; focus ((intro w; go_simp) <;> with_reducible rfl); (try simp only [Act.put, List.setIfInBounds_toArray, List.set_cons_zero, List.set_cons_succ])
                refine wpAny_take (i := 9) (v := ?_) rfl (by kernel_rfl) (by kernel_rfl) (by kernel_rfl) (fun _ _ _ h => h) (Or.inl ⟨by rfl, ?_⟩) ?_; rotate_left; focus ((intro w; go_simp) <;> with_reducible rfl); (try simp only [Act.put, List.setIfInBounds_toArray, List.set_cons_zero, List.set_cons_succ])
                refine wpAny_take (i := 10) (v := ?_) rfl (by kernel_rfl) (by kernel_rfl) (by kernel_rfl) (fun _ _ _ h => h) (Or.inl ⟨by rfl, ?_⟩) ?_; rotate_left; focus ((intro w; go_simp) <;> with_reducible rfl); (try simp only [Act.put, List.setIfInBounds_toArray, List.set_cons_zero, List.set_cons_succ])
                refine wpAny_take (i := 11) (v := ?_) rfl (by kernel_rfl) (by kernel_rfl) (by kernel_rfl) (fun _ _ _ h => h) (Or.inl ⟨by rfl, ?_⟩) ?_; rotate_left; focus ((intro w; go_simp) <;> with_reducible rfl); (try simp only [Act.put, List.setIfInBounds_toArray, List.set_cons_zero, List.set_cons_succ])
                refine wpAny_ready (rs := [12]) (by kernel_rfl) (by simp) ?_; refine AllReady.cons rfl (fun KK hKK => ?_) AllReady.nil; go_simp; refine hKK _ _ ?_; clear hKK KK; (try simp only [Act.put, List.setIfInBounds_toArray, List.set_cons_zero, List.set_cons_succ])
                refine wpAny_take (i := 13) (v := ?_) rfl (by kernel_rfl) (by kernel_rfl) (by kernel_rfl) (fun _ _ _ h => h) (Or.inl ⟨by rfl, ?_⟩) ?_; rotate_left; focus ((intro w; go_simp) <;> with_reducible rfl); (try simp only [Act.put, List.setIfInBounds_toArray, List.set_cons_zero, List.set_cons_succ])
                refine wpAny_take (i := 14) (v := undef) rfl (by kernel_rfl) (by kernel_rfl) (by kernel_rfl) (fun _ _ _ h => h) (Or.inr ⟨by kernel_rfl, rfl⟩) ?_; (try simp only [Act.put, List.setIfInBounds_toArray, List.set_cons_zero, List.set_cons_succ])
                refine wpAny_take (i := 15) (v := undef) rfl (by kernel_rfl) (by kernel_rfl) (by kernel_rfl) (fun _ _ _ h => h) (Or.inr ⟨by kernel_rfl, rfl⟩) ?_; (try simp only [Act.put, List.setIfInBounds_toArray, List.set_cons_zero, List.set_cons_succ])
                refine wpAny_take (i := 16) (v := undef) rfl (by kernel_rfl) (by kernel_rfl) (by kernel_rfl) (fun _ _ _ h => h) (Or.inr ⟨by kernel_rfl, rfl⟩) ?_; (try simp only [Act.put, List.setIfInBounds_toArray, List.set_cons_zero, List.set_cons_succ])
                refine wpAny_take (i := 17) (v := undef) rfl (by kernel_rfl) (by kernel_rfl) (by kernel_rfl) (fun _ _ _ h => h) (Or.inr ⟨by kernel_rfl, rfl⟩) ?_; (try simp only [Act.put, List.setIfInBounds_toArray, List.set_cons_zero, List.set_cons_succ])
                refine wpAny_take (i := 18) (v := undef) rfl (by kernel_rfl) (by kernel_rfl) (by kernel_rfl) (fun _ _ _ h => h) (Or.inr ⟨by kernel_rfl, rfl⟩) ?_; (try simp only [Act.put, List.setIfInBounds_toArray, List.set_cons_zero, List.set_cons_succ])
                refine wpAny_take (i := 19) (v := ?_) rfl (by kernel_rfl) (by kernel_rfl) (by kernel_rfl) (fun _ _ _ h => h) (Or.inl ⟨by rfl, ?_⟩) ?_; rotate_left; focus ((intro w; go_simp) <;> with_reducible rfl); (try simp only [Act.put, List.setIfInBounds_toArray, List.set_cons_zero, List.set_cons_succ])
                refine wpAny_take (i := 20) (v := ?_) rfl (by kernel_rfl) (by kernel_rfl) (by kernel_rfl) (fun _ _ _ h => h) (Or.inl ⟨by rfl, ?_⟩) ?_; rotate_left; focus ((intro w; go_simp) <;> with_reducible rfl); (try simp only [Act.put, List.setIfInBounds_toArray, List.set_cons_zero, List.set_cons_succ])
                refine wpAny_take (i := 22) (v := ?_) rfl (by kernel_rfl) (by kernel_rfl) (by kernel_rfl) (fun _ _ _ h => h) (Or.inl ⟨by rfl, ?_⟩) ?_; rotate_left; focus ((intro w; go_simp) <;> with_reducible rfl); (try simp only [Act.put, List.setIfInBounds_toArray, List.set_cons_zero, List.set_cons_succ])
                refine wpAny_ready (rs := [23]) (by kernel_rfl) (by simp) ?_; refine AllReady.cons rfl (fun KK hKK => ?_) AllReady.nil; go_simp; refine hKK _ _ ?_; clear hKK KK; (try simp only [Act.put, List.setIfInBounds_toArray, List.set_cons_zero, List.set_cons_succ])
                refine wpAny_done (by kernel_rfl) ?_ _
                refine NoPanic.normal ?_
                go_wp2_with fail
                go_roundw
                case rel => exact ⟨j + 1, _, by omega, by omega, by go_num, hnew.out, hst.out _ (by simp []), hres.out _, hfr.out _⟩
                case measure => simp [intOf] <;> omega

              · go_wp2_with fail
                refine wp_region_noPanic ?_
                refine wp_region_any (by kernel_rfl) ?_
                try (change wpAny _ _ _ _ _ _ _ (World.drew _))
                refine wpAny_take (i := 0) (v := ?_) rfl (by kernel_rfl) (by kernel_rfl) (by kernel_rfl) (fun _ _ _ h => h) (Or.inl ⟨by rfl, ?_⟩) ?_; rotate_left; focus ((intro w; go_simp) <;> with_reducible rfl); (try simp only [Act.put, List.setIfInBounds_toArray, List.set_cons_zero, List.set_cons_succ])
                refine wpAny_take (i := 1) (v := ?_) rfl (by kernel_rfl) (by kernel_rfl) (by kernel_rfl) (fun _ _ _ h => h) (Or.inl ⟨by rfl, ?_⟩) ?_; rotate_left; focus ((intro w; go_simp) <;> with_reducible rfl); (try simp only [Act.put, List.setIfInBounds_toArray, List.set_cons_zero, List.set_cons_succ])
                refine wpAny_take (i := 2) (v := ?_) rfl (by kernel_rfl) (by kernel_rfl) (by kernel_rfl) (fun _ _ _ h => h) (Or.inl ⟨by rfl, ?_⟩) ?_; rotate_left; focus ((intro w; go_simp) <;> with_reducible rfl); (try simp only [Act.put, List.setIfInBounds_toArray, List.set_cons_zero, List.set_cons_succ])
                refine wpAny_take (i := 3) (v := ?_) rfl (by kernel_rfl) (by kernel_rfl) (by kernel_rfl) (fun _ _ _ h => h) (Or.inl ⟨by rfl, ?_⟩) ?_; rotate_left; focus ((intro w; go_simp) <;> with_reducible rfl); (try simp only [Act.put, List.setIfInBounds_toArray, List.set_cons_zero, List.set_cons_succ])
                refine wpAny_take (i := 4) (v := ?_) rfl (by kernel_rfl) (by kernel_rfl) (by kernel_rfl) (fun _ _ _ h => h) (Or.inl ⟨by rfl, ?_⟩) ?_; rotate_left; focus ((intro w; go_simp) <;> with_reducible rfl); (try simp only [Act.put, List.setIfInBounds_toArray, List.set_cons_zero, List.set_cons_succ])
                refine wpAny_take (i := 5) (v := ?_) rfl (by kernel_rfl) (by kernel_rfl) (by kernel_rfl) (fun _ _ _ h => h) (Or.inl ⟨by rfl, ?_⟩) ?_; rotate_left; focus ((intro w; go_simp) <;> with_reducible rfl); (try simp only [Act.put, List.setIfInBounds_toArray, List.set_cons_zero, List.set_cons_succ])
                refine wpAny_take (i := 21) (v := ?_) rfl (by kernel_rfl) (by kernel_rfl) (by kernel_rfl) (fun _ _ _ h => h) (Or.inl ⟨by rfl, ?_⟩) ?_; rotate_left; focus ((intro w; go_simp) <;> with_reducible rfl); (try simp only [Act.put, List.setIfInBounds_toArray, List.set_cons_zero, List.set_cons_succ])
                refine wpAny_ready (rs := [6]) (by kernel_rfl) (by simp) ?_; refine AllReady.cons rfl (fun KK hKK => ?_) AllReady.nil; go_simp; refine hKK _ _ ?_; clear hKK KK; (try simp only [Act.put, List.setIfInBounds_toArray, List.set_cons_zero, List.set_cons_succ])
                refine wpAny_take (i := 7) (v := ?_) rfl (by kernel_rfl) (by kernel_rfl) (by kernel_rfl) (fun _ _ _ h => h) (Or.inl ⟨by rfl, ?_⟩) ?_; rotate_left; focus ((intro w; go_simp) <;> with_reducible rfl); (try simp only [Act.put, List.setIfInBounds_toArray, List.set_cons_zero, List.set_cons_succ])
                refine wpAny_take (i := 8) (v := ?_) rfl (by kernel_rfl) (by kernel_rfl) (by kernel_rfl) (fun _ _ _ h => h) (Or.inl ⟨by rfl, ?_⟩) ?_; rotate_left; focus ((intro w; go_simp) <;> with_reducible rfl); (try simp only [Act.put, List.setIfInBounds_toArray, List.set_cons_zero, List.set_cons_succ])
                refine wpAny_take (i := 9) (v := ?_) rfl (by kernel_rfl) (by kernel_rfl) (by kernel_rfl) (fun _ _ _ h => h) (Or.inl ⟨by rfl, ?_⟩) ?_; rotate_left; focus ((intro w; go_simp) <;> with_reducible rfl); (try simp only [Act.put, List.setIfInBounds_toArray, List.set_cons_zero, List.set_cons_succ])
                refine wpAny_take (i := 10) (v := ?_) rfl (by kernel_rfl) (by kernel_rfl) (by kernel_rfl) (fun _ _ _ h => h) (Or.inl ⟨by rfl, ?_⟩) ?_; rotate_left; focus ((intro w; go_simp) <;> with_reducible rfl); (try simp only [Act.put, List.setIfInBounds_toArray, List.set_cons_zero, List.set_cons_succ])
                refine wpAny_take (i := 11) (v := ?_) rfl (by kernel_rfl) (by kernel_rfl) (by kernel_rfl) (fun _ _ _ h => h) (Or.inl ⟨by rfl, ?_⟩) ?_; rotate_left; focus ((intro w; go_simp) <;> with_reducible rfl); (try simp only [Act.put, List.setIfInBounds_toArray, List.set_cons_zero, List.set_cons_succ])
                refine wpAny_ready (rs := [12]) (by kernel_rfl) (by simp) ?_; refine AllReady.cons rfl (fun KK hKK => ?_) AllReady.nil; go_simp; refine hKK _ _ ?_; clear hKK KK; (try simp only [Act.put, List.setIfInBounds_toArray, List.set_cons_zero, List.set_cons_succ])
                refine wpAny_take (i := 13) (v := ?_) rfl (by kernel_rfl) (by kernel_rfl) (by kernel_rfl) (fun _ _ _ h => h) (Or.inl ⟨by rfl, ?_⟩) ?_; rotate_left; focus ((intro w; go_simp) <;> with_reducible rfl); (try simp only [Act.put, List.setIfInBounds_toArray, List.set_cons_zero, List.set_cons_succ])
                refine wpAny_take (i := 14) (v := ?_) rfl (by kernel_rfl) (by kernel_rfl) (by kernel_rfl) (fun _ _ _ h => h) (Or.inl ⟨by rfl, ?_⟩) ?_; rotate_left; focus ((intro w; go_simp) <;> with_reducible rfl); (try simp only [Act.put, List.setIfInBounds_toArray, List.set_cons_zero, List.set_cons_succ])
                refine wpAny_take (i := 15) (v := ?_) rfl (by kernel_rfl) (by kernel_rfl) (by kernel_rfl) (fun _ _ _ h => h) (Or.inl ⟨by rfl, ?_⟩) ?_; rotate_left; focus ((intro w; go_simp) <;> with_reducible rfl); (try simp only [Act.put, List.setIfInBounds_toArray, List.set_cons_zero, List.set_cons_succ])
                refine wpAny_take (i := 16) (v := ?_) rfl (by kernel_rfl) (by kernel_rfl) (by kernel_rfl) (fun _ _ _ h => h) (Or.inl ⟨by rfl, ?_⟩) ?_; rotate_left; focus ((intro w; go_simp) <;> with_reducible rfl); (try simp only [Act.put, List.setIfInBounds_toArray, List.set_cons_zero, List.set_cons_succ])
                refine wpAny_take (i := 17) (v := ?_) rfl (by kernel_rfl) (by kernel_rfl) (by kernel_rfl) (fun _ _ _ h => h) (Or.inl ⟨by rfl, ?_⟩) ?_; rotate_left; focus ((intro w; go_simp) <;> with_reducible rfl); (try simp only [Act.put, List.setIfInBounds_toArray, List.set_cons_zero, List.set_cons_succ])
                refine wpAny_ready (rs := [18]) (by kernel_rfl) (by simp) ?_; refine AllReady.cons rfl (fun KK hKK => ?_) AllReady.nil; go_simp; refine hKK _ _ ?_; clear hKK KK; (try simp only [Act.put, List.setIfInBounds_toArray, List.set_cons_zero, List.set_cons_succ])
                refine wpAny_take (i := 19) (v := ?_) rfl (by kernel_rfl) (by kernel_rfl) (by kernel_rfl) (fun _ _ _ h => h) (Or.inl ⟨by rfl, ?_⟩) ?_; rotate_left; focus ((intro w; go_simp) <;> with_reducible rfl); (try simp only [Act.put, List.setIfInBounds_toArray, List.set_cons_zero, List.set_cons_succ])
                refine wpAny_take (i := 20) (v := ?_) rfl (by kernel_rfl) (by kernel_rfl) (by kernel_rfl) (fun _ _ _ h => h) (Or.inl ⟨by rfl, ?_⟩) ?_; rotate_left; focus ((intro w; go_simp) <;> with_reducible rfl); (try simp only [Act.put, List.setIfInBounds_toArray, List.set_cons_zero, List.set_cons_succ])
                refine wpAny_take (i := 22) (v := ?_) rfl (by kernel_rfl) (by kernel_rfl) (by kernel_rfl) (fun _ _ _ h => h) (Or.inl ⟨by rfl, ?_⟩) ?_; rotate_left; focus ((intro w; go_simp) <;> with_reducible rfl); (try simp only [Act.put, List.setIfInBounds_toArray, List.set_cons_zero, List.set_cons_succ])
                refine wpAny_ready (rs := [23]) (by kernel_rfl) (by simp) ?_; refine AllReady.cons rfl (fun KK hKK => ?_) AllReady.nil; go_simp; refine hKK _ _ ?_; clear hKK KK; (try simp only [Act.put, List.setIfInBounds_toArray, List.set_cons_zero, List.set_cons_succ])
                refine wpAny_done (by kernel_rfl) ?_ _
                refine NoPanic.normal ?_
                go_wp2_with fail
                go_roundw
                case rel => exact ⟨j + 1, _, by omega, by omega, by go_num, hnew.out, hst.out _ (by simp []), hres.out _, hfr.out _⟩
                case measure => simp [intOf] <;> omega

            · go_wp2_with fail
              refine wp_region_noPanic ?_
              refine wp_region_any (by kernel_rfl) ?_
              try (change wpAny _ _ _ _ _ _ _ (World.drew _))
              refine wpAny_take (i := 0) (v := ?_) rfl (by kernel_rfl) (by kernel_rfl) (by kernel_rfl) (fun _ _ _ h => h) (Or.inl ⟨by rfl, ?_⟩) ?_; rotate_left; focus ((intro w; go_simp) <;> with_reducible rfl); (try simp only [Act.put, List.setIfInBounds_toArray, List.set_cons_zero, List.set_cons_succ])
              refine wpAny_take (i := 1) (v := ?_) rfl (by kernel_rfl) (by kernel_rfl) (by kernel_rfl) (fun _ _ _ h => h) (Or.inl ⟨by rfl, ?_⟩) ?_; rotate_left; focus ((intro w; go_simp) <;> with_reducible rfl); (try simp only [Act.put, List.setIfInBounds_toArray, List.set_cons_zero, List.set_cons_succ])
              refine wpAny_take (i := 2) (v := ?_) rfl (by kernel_rfl) (by kernel_rfl) (by kernel_rfl) (fun _ _ _ h => h) (Or.inl ⟨by rfl, ?_⟩) ?_; rotate_left; focus ((intro w; go_simp) <;> with_reducible rfl); (try simp only [Act.put, List.setIfInBounds_toArray, List.set_cons_zero, List.set_cons_succ])
              refine wpAny_take (i := 3) (v := ?_) rfl (by kernel_rfl) (by kernel_rfl) (by kernel_rfl) (fun _ _ _ h => h) (Or.inl ⟨by rfl, ?_⟩) ?_; rotate_left; focus ((intro w; go_simp) <;> with_reducible rfl); (try simp only [Act.put, List.setIfInBounds_toArray, List.set_cons_zero, List.set_cons_succ])
              refine wpAny_take (i := 4) (v := ?_) rfl (by kernel_rfl) (by kernel_rfl) (by kernel_rfl) (fun _ _ _ h => h) (Or.inl ⟨by rfl, ?_⟩) ?_; rotate_left; focus ((intro w; go_simp) <;> with_reducible rfl); (try simp only [Act.put, List.setIfInBounds_toArray, List.set_cons_zero, List.set_cons_succ])
              refine wpAny_take (i := 5) (v := ?_) rfl (by kernel_rfl) (by kernel_rfl) (by kernel_rfl) (fun _ _ _ h => h) (Or.inl ⟨by rfl, ?_⟩) ?_; rotate_left; focus ((intro w; go_simp) <;> with_reducible rfl); (try simp only [Act.put, List.setIfInBounds_toArray, List.set_cons_zero, List.set_cons_succ])
              refine wpAny_take (i := 21) (v := ?_) rfl (by kernel_rfl) (by kernel_rfl) (by kernel_rfl) (fun _ _ _ h => h) (Or.inl ⟨by rfl, ?_⟩) ?_; rotate_left; focus ((intro w; go_simp) <;> with_reducible rfl); (try simp only [Act.put, List.setIfInBounds_toArray, List.set_cons_zero, List.set_cons_succ])
              refine wpAny_ready (rs := [6]) (by kernel_rfl) (by simp) ?_; refine AllReady.cons rfl (fun KK hKK => ?_) AllReady.nil; go_simp; refine hKK _ _ ?_; clear hKK KK; (try simp only [Act.put, List.setIfInBounds_toArray, List.set_cons_zero, List.set_cons_succ])
              refine wpAny_take (i := 7) (v := ?_) rfl (by kernel_rfl) (by kernel_rfl) (by kernel_rfl) (fun _ _ _ h => h) (Or.inl ⟨by rfl, ?_⟩) ?_; rotate_left; focus ((intro w; go_simp) <;> with_reducible rfl); (try simp only [Act.put, List.setIfInBounds_toArray, List.set_cons_zero, List.set_cons_succ])
              refine wpAny_take (i := 8) (v := undef) rfl (by kernel_rfl) (by kernel_rfl) (by kernel_rfl) (fun _ _ _ h => h) (Or.inr ⟨by kernel_rfl, rfl⟩) ?_; (try simp only [Act.put, List.setIfInBounds_toArray, List.set_cons_zero, List.set_cons_succ])
              refine wpAny_take (i := 9) (v := undef) rfl (by kernel_rfl) (by kernel_rfl) (by kernel_rfl) (fun _ _ _ h => h) (Or.inr ⟨by kernel_rfl, rfl⟩) ?_; (try simp only [Act.put, List.setIfInBounds_toArray, List.set_cons_zero, List.set_cons_succ])
              refine wpAny_take (i := 10) (v := undef) rfl (by kernel_rfl) (by kernel_rfl) (by kernel_rfl) (fun _ _ _ h => h) (Or.inr ⟨by kernel_rfl, rfl⟩) ?_; (try simp only [Act.put, List.setIfInBounds_toArray, List.set_cons_zero, List.set_cons_succ])
              refine wpAny_take (i := 11) (v := undef) rfl (by kernel_rfl) (by kernel_rfl) (by kernel_rfl) (fun _ _ _ h => h) (Or.inr ⟨by kernel_rfl, rfl⟩) ?_; (try simp only [Act.put, List.setIfInBounds_toArray, List.set_cons_zero, List.set_cons_succ])
              refine wpAny_take (i := 12) (v := undef) rfl (by kernel_rfl) (by kernel_rfl) (by kernel_rfl) (fun _ _ _ h => h) (Or.inr ⟨by kernel_rfl, rfl⟩) ?_; (try simp only [Act.put, List.setIfInBounds_toArray, List.set_cons_zero, List.set_cons_succ])
              refine wpAny_take (i := 13) (v := undef) rfl (by kernel_rfl) (by kernel_rfl) (by kernel_rfl) (fun _ _ _ h => h) (Or.inr ⟨by kernel_rfl, rfl⟩) ?_; (try simp only [Act.put, List.setIfInBounds_toArray, List.set_cons_zero, List.set_cons_succ])
              refine wpAny_take (i := 14) (v := undef) rfl (by kernel_rfl) (by kernel_rfl) (by kernel_rfl) (fun _ _ _ h => h) (Or.inr ⟨by kernel_rfl, rfl⟩) ?_; (try simp only [Act.put, List.setIfInBounds_toArray, List.set_cons_zero, List.set_cons_succ])
              refine wpAny_take (i := 15) (v := undef) rfl (by kernel_rfl) (by kernel_rfl) (by kernel_rfl) (fun _ _ _ h => h) (Or.inr ⟨by kernel_rfl, rfl⟩) ?_; (try simp only [Act.put, List.setIfInBounds_toArray, List.set_cons_zero, List.set_cons_succ])
              refine wpAny_take (i := 16) (v := undef) rfl (by kernel_rfl) (by kernel_rfl) (by kernel_rfl) (fun _ _ _ h => h) (Or.inr ⟨by kernel_rfl, rfl⟩) ?_; (try simp only [Act.put, List.setIfInBounds_toArray, List.set_cons_zero, List.set_cons_succ])
              refine wpAny_take (i := 17) (v := undef) rfl (by kernel_rfl) (by kernel_rfl) (by kernel_rfl) (fun _ _ _ h => h) (Or.inr ⟨by kernel_rfl, rfl⟩) ?_; (try simp only [Act.put, List.setIfInBounds_toArray, List.set_cons_zero, List.set_cons_succ])
              refine wpAny_take (i := 18) (v := undef) rfl (by kernel_rfl) (by kernel_rfl) (by kernel_rfl) (fun _ _ _ h => h) (Or.inr ⟨by kernel_rfl, rfl⟩) ?_; (try simp only [Act.put, List.setIfInBounds_toArray, List.set_cons_zero, List.set_cons_succ])
              refine wpAny_take (i := 19) (v := undef) rfl (by kernel_rfl) (by kernel_rfl) (by kernel_rfl) (fun _ _ _ h => h) (Or.inr ⟨by kernel_rfl, rfl⟩) ?_; (try simp only [Act.put, List.setIfInBounds_toArray, List.set_cons_zero, List.set_cons_succ])
              refine wpAny_take (i := 20) (v := ?_) rfl (by kernel_rfl) (by kernel_rfl) (by kernel_rfl) (fun _ _ _ h => h) (Or.inl ⟨by rfl, ?_⟩) ?_; rotate_left; focus ((intro w; go_simp) <;> with_reducible rfl); (try simp only [Act.put, List.setIfInBounds_toArray, List.set_cons_zero, List.set_cons_succ])
              refine wpAny_take (i := 22) (v := ?_) rfl (by kernel_rfl) (by kernel_rfl) (by kernel_rfl) (fun _ _ _ h => h) (Or.inl ⟨by rfl, ?_⟩) ?_; rotate_left; focus ((intro w; go_simp) <;> with_reducible rfl); (try simp only [Act.put, List.setIfInBounds_toArray, List.set_cons_zero, List.set_cons_succ])
              refine wpAny_ready (rs := [23]) (by kernel_rfl) (by simp) ?_; refine AllReady.cons rfl (fun KK hKK => ?_) AllReady.nil; go_simp; refine hKK _ _ ?_; clear hKK KK; (try simp only [Act.put, List.setIfInBounds_toArray, List.set_cons_zero, List.set_cons_succ])
              refine wpAny_done (by kernel_rfl) ?_ _
              refine NoPanic.normal ?_
              go_wp2_with fail
              go_roundw
              case rel => exact ⟨j + 1, _, by omega, by omega, by go_num, hnew.out, hst.out _ (by simp []), hres.out _, hfr.out _⟩
              case measure => simp [intOf] <;> omega

          · obtain rfl : i = k := by omega
            have hf2 := hid (fun (p q : Nat) (h1 : p < q) (h2 : q < a.length) => (show f p q = wars (pairR a b x) (i + 1) p q from by
              rw [hf.out p q h1 h2]
              by_cases e : p < i
              · rw [if_pos e]
              · rw [if_neg e, wars_out (by omega)]))
            clear hf
            go_wp2_with fail
            go_roundw
            case rel => exact ⟨i + 1, f, by omega, by go_num, hf2.out, hB.out, hA.out, hb.out⟩
            case measure => simp [intOf] <;> omega
        · obtain rfl : k = a.length := by omega
          have hT := hid (fun (p q : Nat) (h1 : p < q) (h2 : q < a.length) => (hf.out p q h1 h2).trans (wars_eq h1 h2))
          clear hf
          have hb0 := hid hb.out
          obtain ⟨tA, hgA⟩ := hA.out
          obtain ⟨tB, hgB⟩ := hB.out
          replace hgA := hid hgA
          replace hgB := hid hgB
          clear hA hB hb
          go_wp2_with (first | (refine wpList_load_row rfl 52 _ rfl (w.heap.size + 1) rfl tB (prs f).toArray (0, 0) _ hgB.out pairsU rfl (pairsI f) ?_) | (refine wpList_store_row rfl 52 _ _ rfl w.heap.size (prs f).toArray rfl rfl tA _ hgA.out (pairsI f) (by simp) (prs_one f) ?_))
          refine bodyPost_ret (v := .agg (prs f).toArray) (results_cell_row rfl _ _ w.heap.size tA _ (0, 0) _ rfl (setRow_heap _ _ _ _ _ _ hgA.out) pairsU rfl (pairsI f)) rfl ⟨f, rfl, hT.out, hb0.out.grown (grown_setRow _ _ _) hb0.out.size (fun q hq => by injection hq with hq; omega)⟩



end Go.Proofs.Ytgibgcjpehcemaa

namespace Go.Proofs.Ytgibgcjpehcemaa
open Go.RowKit

set_option maxHeartbeats 8000000 in
theorem with_impl (n : Nat) (f : Nat → Nat → Bool) (x : Bool) (w : World) (hn : n ≤ 12) :
    Calls Try.prog 54 #[.int .i64 (n : Int), .agg (prs f).toArray, .bool x] w fun e w' => ∃ u, e = .returned u ∧ Own w' w.heap.size 2 u (ints (rkL (fun i j => f i j == x) n)) ∧ Below w.heap.size w w' := by
  have hX := Bx.new w (prs f).toArray 52
  have hbX : Below w.heap.size w (w.alloc (.cells (prs f).toArray 52)) := (Below.refl _ _).alloc (Nat.le_refl _) _
  have hmk := make_run sliceI infoI rfl n (by omega) (by omega) (by omega)
  simp only [Int.toNat_natCast] at hmk
  have hsz : (w.alloc (.cells (prs f).toArray 52)).heap.size = w.heap.size + 1 := by simp
  have hO := own_made (w.alloc (.cells (prs f).toArray 52)) 2 n (.int .i64 0) (by omega) (B := w.heap.size + 1) (by omega)
  have hbO := hbX.trans ((below_made (w.alloc (.cells (prs f).toArray 52)) 2 (.int .i64 0) n).mono (by simp))
  have hXO := hX.below (below_made (w.alloc (.cells (prs f).toArray 52)) 2 (.int .i64 0) n)
  have e0 : List.replicate n (Value.int .i64 0) = ints (stL (fun i j => f i j == x) n 0 1) := by rw [stL_start]; simp [ints]
  rw [e0] at hO
  clear e0 hX hbX
  replace hO := hid hO
  replace hbO := hid hbO
  replace hXO := hid hXO
  replace hsz := hid hsz
  go_enter Try.func54, Try.ntmps54
  go_wp2_with fail
  generalize madeV (w.alloc (.cells (prs f).toArray 52)) n = V at *
  generalize madeW (w.alloc (.cells (prs f).toArray 52)) 2 (.int .i64 0) n = w0 at *
  clear hmk hsz
  go_loopw [8, 9, 13] (fun _ _ c wr => ∃ i : Nat, i ≤ n ∧ c = .int .i64 i ∧ Own wr (w.heap.size + 1) 2 V (ints (stL (fun i j => f i j == x) n i (i + 1))) ∧ Bx wr w.heap.size (prs f) ∧ Below w.heap.size w wr) (fun _ _ c _ => n - (intOf c).toNat)
  case atStart => exact ⟨0, by omega, rfl, hO.out, hXO.out, hbO.out⟩
  case round =>
    clear hO hXO hbO
    obtain ⟨i, hi, rfl, hO, hX, hb⟩ := hrel
    by_cases hlt : i < n
    · replace hO := hid hO
      replace hX := hid hX
      replace hb := hid hb
      go_wp2_with fail
      rename World => wF
      go_loopw [9] (fun c wr => ∃ j : Nat, i < j ∧ j ≤ n ∧ c = .int .i64 j ∧ Own wr (w.heap.size + 1) 2 V (ints (stL (fun i j => f i j == x) n i j)) ∧ Bx wr w.heap.size (prs f) ∧ Below w.heap.size w wr) (fun c _ => n - (intOf c).toNat)
      case atStart => exact ⟨i + 1, by omega, by omega, by go_num, hO.out, hX.out, hb.out⟩
      case round =>
        clear hO hX hb
        obtain ⟨j, hij, hj, rfl, hO, hX, hb⟩ := hrel
        by_cases hlt2 : j < n
        · have i0 : (0 : Int) ≤ (i : Int) := by omega
          have i12 : (i : Int) < 12 := by omega
          have j0 : (0 : Int) ≤ (j : Int) := by omega
          have j12 : (j : Int) < 12 := by omega
          have d1 := hX.cell (i * 12 + j) (prs_at (by omega) (by omega))
          by_cases hv : (f i j == x) = true
          case' pos => have ⟨t, ht, hs, ht2⟩ : ∃ t, i = t ∧ (stL (fun i j => f i j == x) n i j).set t (nth (stL (fun i j => f i j == x) n i j) t + 1) = stL (fun i j => f i j == x) n i (j + 1) ∧ t < n := ⟨i, rfl, stL_yes (E := fun i j => f i j == x) hij hlt2 hv, hlt⟩
          case' neg => have ⟨t, ht, hs, ht2⟩ : ∃ t, j = t ∧ (stL (fun i j => f i j == x) n i j).set t (nth (stL (fun i j => f i j == x) n i j) t + 1) = stL (fun i j => f i j == x) n i (j + 1) ∧ t < n := ⟨j, rfl, stL_no (E := fun i j => f i j == x) hij hlt2 (by simpa using hv), hlt2⟩
          all_goals
            have hbd := stL_bd (E := fun i j => f i j == x) (n := n) (i := i) (j := j) ht2 hlt (by omega)
            have ia := hO.reads.idx (P := Try.prog) 22 sliceI sizeI .i64 (t : Int) (by omega) (by simp; omega)
            simp only [Int.toNat_natCast] at ia
            have ca := hO.reads.int (i := t) (by simp; omega)
            have fa := hO.frozen (i := t) (by simp; omega)
            have ab := (hO.adr_blk (i := t) (by simp; omega)).2.1
            have hst := hO.set (i := t) (by simp; omega) (.int .i64 (nth (stL (fun i j => f i j == x) n i j) t + 1))
            rw [ints_set, hs] at hst
            have hXs := hX.other (a := adr V t) (by omega) (.int .i64 (nth (stL (fun i j => f i j == x) n i j) t + 1))
            have hbs := hb.setCell (p := adr V t) (by omega) (.int .i64 (nth (stL (fun i j => f i j == x) n i j) t + 1))
            generalize nth (stL (fun i j => f i j == x) n i j) t = y at *
            replace hst := hid hst
            replace hXs := hid hXs
            replace hbs := hid hbs
            replace hs := hid hs
            clear hO hX hb
            generalize f i j = v1 at *
            subst ht
            cases v1 <;> cases x <;> simp at hv
            all_goals
              go_wp2_with fail
              go_roundw
              case rel => exact ⟨j + 1, by omega, by omega, by go_num, hst.out, hXs.out, hbs.out⟩
              case measure => simp [intOf] <;> omega
        · obtain rfl : j = n := by omega
          rw [stL_row _ hlt] at hO
          replace hO := hid hO
          replace hX := hid hX
          replace hb := hid hb
          go_wp2_with fail
          go_roundw
          case rel => exact ⟨i + 1, by omega, by go_num, hO.out, hX.out, hb.out⟩
          case measure => simp [intOf] <;> omega
    · obtain rfl : i = n := by omega
      rw [stL_end] at hO
      replace hO := hid hO
      replace hX := hid hX
      replace hb := hid hb
      go_wp2_with fail
      go_ret
      exact ⟨_, rfl, hO.out.mono (by omega), hb.out⟩


end Go.Proofs.Ytgibgcjpehcemaa

namespace Go.Proofs.Ytgibgcjpehcemaa
open Go.RowKit
set_option linter.unusedSimpArgs false

/-- n rows of n cells -/
def tab (n : Nat) (f : Nat → Nat → Bool) : List Value := (List.range (n * n)).map fun q => Value.bool (f (q / n) (q % n))
@[simp] theorem length_tab (n : Nat) (f : Nat → Nat → Bool) : (tab n f).length = n * n := by simp [tab]
theorem ij_lt {n i j : Nat} (hi : i < n) (hj : j < n) : i * n + j < n * n := by
  have := Nat.mul_le_mul_right n (show i + 1 ≤ n by omega)
  rw [Nat.add_mul] at this; omega
theorem ij_div {n i j : Nat} (hj : j < n) : (i * n + j) / n = i := by
  rw [Nat.add_comm, Nat.add_mul_div_right _ _ (by omega), Nat.div_eq_of_lt hj]; omega
theorem ij_mod {n i j : Nat} (hj : j < n) : (i * n + j) % n = j := by
  rw [Nat.add_comm, Nat.add_mul_mod_self_right, Nat.mod_eq_of_lt hj]
theorem tab_at {n : Nat} {f : Nat → Nat → Bool} {i j : Nat} (hi : i < n) (hj : j < n) : (tab n f)[i * n + j]? = some (.bool (f i j)) := by
  simp [tab, ij_lt hi hj, ij_div hj, ij_mod hj]
theorem tab_set {n : Nat} {f : Nat → Nat → Bool} {i j : Nat} (hi : i < n) (hj : j < n) (b : Bool) : (tab n f).set (i * n + j) (.bool b) = tab n (upd f i j b) := by
  apply List.ext_getElem?
  intro q
  rw [List.getElem?_set]
  by_cases h : i * n + j = q
  · subst h
    have h2 := ij_lt hi hj
    simp [tab, upd, h2, ij_div hj, ij_mod hj]
  · rw [if_neg h]
    by_cases h2 : q < n * n
    · have e : ¬ (q / n = i ∧ q % n = j) := by
        rintro ⟨rfl, rfl⟩
        exact h (by rw [Nat.mul_comm]; exact Nat.div_add_mod q n)
      simp [tab, upd, h2, e]
    · simp [tab, h2]
theorem tab_zero (n : Nat) : List.replicate (n * n) (Value.bool false) = tab n (fun _ _ => false) := by
  apply List.ext_getElem?
  intro q
  by_cases h : q < n * n
  · simp [tab, h]
  · simp [tab, h]
theorem tab_idx {w : World} {V : Value} {n : Nat} {f : Nat → Nat → Bool} {B : Nat} (h : Own w B 4 V (tab n f)) {i j : Nat} (hi : i < n) (hj : j < n) (w' : World) :
    (Instr.indexAt 64 V (.int .i64 ((i : Int) * (n : Int) + (j : Int)))).run Try.prog w' = .ok (.pointer (some (adr V (i * n + j)))) w' := by
  have := h.reads.idx (P := Try.prog) 64 sliceB sizeB .i64 ((i * n + j : Nat) : Int) (by omega) (by have := ij_lt hi hj; rw [length_tab]; omega) w'
  rw [Int.toNat_natCast, Int.natCast_add, Int.natCast_mul] at this
  exact this
theorem ij_bd {n i : Nat} (hn : n ≤ 12) (hi : i ≤ n) : 0 ≤ (i : Int) * (n : Int) ∧ (i : Int) * (n : Int) ≤ 144 := by
  have h : i * n ≤ 12 * 12 := Nat.mul_le_mul (by omega) hn
  have e : ((i * n : Nat) : Int) = (i : Int) * (n : Int) := Int.natCast_mul i n
  omega

set_option maxHeartbeats 2000000 in
theorem turn_spec (v : Value) (l : List Int) (w : World) (h : Reads w v (ints l)) (hl : l.length ≤ 12) (hr : ∀ i, i < l.length → 0 ≤ nth l i ∧ nth l i ≤ l.length) :
    Calls Try.prog 56 #[v] w fun e w' => ∃ u, e = .returned u ∧ Own w' w.heap.size 2 u (ints (turnF l)) ∧ Below w.heap.size w w' := by
  have hlen := h.len (P := Try.prog) 22 3 ⟨_, sliceI⟩
  simp only [length_ints] at hlen
  have hO := own_empty w 2 (B := w.heap.size) (Nat.le_refl _)
  have hbO : Below w.heap.size w (w.alloc (.cells #[] 2)) := (Below.refl _ _).alloc (Nat.le_refl _) _
  go_enter Try.func56, Try.ntmps56
  go_wp2_with fail
  go_loopw [3, 4] (fun o c wr => ∃ k : Nat, k ≤ l.length ∧ c = .int .i64 k ∧ Own wr w.heap.size 2 o (ints ((turnF l).take k)) ∧ Below w.heap.size w wr) (fun _ c _ => l.length - (intOf c).toNat)
  case atStart => exact ⟨0, by omega, rfl, by simpa [ints] using hO, hbO⟩
  case round =>
    clear hO hbO
    obtain ⟨k, hk, rfl, hO, hb⟩ := hrel
    by_cases hlt : k < l.length
    · have hi := h.idx (P := Try.prog) 22 sliceI sizeI .i64 (k : Int) (by omega) (by simpa using hlt)
      simp only [Int.toNat_natCast] at hi
      have hc := (h.below hb).int hlt
      obtain ⟨r0, r1⟩ := hr k hlt
      obtain ⟨v', w', hrun, hown', hb'⟩ := app_one (ty := 22) (x := .int .i64 ((l.length : Int) - 1 - nth l k)) sliceI infoI rfl hO rfl hb.size (by simp; omega) (by decide) hb (Nat.le_refl _)
      have et : (turnF l).take (k + 1) = (turnF l).take k ++ [(l.length : Int) - 1 - nth l k] := by
        have e := nth_of (l := turnF l) (i := k) (by simpa using hlt)
        rw [List.take_add_one, e, nth_turnF hlt]; rfl
      have hown2 : Own w' w.heap.size 2 v' (ints ((turnF l).take (k + 1))) := by rw [et]; simpa [ints] using hown'
      clear hr hO et hown'
      replace hown2 := hid hown2
      replace hb' := hid hb'
      generalize nth l k = y at *
      go_wp2_with (at_builtin; refine wpList_app hrun rfl _ _ rfl rfl rfl ?_)
      go_roundw
      case rel => exact ⟨k + 1, by omega, by go_num, hown2.out, hb'.out⟩
      case measure => simp [intOf] <;> omega
    · obtain rfl : k = l.length := by omega
      clear hr
      rw [List.take_of_length_le (by simp)] at hO
      go_wp2_with fail
      go_ret
      exact ⟨_, rfl, hO, hb⟩


set_option maxRecDepth 100000 in
set_option maxHeartbeats 16000000 in
theorem close_spec (v u : Value) (a b : List Int) (w : World) (h : Reads w v (ints a)) (h' : Reads w u (ints b)) (hl : a.length = b.length) (hn : a.length ≤ 12) :
    Calls Try.prog 53 #[v, u] w fun e w' => ∃ x, e = .returned x ∧ Own w' w.heap.size 2 x (ints (joinF a b)) ∧ Below w.heap.size w w' := by
  have hlen := h.len (P := Try.prog) 22 3 ⟨_, sliceI⟩
  simp only [length_ints] at hlen
  have hnn := ij_bd hn (Nat.le_refl _)
  have hmk := make_run sliceB infoB rfl ((a.length : Int) * (a.length : Int)) (by omega) (by omega) (by omega)
  have hmk2 := make_run sliceI infoI rfl (a.length : Int) (by omega) (by omega) (by omega)
  have hwn := Go.IntWalk.i64_in ((a.length : Int) * (a.length : Int)) (by omega)
  rw [show ((a.length : Int) * (a.length : Int)).toNat = a.length * a.length from by rw [← Int.natCast_mul, Int.toNat_natCast]] at hmk
  simp only [Int.toNat_natCast] at hmk2
  have hO := own_made w 4 (a.length * a.length) (.bool false) (by have : a.length * a.length ≤ 12 * 12 := Nat.mul_le_mul hn hn; omega) (B := w.heap.size) (Nat.le_refl _)
  have hbO := below_made w 4 (.bool false) (a.length * a.length)
  rw [tab_zero] at hO
  replace hO := hid hO
  replace hbO := hid hbO
  replace hl := hid hl
  replace hnn := hid hnn
  have hmk2h := hid hmk2
  clear hmk2
  go_enter Try.func53, Try.ntmps53
  go_wp2_with fail
  generalize madeV w (a.length * a.length) = V at *
  generalize madeW w 4 (.bool false) (a.length * a.length) = w0 at *
  clear hmk hwn
  go_loopw [7, 8] (fun c _ wr => ∃ (i : Nat) (f : Nat → Nat → Bool), i ≤ a.length ∧ c = .int .i64 i ∧ (∀ p q, p < q → q < a.length → p < i → f p q = orR a b p q) ∧ Own wr w.heap.size 4 V (tab a.length f) ∧ Below w.heap.size w wr) (fun c _ _ => a.length - (intOf c).toNat)
  case atStart => exact ⟨0, _, by omega, rfl, fun p q _ _ h => by omega, hO.out, hbO.out⟩
  case round =>
    clear hO hbO
    obtain ⟨i, f, hi, rfl, hf, hO, hb⟩ := hrel
    replace hf := hid hf
    replace hO := hid hO
    replace hb := hid hb
    by_cases hlt : i < a.length
    · go_wp2_with fail
      rename World => wF
      go_loopw [8] (fun c wr => ∃ (j : Nat) (f : Nat → Nat → Bool), i < j ∧ j ≤ a.length ∧ c = .int .i64 j ∧ (∀ p q, p < q → q < a.length → (p < i ∨ p = i ∧ q < j) → f p q = orR a b p q) ∧ Own wr w.heap.size 4 V (tab a.length f) ∧ Below w.heap.size w wr) (fun c _ => a.length - (intOf c).toNat)
      case atStart => exact ⟨i + 1, f, by omega, by omega, by go_num, fun p q h1 h2 h3 => hf.out p q h1 h2 (by omega), hO.out, hb.out⟩
      case round =>
        clear hf hO hb
        obtain ⟨j, f, hij, hj, rfl, hf, hO, hb⟩ := hrel
        replace hf := hid hf
        by_cases hlt2 : j < a.length
        · have ia := (h.below hb).idx (P := Try.prog) 22 sliceI sizeI .i64 (i : Int) (by omega) (by simp; omega)
          have ja := (h.below hb).idx (P := Try.prog) 22 sliceI sizeI .i64 (j : Int) (by omega) (by simp; omega)
          have ib := (h'.below hb).idx (P := Try.prog) 22 sliceI sizeI .i64 (i : Int) (by omega) (by have := hl.out; simp; omega)
          have jb := (h'.below hb).idx (P := Try.prog) 22 sliceI sizeI .i64 (j : Int) (by omega) (by have := hl.out; simp; omega)
          simp only [Int.toNat_natCast] at ia ja ib jb
          have hbd0 := hid (ij_bd hn hi)
          have wr1 := Go.IntWalk.i64_in ((i : Int) * (a.length : Int)) (by have := hbd0.out; omega)
          have wr2 := Go.IntWalk.i64_in ((i : Int) * (a.length : Int) + (j : Int)) (by have := hbd0.out; omega)
          have iv := tab_idx hO hlt hlt2
          have d1 := hO.reads.cell (i * a.length + j) _ (tab_at hlt hlt2)
          have d2 := hO.frozen (i := i * a.length + j) (by rw [length_tab]; exact ij_lt hlt hlt2)
          have hab := (hO.adr_blk (i := i * a.length + j) (by rw [length_tab]; exact ij_lt hlt hlt2)).2.1
          have hK := hid (fun (w' : World) (hw : Below w.heap.size w w') => (⟨(h.below hw).cell i _ (ints_at (by omega)), (h.below hw).cell j _ (ints_at (by omega)), (h'.below hw).cell i _ (ints_at (by have := hl.out; omega)), (h'.below hw).cell j _ (ints_at (by have := hl.out; omega))⟩ : w'.cell? (adr v i) = some (.int .i64 (nth a i)) ∧ w'.cell? (adr v j) = some (.int .i64 (nth a j)) ∧ w'.cell? (adr u i) = some (.int .i64 (nth b i)) ∧ w'.cell? (adr u j) = some (.int .i64 (nth b j))))
          have hbd := hid hb.drew
          have hbs := hid (fun (z : Value) => hb.drew.setCell (p := adr V (i * a.length + j)) hab z)
          have hfr := hid (fun (z : Value) => hb.drew.setCell (p := adr V (i * a.length + j)) hab z)
          have hst := hid (fun (β : Bool) (hβ : β = orR a b i j) => (show Own (wr.drew.setCell (adr V (i * a.length + j)) (.bool β)) w.heap.size 4 V (tab a.length (upd f i j (orR a b i j))) from by have := (hO.drewN 1).set (i := i * a.length + j) (by rw [length_tab]; exact ij_lt hlt hlt2) (.bool β); rw [tab_set hlt hlt2, hβ] at this; rw [hβ]; exact this))
          have hnew := hid (fun (p q : Nat) (h1 : p < q) (h2 : q < a.length) (h3 : p < i ∨ p = i ∧ q < j + 1) => (show upd f i j (orR a b i j) p q = orR a b p q from by
            unfold upd
            by_cases e : p = i ∧ q = j
            · rw [if_pos e, e.1, e.2]
            · rw [if_neg e]; exact hf.out p q h1 h2 (by omega)))
          clear hO hb hf hab
          by_cases hq : nth b j < nth b i
          all_goals
            by_cases hp : nth a j < nth a i
          all_goals
            first
            | (have hpd : decide (nth a j < nth a i) = true := decide_eq_true hp
               skip
               first | have hqd : decide (nth b j < nth b i) = true := decide_eq_true hq | have hqd : decide (nth b j < nth b i) = false := decide_eq_false hq
               go_wp2_with fail
               refine wp_region_noPanic ?_
               refine wp_region_held_drew (S := (fun w' => w'.cell? (adr v i) = some (.int .i64 (nth a i)) ∧ w'.cell? (adr v j) = some (.int .i64 (nth a j)) ∧ w'.cell? (adr u i) = some (.int .i64 (nth b i)) ∧ w'.cell? (adr u j) = some (.int .i64 (nth b j)))) (by kernel_rfl) ?_ (fun hHeld => ?_)
               focus (first | exact hK.out _ hbd.out | exact hK.out _ (hbs.out _))
               refine wpAnyH_take (i := 0) (v := ?_) rfl (by kernel_rfl) (by kernel_rfl) (by kernel_rfl) (fun _ _ _ h => h) (Or.inl ⟨by kernel_rfl, ?_⟩) (by assumption) ?_; rotate_left; focus ((intro w hSw; (try dsimp only at hSw); go_simp) <;> with_reducible rfl); (try simp only [Act.put, List.setIfInBounds_toArray, List.set_cons_zero, List.set_cons_succ])
               refine wpAnyH_take (i := 1) (v := ?_) rfl (by kernel_rfl) (by kernel_rfl) (by kernel_rfl) (fun _ _ _ h => h) (Or.inl ⟨by kernel_rfl, ?_⟩) (by assumption) ?_; rotate_left; focus ((intro w hSw; (try dsimp only at hSw); go_simp) <;> with_reducible rfl); (try simp only [Act.put, List.setIfInBounds_toArray, List.set_cons_zero, List.set_cons_succ])
               refine wpAnyH_take (i := 2) (v := ?_) rfl (by kernel_rfl) (by kernel_rfl) (by kernel_rfl) (fun _ _ _ h => h) (Or.inl ⟨by kernel_rfl, ?_⟩) (by assumption) ?_; rotate_left; focus ((intro w hSw; (try dsimp only at hSw); go_simp) <;> with_reducible rfl); (try simp only [Act.put, List.setIfInBounds_toArray, List.set_cons_zero, List.set_cons_succ])
               refine wpAnyH_take (i := 3) (v := ?_) rfl (by kernel_rfl) (by kernel_rfl) (by kernel_rfl) (fun _ _ _ h => h) (Or.inl ⟨by kernel_rfl, ?_⟩) (by assumption) ?_; rotate_left; focus ((intro w hSw; (try dsimp only at hSw); go_simp) <;> with_reducible rfl); (try simp only [Act.put, List.setIfInBounds_toArray, List.set_cons_zero, List.set_cons_succ])
               refine wpAnyH_take (i := 4) (v := ?_) rfl (by kernel_rfl) (by kernel_rfl) (by kernel_rfl) (fun _ _ _ h => h) (Or.inl ⟨by kernel_rfl, ?_⟩) (by assumption) ?_; rotate_left; focus ((intro w hSw; (try dsimp only at hSw); go_simp) <;> with_reducible rfl); (try simp only [Act.put, List.setIfInBounds_toArray, List.set_cons_zero, List.set_cons_succ])
               refine wpAnyH_take (i := 5) (v := ?_) rfl (by kernel_rfl) (by kernel_rfl) (by kernel_rfl) (fun _ _ _ h => h) (Or.inl ⟨by kernel_rfl, ?_⟩) (by assumption) ?_; rotate_left; focus ((intro w hSw; (try dsimp only at hSw); go_simp) <;> with_reducible rfl); (try simp only [Act.put, List.setIfInBounds_toArray, List.set_cons_zero, List.set_cons_succ])
               refine wpAnyH_take (i := 6) (v := ?_) rfl (by kernel_rfl) (by kernel_rfl) (by kernel_rfl) (fun _ _ _ h => h) (Or.inl ⟨by kernel_rfl, ?_⟩) (by assumption) ?_; rotate_left; focus ((intro w hSw; (try dsimp only at hSw); go_simp) <;> with_reducible rfl); (try simp only [Act.put, List.setIfInBounds_toArray, List.set_cons_zero, List.set_cons_succ])
               refine wpAnyH_take (i := 7) (v := ?_) rfl (by kernel_rfl) (by kernel_rfl) (by kernel_rfl) (fun _ _ _ h => h) (Or.inl ⟨by kernel_rfl, ?_⟩) (by assumption) ?_; rotate_left; focus ((intro w hSw; (try dsimp only at hSw); go_simp) <;> with_reducible rfl); (try simp only [Act.put, List.setIfInBounds_toArray, List.set_cons_zero, List.set_cons_succ])
               refine wpAnyH_take (i := 8) (v := ?_) rfl (by kernel_rfl) (by kernel_rfl) (by kernel_rfl) (fun _ _ _ h => h) (Or.inl ⟨by kernel_rfl, ?_⟩) (by assumption) ?_; rotate_left; focus ((intro w hSw; (try dsimp only at hSw); go_simp) <;> with_reducible rfl); (try simp only [Act.put, List.setIfInBounds_toArray, List.set_cons_zero, List.set_cons_succ])
               refine wpAnyH_take (i := 9) (v := ?_) rfl (by kernel_rfl) (by kernel_rfl) (by kernel_rfl) (fun _ _ _ h => h) (Or.inl ⟨by kernel_rfl, ?_⟩) (by assumption) ?_; rotate_left; focus ((intro w hSw; (try dsimp only at hSw); go_simp) <;> with_reducible rfl); (try simp only [Act.put, List.setIfInBounds_toArray, List.set_cons_zero, List.set_cons_succ])
               refine wpAnyH_take (i := 10) (v := ?_) rfl (by kernel_rfl) (by kernel_rfl) (by kernel_rfl) (fun _ _ _ h => h) (Or.inl ⟨by kernel_rfl, ?_⟩) (by assumption) ?_; rotate_left; focus ((intro w hSw; (try dsimp only at hSw); go_simp) <;> with_reducible rfl); (try simp only [Act.put, List.setIfInBounds_toArray, List.set_cons_zero, List.set_cons_succ])
               refine wpAnyH_take (i := 11) (v := ?_) rfl (by kernel_rfl) (by kernel_rfl) (by kernel_rfl) (fun _ _ _ h => h) (Or.inl ⟨by kernel_rfl, ?_⟩) (by assumption) ?_; rotate_left; focus ((intro w hSw; (try dsimp only at hSw); go_simp) <;> with_reducible rfl); (try simp only [Act.put, List.setIfInBounds_toArray, List.set_cons_zero, List.set_cons_succ])
               refine wpAnyH_take (i := 12) (v := ?_) rfl (by kernel_rfl) (by kernel_rfl) (by kernel_rfl) (fun _ _ _ h => h) (Or.inl ⟨by kernel_rfl, ?_⟩) (by assumption) ?_; rotate_left; focus ((intro w hSw; (try dsimp only at hSw); go_simp) <;> with_reducible rfl); (try simp only [Act.put, List.setIfInBounds_toArray, List.set_cons_zero, List.set_cons_succ])
               refine wpAnyH_take (i := 13) (v := ?_) rfl (by kernel_rfl) (by kernel_rfl) (by kernel_rfl) (fun _ _ _ h => h) (Or.inl ⟨by kernel_rfl, ?_⟩) (by assumption) ?_; rotate_left; focus ((intro w hSw; (try dsimp only at hSw); go_simp) <;> with_reducible rfl); (try simp only [Act.put, List.setIfInBounds_toArray, List.set_cons_zero, List.set_cons_succ])
               refine wpAnyH_take (i := 14) (v := ?_) rfl (by kernel_rfl) (by kernel_rfl) (by kernel_rfl) (fun _ _ _ h => h) (Or.inl ⟨by kernel_rfl, ?_⟩) (by assumption) ?_; rotate_left; focus ((intro w hSw; (try dsimp only at hSw); go_simp) <;> with_reducible rfl); (try simp only [Act.put, List.setIfInBounds_toArray, List.set_cons_zero, List.set_cons_succ])
               refine wpAnyH_take (i := 15) (v := ?_) rfl (by kernel_rfl) (by kernel_rfl) (by kernel_rfl) (fun _ _ _ h => h) (Or.inl ⟨by kernel_rfl, ?_⟩) (by assumption) ?_; rotate_left; focus ((intro w hSw; (try dsimp only at hSw); go_simp) <;> with_reducible rfl); (try simp only [Act.put, List.setIfInBounds_toArray, List.set_cons_zero, List.set_cons_succ])
               refine wpAnyH_take (i := 16) (v := undef) rfl (by kernel_rfl) (by kernel_rfl) (by kernel_rfl) (fun _ _ _ h => h) (Or.inr ⟨by kernel_rfl, rfl⟩) (by assumption) ?_; (try simp only [Act.put, List.setIfInBounds_toArray, List.set_cons_zero, List.set_cons_succ])
               refine wpAnyH_take (i := 17) (v := undef) rfl (by kernel_rfl) (by kernel_rfl) (by kernel_rfl) (fun _ _ _ h => h) (Or.inr ⟨by kernel_rfl, rfl⟩) (by assumption) ?_; (try simp only [Act.put, List.setIfInBounds_toArray, List.set_cons_zero, List.set_cons_succ])
               refine wpAnyH_take (i := 18) (v := undef) rfl (by kernel_rfl) (by kernel_rfl) (by kernel_rfl) (fun _ _ _ h => h) (Or.inr ⟨by kernel_rfl, rfl⟩) (by assumption) ?_; (try simp only [Act.put, List.setIfInBounds_toArray, List.set_cons_zero, List.set_cons_succ])
               refine wpAnyH_take (i := 19) (v := undef) rfl (by kernel_rfl) (by kernel_rfl) (by kernel_rfl) (fun _ _ _ h => h) (Or.inr ⟨by kernel_rfl, rfl⟩) (by assumption) ?_; (try simp only [Act.put, List.setIfInBounds_toArray, List.set_cons_zero, List.set_cons_succ])
               refine wpAnyH_take (i := 20) (v := undef) rfl (by kernel_rfl) (by kernel_rfl) (by kernel_rfl) (fun _ _ _ h => h) (Or.inr ⟨by kernel_rfl, rfl⟩) (by assumption) ?_; (try simp only [Act.put, List.setIfInBounds_toArray, List.set_cons_zero, List.set_cons_succ])
               refine wpAnyH_take (i := 21) (v := undef) rfl (by kernel_rfl) (by kernel_rfl) (by kernel_rfl) (fun _ _ _ h => h) (Or.inr ⟨by kernel_rfl, rfl⟩) (by assumption) ?_; (try simp only [Act.put, List.setIfInBounds_toArray, List.set_cons_zero, List.set_cons_succ])
               refine wpAnyH_take (i := 22) (v := undef) rfl (by kernel_rfl) (by kernel_rfl) (by kernel_rfl) (fun _ _ _ h => h) (Or.inr ⟨by kernel_rfl, rfl⟩) (by assumption) ?_; (try simp only [Act.put, List.setIfInBounds_toArray, List.set_cons_zero, List.set_cons_succ])
               refine wpAnyH_take (i := 23) (v := undef) rfl (by kernel_rfl) (by kernel_rfl) (by kernel_rfl) (fun _ _ _ h => h) (Or.inr ⟨by kernel_rfl, rfl⟩) (by assumption) ?_; (try simp only [Act.put, List.setIfInBounds_toArray, List.set_cons_zero, List.set_cons_succ])
               refine wpAnyH_take (i := 24) (v := undef) rfl (by kernel_rfl) (by kernel_rfl) (by kernel_rfl) (fun _ _ _ h => h) (Or.inr ⟨by kernel_rfl, rfl⟩) (by assumption) ?_; (try simp only [Act.put, List.setIfInBounds_toArray, List.set_cons_zero, List.set_cons_succ])
               refine wpAnyH_take (i := 25) (v := ?_) rfl (by kernel_rfl) (by kernel_rfl) (by kernel_rfl) (fun _ _ _ h => h) (Or.inl ⟨by kernel_rfl, ?_⟩) (by assumption) ?_; rotate_left; focus ((intro w hSw; (try dsimp only at hSw); go_simp) <;> with_reducible rfl); (try simp only [Act.put, List.setIfInBounds_toArray, List.set_cons_zero, List.set_cons_succ])
               refine wpAnyH_take (i := 26) (v := ?_) rfl (by kernel_rfl) (by kernel_rfl) (by kernel_rfl) (fun _ _ _ h => h) (Or.inl ⟨by kernel_rfl, ?_⟩) (by assumption) ?_; rotate_left; focus ((intro w hSw; (try dsimp only at hSw); go_simp) <;> with_reducible rfl); (try simp only [Act.put, List.setIfInBounds_toArray, List.set_cons_zero, List.set_cons_succ])
               refine wpAnyH_ready (rs := [27]) (by kernel_rfl) (by simp) ?_
               refine AllReadyH.cons rfl (fun KK hKK => ?_) AllReadyH.nil
               go_simp
               refine hKK.out _ _ ?_ (fun hHeld => ?_)
               focus (first | exact hK.out _ hbd.out | exact hK.out _ (hbs.out _))
               clear hKK KK
               (try simp only [Act.put, List.setIfInBounds_toArray, List.set_cons_zero, List.set_cons_succ])
               refine wpAnyH_done (by kernel_rfl) ?_ _
               refine NoPanic.normal ?_
               go_wp2_with fail
               go_roundw
               case rel => exact ⟨j + 1, _, by omega, by omega, by go_num, hnew.out, hst.out _ (by simp [orR, hpd, hqd]), hfr.out _⟩
               case measure => simp [intOf] <;> omega)
            | (have hpd : decide (nth a j < nth a i) = false := decide_eq_false hp
               skip
               first | have hqd : decide (nth b j < nth b i) = true := decide_eq_true hq | have hqd : decide (nth b j < nth b i) = false := decide_eq_false hq
               go_wp2_with fail
               refine wp_region_noPanic ?_
               refine wp_region_held_drew (S := (fun w' => w'.cell? (adr v i) = some (.int .i64 (nth a i)) ∧ w'.cell? (adr v j) = some (.int .i64 (nth a j)) ∧ w'.cell? (adr u i) = some (.int .i64 (nth b i)) ∧ w'.cell? (adr u j) = some (.int .i64 (nth b j)))) (by kernel_rfl) ?_ (fun hHeld => ?_)
               focus (first | exact hK.out _ hbd.out | exact hK.out _ (hbs.out _))
               refine wpAnyH_take (i := 0) (v := ?_) rfl (by kernel_rfl) (by kernel_rfl) (by kernel_rfl) (fun _ _ _ h => h) (Or.inl ⟨by kernel_rfl, ?_⟩) (by assumption) ?_; rotate_left; focus ((intro w hSw; (try dsimp only at hSw); go_simp) <;> with_reducible rfl); (try simp only [Act.put, List.setIfInBounds_toArray, List.set_cons_zero, List.set_cons_succ])
               refine wpAnyH_take (i := 1) (v := ?_) rfl (by kernel_rfl) (by kernel_rfl) (by kernel_rfl) (fun _ _ _ h => h) (Or.inl ⟨by kernel_rfl, ?_⟩) (by assumption) ?_; rotate_left; focus ((intro w hSw; (try dsimp only at hSw); go_simp) <;> with_reducible rfl); (try simp only [Act.put, List.setIfInBounds_toArray, List.set_cons_zero, List.set_cons_succ])
               refine wpAnyH_take (i := 2) (v := ?_) rfl (by kernel_rfl) (by kernel_rfl) (by kernel_rfl) (fun _ _ _ h => h) (Or.inl ⟨by kernel_rfl, ?_⟩) (by assumption) ?_; rotate_left; focus ((intro w hSw; (try dsimp only at hSw); go_simp) <;> with_reducible rfl); (try simp only [Act.put, List.setIfInBounds_toArray, List.set_cons_zero, List.set_cons_succ])
               refine wpAnyH_take (i := 3) (v := ?_) rfl (by kernel_rfl) (by kernel_rfl) (by kernel_rfl) (fun _ _ _ h => h) (Or.inl ⟨by kernel_rfl, ?_⟩) (by assumption) ?_; rotate_left; focus ((intro w hSw; (try dsimp only at hSw); go_simp) <;> with_reducible rfl); (try simp only [Act.put, List.setIfInBounds_toArray, List.set_cons_zero, List.set_cons_succ])
               refine wpAnyH_take (i := 4) (v := ?_) rfl (by kernel_rfl) (by kernel_rfl) (by kernel_rfl) (fun _ _ _ h => h) (Or.inl ⟨by kernel_rfl, ?_⟩) (by assumption) ?_; rotate_left; focus ((intro w hSw; (try dsimp only at hSw); go_simp) <;> with_reducible rfl); (try simp only [Act.put, List.setIfInBounds_toArray, List.set_cons_zero, List.set_cons_succ])
               refine wpAnyH_take (i := 5) (v := ?_) rfl (by kernel_rfl) (by kernel_rfl) (by kernel_rfl) (fun _ _ _ h => h) (Or.inl ⟨by kernel_rfl, ?_⟩) (by assumption) ?_; rotate_left; focus ((intro w hSw; (try dsimp only at hSw); go_simp) <;> with_reducible rfl); (try simp only [Act.put, List.setIfInBounds_toArray, List.set_cons_zero, List.set_cons_succ])
               refine wpAnyH_take (i := 6) (v := ?_) rfl (by kernel_rfl) (by kernel_rfl) (by kernel_rfl) (fun _ _ _ h => h) (Or.inl ⟨by kernel_rfl, ?_⟩) (by assumption) ?_; rotate_left; focus ((intro w hSw; (try dsimp only at hSw); go_simp) <;> with_reducible rfl); (try simp only [Act.put, List.setIfInBounds_toArray, List.set_cons_zero, List.set_cons_succ])
               refine wpAnyH_take (i := 7) (v := ?_) rfl (by kernel_rfl) (by kernel_rfl) (by kernel_rfl) (fun _ _ _ h => h) (Or.inl ⟨by kernel_rfl, ?_⟩) (by assumption) ?_; rotate_left; focus ((intro w hSw; (try dsimp only at hSw); go_simp) <;> with_reducible rfl); (try simp only [Act.put, List.setIfInBounds_toArray, List.set_cons_zero, List.set_cons_succ])
               refine wpAnyH_take (i := 8) (v := ?_) rfl (by kernel_rfl) (by kernel_rfl) (by kernel_rfl) (fun _ _ _ h => h) (Or.inl ⟨by kernel_rfl, ?_⟩) (by assumption) ?_; rotate_left; focus ((intro w hSw; (try dsimp only at hSw); go_simp) <;> with_reducible rfl); (try simp only [Act.put, List.setIfInBounds_toArray, List.set_cons_zero, List.set_cons_succ])
               refine wpAnyH_take (i := 9) (v := ?_) rfl (by kernel_rfl) (by kernel_rfl) (by kernel_rfl) (fun _ _ _ h => h) (Or.inl ⟨by kernel_rfl, ?_⟩) (by assumption) ?_; rotate_left; focus ((intro w hSw; (try dsimp only at hSw); go_simp) <;> with_reducible rfl); (try simp only [Act.put, List.setIfInBounds_toArray, List.set_cons_zero, List.set_cons_succ])
               refine wpAnyH_take (i := 10) (v := ?_) rfl (by kernel_rfl) (by kernel_rfl) (by kernel_rfl) (fun _ _ _ h => h) (Or.inl ⟨by kernel_rfl, ?_⟩) (by assumption) ?_; rotate_left; focus ((intro w hSw; (try dsimp only at hSw); go_simp) <;> with_reducible rfl); (try simp only [Act.put, List.setIfInBounds_toArray, List.set_cons_zero, List.set_cons_succ])
               refine wpAnyH_take (i := 11) (v := ?_) rfl (by kernel_rfl) (by kernel_rfl) (by kernel_rfl) (fun _ _ _ h => h) (Or.inl ⟨by kernel_rfl, ?_⟩) (by assumption) ?_; rotate_left; focus ((intro w hSw; (try dsimp only at hSw); go_simp) <;> with_reducible rfl); (try simp only [Act.put, List.setIfInBounds_toArray, List.set_cons_zero, List.set_cons_succ])
               refine wpAnyH_take (i := 12) (v := ?_) rfl (by kernel_rfl) (by kernel_rfl) (by kernel_rfl) (fun _ _ _ h => h) (Or.inl ⟨by kernel_rfl, ?_⟩) (by assumption) ?_; rotate_left; focus ((intro w hSw; (try dsimp only at hSw); go_simp) <;> with_reducible rfl); (try simp only [Act.put, List.setIfInBounds_toArray, List.set_cons_zero, List.set_cons_succ])
               refine wpAnyH_take (i := 13) (v := ?_) rfl (by kernel_rfl) (by kernel_rfl) (by kernel_rfl) (fun _ _ _ h => h) (Or.inl ⟨by kernel_rfl, ?_⟩) (by assumption) ?_; rotate_left; focus ((intro w hSw; (try dsimp only at hSw); go_simp) <;> with_reducible rfl); (try simp only [Act.put, List.setIfInBounds_toArray, List.set_cons_zero, List.set_cons_succ])
               refine wpAnyH_take (i := 14) (v := ?_) rfl (by kernel_rfl) (by kernel_rfl) (by kernel_rfl) (fun _ _ _ h => h) (Or.inl ⟨by kernel_rfl, ?_⟩) (by assumption) ?_; rotate_left; focus ((intro w hSw; (try dsimp only at hSw); go_simp) <;> with_reducible rfl); (try simp only [Act.put, List.setIfInBounds_toArray, List.set_cons_zero, List.set_cons_succ])
               refine wpAnyH_take (i := 15) (v := ?_) rfl (by kernel_rfl) (by kernel_rfl) (by kernel_rfl) (fun _ _ _ h => h) (Or.inl ⟨by kernel_rfl, ?_⟩) (by assumption) ?_; rotate_left; focus ((intro w hSw; (try dsimp only at hSw); go_simp) <;> with_reducible rfl); (try simp only [Act.put, List.setIfInBounds_toArray, List.set_cons_zero, List.set_cons_succ])
               refine wpAnyH_take (i := 16) (v := ?_) rfl (by kernel_rfl) (by kernel_rfl) (by kernel_rfl) (fun _ _ _ h => h) (Or.inl ⟨by kernel_rfl, ?_⟩) (by assumption) ?_; rotate_left; focus ((intro w hSw; (try dsimp only at hSw); go_simp) <;> with_reducible rfl); (try simp only [Act.put, List.setIfInBounds_toArray, List.set_cons_zero, List.set_cons_succ])
               refine wpAnyH_take (i := 17) (v := ?_) rfl (by kernel_rfl) (by kernel_rfl) (by kernel_rfl) (fun _ _ _ h => h) (Or.inl ⟨by kernel_rfl, ?_⟩) (by assumption) ?_; rotate_left; focus ((intro w hSw; (try dsimp only at hSw); go_simp) <;> with_reducible rfl); (try simp only [Act.put, List.setIfInBounds_toArray, List.set_cons_zero, List.set_cons_succ])
               refine wpAnyH_take (i := 18) (v := ?_) rfl (by kernel_rfl) (by kernel_rfl) (by kernel_rfl) (fun _ _ _ h => h) (Or.inl ⟨by kernel_rfl, ?_⟩) (by assumption) ?_; rotate_left; focus ((intro w hSw; (try dsimp only at hSw); go_simp) <;> with_reducible rfl); (try simp only [Act.put, List.setIfInBounds_toArray, List.set_cons_zero, List.set_cons_succ])
               refine wpAnyH_take (i := 19) (v := ?_) rfl (by kernel_rfl) (by kernel_rfl) (by kernel_rfl) (fun _ _ _ h => h) (Or.inl ⟨by kernel_rfl, ?_⟩) (by assumption) ?_; rotate_left; focus ((intro w hSw; (try dsimp only at hSw); go_simp) <;> with_reducible rfl); (try simp only [Act.put, List.setIfInBounds_toArray, List.set_cons_zero, List.set_cons_succ])
               refine wpAnyH_take (i := 20) (v := ?_) rfl (by kernel_rfl) (by kernel_rfl) (by kernel_rfl) (fun _ _ _ h => h) (Or.inl ⟨by kernel_rfl, ?_⟩) (by assumption) ?_; rotate_left; focus ((intro w hSw; (try dsimp only at hSw); go_simp) <;> with_reducible rfl); (try simp only [Act.put, List.setIfInBounds_toArray, List.set_cons_zero, List.set_cons_succ])
               refine wpAnyH_take (i := 21) (v := ?_) rfl (by kernel_rfl) (by kernel_rfl) (by kernel_rfl) (fun _ _ _ h => h) (Or.inl ⟨by kernel_rfl, ?_⟩) (by assumption) ?_; rotate_left; focus ((intro w hSw; (try dsimp only at hSw); go_simp) <;> with_reducible rfl); (try simp only [Act.put, List.setIfInBounds_toArray, List.set_cons_zero, List.set_cons_succ])
               refine wpAnyH_take (i := 22) (v := ?_) rfl (by kernel_rfl) (by kernel_rfl) (by kernel_rfl) (fun _ _ _ h => h) (Or.inl ⟨by kernel_rfl, ?_⟩) (by assumption) ?_; rotate_left; focus ((intro w hSw; (try dsimp only at hSw); go_simp) <;> with_reducible rfl); (try simp only [Act.put, List.setIfInBounds_toArray, List.set_cons_zero, List.set_cons_succ])
               refine wpAnyH_take (i := 23) (v := ?_) rfl (by kernel_rfl) (by kernel_rfl) (by kernel_rfl) (fun _ _ _ h => h) (Or.inl ⟨by kernel_rfl, ?_⟩) (by assumption) ?_; rotate_left; focus ((intro w hSw; (try dsimp only at hSw); go_simp) <;> with_reducible rfl); (try simp only [Act.put, List.setIfInBounds_toArray, List.set_cons_zero, List.set_cons_succ])
               refine wpAnyH_take (i := 24) (v := ?_) rfl (by kernel_rfl) (by kernel_rfl) (by kernel_rfl) (fun _ _ _ h => h) (Or.inl ⟨by kernel_rfl, ?_⟩) (by assumption) ?_; rotate_left; focus ((intro w hSw; (try dsimp only at hSw); go_simp) <;> with_reducible rfl); (try simp only [Act.put, List.setIfInBounds_toArray, List.set_cons_zero, List.set_cons_succ])
               refine wpAnyH_take (i := 25) (v := ?_) rfl (by kernel_rfl) (by kernel_rfl) (by kernel_rfl) (fun _ _ _ h => h) (Or.inl ⟨by kernel_rfl, ?_⟩) (by assumption) ?_; rotate_left; focus ((intro w hSw; (try dsimp only at hSw); go_simp) <;> with_reducible rfl); (try simp only [Act.put, List.setIfInBounds_toArray, List.set_cons_zero, List.set_cons_succ])
               refine wpAnyH_take (i := 26) (v := ?_) rfl (by kernel_rfl) (by kernel_rfl) (by kernel_rfl) (fun _ _ _ h => h) (Or.inl ⟨by kernel_rfl, ?_⟩) (by assumption) ?_; rotate_left; focus ((intro w hSw; (try dsimp only at hSw); go_simp) <;> with_reducible rfl); (try simp only [Act.put, List.setIfInBounds_toArray, List.set_cons_zero, List.set_cons_succ])
               refine wpAnyH_ready (rs := [27]) (by kernel_rfl) (by simp) ?_
               refine AllReadyH.cons rfl (fun KK hKK => ?_) AllReadyH.nil
               go_simp
               refine hKK.out _ _ ?_ (fun hHeld => ?_)
               focus (first | exact hK.out _ hbd.out | exact hK.out _ (hbs.out _))
               clear hKK KK
               (try simp only [Act.put, List.setIfInBounds_toArray, List.set_cons_zero, List.set_cons_succ])
               refine wpAnyH_done (by kernel_rfl) ?_ _
               refine NoPanic.normal ?_
               go_wp2_with fail
               go_roundw
               case rel => exact ⟨j + 1, _, by omega, by omega, by go_num, hnew.out, hst.out _ (by simp [orR, hpd, hqd]), hfr.out _⟩
               case measure => simp [intOf] <;> omega)
        · obtain rfl : j = a.length := by omega
          have hf2 := hid (fun (p q : Nat) (h1 : p < q) (h2 : q < a.length) (h3 : p < i + 1) => hf.out p q h1 h2 (by omega))
          replace hO := hid hO
          replace hb := hid hb
          clear hf
          go_wp2_with fail
          go_roundw
          case rel => exact ⟨i + 1, f, by omega, by go_num, hf2.out, hO.out, hb.out⟩
          case measure => simp [intOf] <;> omega
    · obtain rfl : i = a.length := by omega
      have hf2 := hid (fun (p q : Nat) (h1 : p < q) (h2 : q < a.length) => hf.out p q h1 h2 (by omega))
      clear hf
      have hR := hid (show ∃ R, R = orR a b from ⟨_, rfl⟩)
      obtain ⟨R, hRe⟩ := hR.out
      have hRe := hid hRe
      clear hR
      have hf3 := hid (fun (p q : Nat) (h1 : p < q) (h2 : q < a.length) => (show f p q = R p q from by rw [hRe.out]; exact hf2.out p q h1 h2))
      clear hf2
      go_wp2_with fail
      go_loopw [9, 10, 11] (fun c _ _ wr => ∃ (W : Nat) (f : Nat → Nat → Bool), 2 ≤ W ∧ W ≤ a.length + 2 ∧ c = .int .i64 W ∧ (∀ p q, p < q → q < a.length → f p q = if q - p < W then clos R p q else R p q) ∧ Own wr w.heap.size 4 V (tab a.length f) ∧ Below w.heap.size w wr) (fun c _ _ _ => a.length + 2 - (intOf c).toNat)
      case atStart =>
        refine ⟨2, f, by omega, by omega, rfl, fun p q h1 h2 => ?_, hO.out, hb.out⟩
        rw [hf3.out p q h1 h2]
        by_cases e : q - p < 2
        · rw [if_pos e, ← prt_end h1, show q = p + 1 by omega, prt_start]
        · rw [if_neg e]
      case round =>
        clear hf3 hO hb
        obtain ⟨W, f, hW2, hWn, rfl, hf, hO, hb⟩ := hrel
        replace hf := hid hf
        replace hO := hid hO
        replace hb := hid hb
        by_cases hWl : W < a.length
        · go_wp2_with fail
          rename World => wF
          go_loopw [10, 11] (fun c _ wr => ∃ (i : Nat) (f : Nat → Nat → Bool), i + W ≤ a.length ∧ c = .int .i64 i ∧ (∀ p q, p < q → q < a.length → f p q = if q - p < W ∨ q - p = W ∧ p < i then clos R p q else R p q) ∧ Own wr w.heap.size 4 V (tab a.length f) ∧ Below w.heap.size w wr) (fun c _ _ => a.length - (intOf c).toNat)
          case atStart =>
            refine ⟨0, f, by omega, rfl, fun p q h1 h2 => ?_, hO.out, hb.out⟩
            rw [hf.out p q h1 h2]
            by_cases e : q - p < W
            · rw [if_pos e, if_pos (.inl e)]
            · rw [if_neg e, if_neg (by omega)]
          case round =>
          clear hf hO hb
          obtain ⟨i, f, hi, rfl, hf, hO, hb⟩ := hrel
          replace hf := hid hf
          replace hO := hid hO
          replace hb := hid hb
          by_cases hiW : i + W < a.length
          case neg =>
            have hf2 := hid (fun (p q : Nat) (h1 : p < q) (h2 : q < a.length) => (show f p q = if q - p < W + 1 then clos R p q else R p q from by
              rw [hf.out p q h1 h2]
              by_cases e : q - p < W + 1
              · rw [if_pos e, if_pos (by omega)]
              · rw [if_neg e, if_neg (by omega)]))
            clear hf
            go_wp2_with fail
            go_roundw
            case rel => exact ⟨W + 1, f, by omega, by omega, by go_num, hf2.out, hO.out, hb.out⟩
            case measure => simp [intOf] <;> omega
          case pos =>
          go_wp2_with fail
          rename World => wG
          go_loopw [11] (fun c wr => ∃ (j : Nat) (f : Nat → Nat → Bool), i < j ∧ j ≤ i + W ∧ c = .int .i64 j ∧ (∀ p q, p < q → q < a.length → f p q = if q - p < W ∨ q - p = W ∧ p < i then clos R p q else if p = i ∧ q = i + W then prt R i (i + W) j else R p q) ∧ Own wr w.heap.size 4 V (tab a.length f) ∧ Below w.heap.size w wr) (fun c _ => i + W - (intOf c).toNat)
          case atStart =>
            refine ⟨i + 1, f, by omega, by omega, by go_num, fun p q h1 h2 => ?_, hO.out, hb.out⟩
            rw [hf.out p q h1 h2]
            by_cases e : q - p < W ∨ q - p = W ∧ p < i
            · rw [if_pos e, if_pos e]
            · rw [if_neg e, if_neg e]
              by_cases e2 : p = i ∧ q = i + W
              · rw [if_pos e2, prt_start, e2.1, e2.2]
              · rw [if_neg e2]
          case round =>
          clear hf hO hb
          obtain ⟨j, f, hij, hj, rfl, hf, hO, hb⟩ := hrel
          replace hf := hid hf
          by_cases hjW : j < i + W
          case neg =>
            obtain rfl : j = i + W := by omega
            have hf2 := hid (fun (p q : Nat) (h1 : p < q) (h2 : q < a.length) => (show f p q = if q - p < W ∨ q - p = W ∧ p < i + 1 then clos R p q else R p q from by
              rw [hf.out p q h1 h2, prt_end (by omega)]
              by_cases e : q - p < W ∨ q - p = W ∧ p < i
              · rw [if_pos e, if_pos (by omega)]
              · rw [if_neg e]
                by_cases e2 : p = i ∧ q = i + W
                · rw [if_pos e2, if_pos (by omega), e2.1, e2.2]
                · rw [if_neg e2, if_neg (by omega)]))
            replace hO := hid hO
            replace hb := hid hb
            clear hf
            go_wp2_with fail
            go_roundw
            case rel => exact ⟨i + 1, f, by omega, by go_num, hf2.out, hO.out, hb.out⟩
            case measure => simp [intOf] <;> omega
          case pos =>
          have hbd0 := hid (ij_bd hn (show i ≤ a.length by omega))
          have hbd1 := hid (ij_bd hn (show j ≤ a.length by omega))
          have wr1 := Go.IntWalk.i64_in ((i : Int) * (a.length : Int)) (by have := hbd0.out; omega)
          have wr2 := Go.IntWalk.i64_in ((i : Int) * (a.length : Int) + (j : Int)) (by have := hbd0.out; omega)
          have wr3 := Go.IntWalk.i64_in ((j : Int) * (a.length : Int)) (by have := hbd1.out; omega)
          have wr4 := Go.IntWalk.i64_in ((j : Int) * (a.length : Int) + (i : Int)) (by have := hbd1.out; omega)
          have wr5 := Go.IntWalk.i64_in ((j : Int) * (a.length : Int) + (i : Int) + (W : Int)) (by have := hbd1.out; omega)
          have wr6 := Go.IntWalk.i64_in ((i : Int) * (a.length : Int) + (i : Int)) (by have := hbd0.out; omega)
          have wr7 := Go.IntWalk.i64_in ((i : Int) * (a.length : Int) + (i : Int) + (W : Int)) (by have := hbd0.out; omega)
          have iv1 := tab_idx hO (i := i) (j := j) (by omega) (by omega)
          have iv2 := tab_idx hO (i := j) (j := i + W) (by omega) (by omega)
          have iv3 := tab_idx hO (i := i) (j := i + W) (by omega) (by omega)
          rw [Int.natCast_add, ← Int.add_assoc] at iv2 iv3
          have c1 := hO.reads.cell (i * a.length + j) _ (tab_at (by omega) (by omega))
          have c2 := hO.reads.cell (j * a.length + (i + W)) _ (tab_at (by omega) (by omega))
          have c3 := hO.reads.cell (i * a.length + (i + W)) _ (tab_at (by omega) (by omega))
          have f3 := hO.frozen (i := i * a.length + (i + W)) (by rw [length_tab]; exact ij_lt (by omega) (by omega))
          have hab := (hO.adr_blk (i := i * a.length + (i + W)) (by rw [length_tab]; exact ij_lt (by omega) (by omega))).2.1
          have hst := hid (by have := hO.set (i := i * a.length + (i + W)) (by rw [length_tab]; exact ij_lt (by omega) (by omega)) (.bool true); rw [tab_set (by omega) (by omega)] at this; exact this : Own (wr.setCell (adr V (i * a.length + (i + W))) (.bool true)) w.heap.size 4 V (tab a.length (upd f i (i + W) true)))
          have hfr := hid (hb.setCell (p := adr V (i * a.length + (i + W))) hab (.bool true))
          have e1 := hf.out i j hij (by omega)
          rw [if_pos (by omega)] at e1
          have e2 := hf.out j (i + W) hjW (by omega)
          rw [if_pos (by omega)] at e2
          have hps := hid (prt_succ (R := R) (i := i) (j := i + W) (m := j) hij)
          rw [← e1, ← e2] at hps
          replace e1 := hid e1
          replace e2 := hid e2
          have hgen := hid (fun (g : Nat → Nat → Bool) (hg : ∀ p q, ¬ (p = i ∧ q = i + W) → g p q = f p q) (hg2 : g i (i + W) = prt R i (i + W) (j + 1)) (p q : Nat) (h1 : p < q) (h2 : q < a.length) => (show g p q = if q - p < W ∨ q - p = W ∧ p < i then clos R p q else if p = i ∧ q = i + W then prt R i (i + W) (j + 1) else R p q from by
            by_cases e : p = i ∧ q = i + W
            · rw [if_neg (by omega), if_pos e, e.1, e.2, hg2]
            · rw [hg p q e, hf.out p q h1 h2, if_neg e, if_neg e]))
          have hsame := hid (show f i (i + W) = prt R i (i + W) j from by rw [hf.out i (i + W) (by omega) hiW, if_neg (by omega), if_pos ⟨rfl, rfl⟩])
          replace hO := hid hO
          replace hb := hid hb
          clear hf hab
          by_cases hv1 : f i j = true
          · by_cases hv2 : f j (i + W) = true
            · go_wp2_with fail
              go_roundw
              case rel => exact ⟨j + 1, _, by omega, by omega, by go_num, hgen.out (upd f i (i + W) true) (fun p q e => by unfold upd; rw [if_neg e]) (by rw [hps.out, hv1, hv2]; simp [upd]), hst.out, hfr.out⟩
              case measure => simp [intOf] <;> omega
            · have hv2' : f j (i + W) = false := by simpa using hv2
              go_wp2_with fail
              go_roundw
              case rel => exact ⟨j + 1, f, by omega, by omega, by go_num, hgen.out f (fun p q e => rfl) (by rw [hps.out, hv2', Bool.and_false, Bool.or_false]; exact hsame.out), hO.out, hb.out⟩
              case measure => simp [intOf] <;> omega
          · have hv1' : f i j = false := by simpa using hv1
            go_wp2_with fail
            go_roundw
            case rel => exact ⟨j + 1, f, by omega, by omega, by go_num, hgen.out f (fun p q e => rfl) (by rw [hps.out, hv1', Bool.false_and, Bool.or_false]; exact hsame.out), hO.out, hb.out⟩
            case measure => simp [intOf] <;> omega
        · have hf2 := hid (fun (p q : Nat) (h1 : p < q) (h2 : q < a.length) => (show f p q = clos R p q from by rw [hf.out p q h1 h2, if_pos (by omega)]))
          clear hf
          have hmk2 := hmk2h.out
          clear hmk2h
          have hP := hid (own_made wr 2 a.length (.int .i64 0) (by omega) (B := wr.heap.size) (Nat.le_refl _))
          have hPb := hid (below_made wr 2 (.int .i64 0) a.length)
          rw [show List.replicate a.length (Value.int .i64 0) = ints (stL (clos R) a.length 0 1) from by rw [stL_start]; simp [ints]] at hP
          have hV := hid (fun (w' : World) (hw : Below wr.heap.size wr w') => (hO.out.below hw))
          rename World => wZ
          go_wp2_with fail
          generalize madeV wZ a.length = Z at *
          generalize madeW wZ 2 (.int .i64 0) a.length = w9 at *
          have hbZ := hid (hb.out.trans (hPb.out.mono hb.out.size))
          clear hmk2
          go_loopw [13, 14] (fun c _ wr => ∃ i : Nat, i ≤ a.length ∧ c = .int .i64 i ∧ Own wr wZ.heap.size 2 Z (ints (stL (clos R) a.length i (i + 1))) ∧ Below wZ.heap.size wZ wr) (fun c _ _ => a.length - (intOf c).toNat)
          case atStart => exact ⟨0, by omega, rfl, hP.out, hPb.out⟩
          case round =>
          clear hP hPb hbZ
          obtain ⟨i, hi, rfl, hP, hbP⟩ := hrel
          by_cases hlt : i < a.length
          case neg =>
            obtain rfl : i = a.length := by omega
            rw [stL_end] at hP
            have hfin := hid (hb.out.trans (hbP.mono hb.out.size))
            have hP2 := hid (hP.mono hb.out.size)
            rw [hRe.out] at hP2
            clear hP hbP
            go_wp2_with fail
            go_ret
            exact ⟨_, rfl, hP2.out, hfin.out⟩
          case pos =>
          replace hP := hid hP
          replace hbP := hid hbP
          go_wp2_with fail
          rename World => wY
          go_loopw [14] (fun c wr => ∃ j : Nat, i < j ∧ j ≤ a.length ∧ c = .int .i64 j ∧ Own wr wZ.heap.size 2 Z (ints (stL (clos R) a.length i j)) ∧ Below wZ.heap.size wZ wr) (fun c _ => a.length - (intOf c).toNat)
          case atStart => exact ⟨i + 1, by omega, by omega, by go_num, hP.out, hbP.out⟩
          case round =>
          clear hP hbP
          obtain ⟨j, hij, hj, rfl, hP, hbP⟩ := hrel
          by_cases hlt2 : j < a.length
          case neg =>
            obtain rfl : j = a.length := by omega
            rw [stL_row _ hlt] at hP
            replace hP := hid hP
            replace hbP := hid hbP
            go_wp2_with fail
            go_roundw
            case rel => exact ⟨i + 1, by omega, by go_num, hP.out, hbP.out⟩
            case measure => simp [intOf] <;> omega
          case pos =>
          have hbd0 := hid (ij_bd hn hi)
          have wr1 := Go.IntWalk.i64_in ((i : Int) * (a.length : Int)) (by have := hbd0.out; omega)
          have wr2 := Go.IntWalk.i64_in ((i : Int) * (a.length : Int) + (j : Int)) (by have := hbd0.out; omega)
          have iv := tab_idx hO.out hlt hlt2
          have d1 := (hV.out _ hbP).reads.cell (i * a.length + j) _ (tab_at hlt hlt2)
          have hfv := hf2.out i j hij hlt2
          have hex : ∃ t, t < a.length ∧ (stL (clos R) a.length i j).set t (nth (stL (clos R) a.length i j) t + 1) = stL (clos R) a.length i (j + 1) ∧ ((f i j = true ∧ i = t) ∨ (f i j = false ∧ j = t)) := by
            rw [hfv]
            cases e : clos R i j with
            | true => exact ⟨i, hlt, stL_yes hij hlt2 e, .inl ⟨rfl, rfl⟩⟩
            | false => exact ⟨j, hlt2, stL_no hij hlt2 e, .inr ⟨rfl, rfl⟩⟩
          clear hfv
          obtain ⟨t, ht2, hs, hor⟩ := hex
          have hbd := stL_bd (E := clos R) (n := a.length) (i := i) (j := j) ht2 hlt (by omega)
          have ia := hP.reads.idx (P := Try.prog) 22 sliceI sizeI .i64 (t : Int) (by omega) (by simp; omega)
          simp only [Int.toNat_natCast] at ia
          have ca := hP.reads.int (i := t) (by simp; omega)
          have fa := hP.frozen (i := t) (by simp; omega)
          have ab := (hP.adr_blk (i := t) (by simp; omega)).2.1
          have hst := hP.set (i := t) (by simp; omega) (.int .i64 (nth (stL (clos R) a.length i j) t + 1))
          rw [ints_set, hs] at hst
          have hbs := hbP.setCell (p := adr Z t) (by omega) (.int .i64 (nth (stL (clos R) a.length i j) t + 1))
          generalize nth (stL (clos R) a.length i j) t = y at *
          replace hst := hid hst
          replace hbs := hid hbs
          replace hs := hid hs
          replace hbd0 := hid hbd
          clear hP hbP
          rcases hor with ⟨hv, rfl⟩ | ⟨hv, rfl⟩
          all_goals
            go_wp2_with fail
            go_roundw
            case rel => exact ⟨j + 1, by omega, by omega, by go_num, hst.out, hbs.out⟩
            case measure => simp [intOf] <;> omega



end Go.Proofs.Ytgibgcjpehcemaa

namespace Go.Proofs.Ytgibgcjpehcemaa
open Go.RowKit

theorem rk_bd {E : Nat → Nat → Bool} {n i : Nat} (h : i < n) : 0 ≤ nth (rkL E n) i ∧ nth (rkL E n) i ≤ n := by
  rw [nth_rkL h]; exact ⟨cnt_nonneg _ _, cnt_le _ _⟩
theorem turn_bd {l : List Int} (hp : IsPerm l) {i : Nat} (h : i < (turnF l).length) : 0 ≤ nth (turnF l) i ∧ nth (turnF l) i ≤ (turnF l).length := by
  rw [length_turnF] at h ⊢
  rw [nth_turnF h]
  have h1 := hp.lo h
  have h2 := hp.hi h
  omega
theorem join_pairs {a b : List Int} {f : Nat → Nat → Bool} (h : TabR a.length f (clos (pairR a b true))) : rkL (fun i j => f i j == true) a.length = joinF a b := by
  apply rkL_congr
  intro i j hij hj
  have e : ∀ i j, i < j → j < a.length → pairR a b true i j = orR a b i j := by intro i j _ _; simp [pairR, orR]
  rw [h i j hij hj, clos_congr e hij hj]; simp
theorem meet_pairs {a b : List Int} {f : Nat → Nat → Bool} (h : TabR a.length f (clos (pairR a b false))) : rkL (fun i j => f i j == false) a.length = meetF a b := by
  apply rkL_congr
  intro i j hij hj
  have e : ∀ i j, i < j → j < a.length → pairR a b false i j = norR a b i j := by
    intro i j _ _
    unfold pairR norR
    cases decide (nth a j < nth a i) <;> cases decide (nth b j < nth b i) <;> rfl
  rw [h i j hij hj, clos_congr e hij hj]
  cases clos (norR a b) i j <;> rfl
theorem length_joinF (a b : List Int) : (joinF a b).length = a.length := by simp [joinF]
theorem length_meetF (a b : List Int) : (meetF a b).length = a.length := by simp [meetF]


set_option maxHeartbeats 1000000 in
theorem JoinI (v u : Value) (l m : List Int) (w : World) (h : Reads w v (ints l)) (h' : Reads w u (ints m)) :
    Calls Try.prog 20 #[v, u] w fun e w' => ∃ x, e = .returned (.tuple #[x, .bool (okP l && okP m && decide (l.length = m.length))]) ∧ Own w' w.heap.size 2 x (ints (onlyIf (okP l && okP m && decide (l.length = m.length)) (joinF l m))) ∧ Below w.heap.size w w' := by
  cases e1 : (okP l && okP m && decide (l.length = m.length)) with
  | false =>
    go_enter Try.func20, Try.ntmps20
    go_wp2_with fail
    refine (both_impl _ _ _ _ _ h h').mono ?_
    rintro e w1 ⟨rfl, hb⟩
    rw [e1]
    go_wp2_with fail
    go_ret2
    exact ⟨_, rfl, own_nil _ _ _, hb⟩
  | true =>
    have e2 := e1
    simp only [Bool.and_eq_true, decide_eq_true_eq] at e2
    obtain ⟨⟨o1, o2⟩, hl⟩ := e2
    obtain ⟨h12, hp⟩ := okP_of o1
    obtain ⟨h12', hp'⟩ := okP_of o2
    have hP := hid hp
    have hP' := hid hp'
    replace hl := hid hl
    clear hp hp' o1 o2
    have hlen := h.len (P := Try.prog) 22 3 ⟨_, sliceI⟩
    simp only [length_ints] at hlen
    go_enter Try.func20, Try.ntmps20
    go_wp2_with fail
    refine (both_impl _ _ _ _ _ h h').mono ?_
    rintro e w1 ⟨rfl, hb⟩
    rw [e1]
    go_wp2_with fail
    refine (closed_impl _ _ _ _ _ _ (h.below hb) (h'.below hb) hl.out (by omega)).mono ?_
    rintro e w2 ⟨f, rfl, hf, hb2⟩
    replace hf := hid hf
    go_wp2_with fail
    refine (with_impl l.length f true w2 (by omega)).mono ?_
    rintro e w3 ⟨x, rfl, hown, hb3⟩
    rw [join_pairs hf.out] at hown
    go_wp2_with fail
    go_ret2
    exact ⟨_, rfl, hown.mono (Nat.le_trans hb.size hb2.size), (hb.trans (hb2.mono hb.size)).trans (hb3.mono (Nat.le_trans hb.size hb2.size))⟩


set_option maxHeartbeats 1000000 in
theorem MeetI (v u : Value) (l m : List Int) (w : World) (h : Reads w v (ints l)) (h' : Reads w u (ints m)) :
    Calls Try.prog 22 #[v, u] w fun e w' => ∃ x, e = .returned (.tuple #[x, .bool (okP l && okP m && decide (l.length = m.length))]) ∧ Own w' w.heap.size 2 x (ints (onlyIf (okP l && okP m && decide (l.length = m.length)) (meetF l m))) ∧ Below w.heap.size w w' := by
  cases e1 : (okP l && okP m && decide (l.length = m.length)) with
  | false =>
    go_enter Try.func22, Try.ntmps22
    go_wp2_with fail
    refine (both_impl _ _ _ _ _ h h').mono ?_
    rintro e w1 ⟨rfl, hb⟩
    rw [e1]
    go_wp2_with fail
    go_ret2
    exact ⟨_, rfl, own_nil _ _ _, hb⟩
  | true =>
    have e2 := e1
    simp only [Bool.and_eq_true, decide_eq_true_eq] at e2
    obtain ⟨⟨o1, o2⟩, hl⟩ := e2
    obtain ⟨h12, hp⟩ := okP_of o1
    obtain ⟨h12', hp'⟩ := okP_of o2
    have hP := hid hp
    have hP' := hid hp'
    replace hl := hid hl
    clear hp hp' o1 o2
    have hlen := h.len (P := Try.prog) 22 3 ⟨_, sliceI⟩
    simp only [length_ints] at hlen
    go_enter Try.func22, Try.ntmps22
    go_wp2_with fail
    refine (both_impl _ _ _ _ _ h h').mono ?_
    rintro e w1 ⟨rfl, hb⟩
    rw [e1]
    go_wp2_with fail
    refine (closed_impl _ _ _ _ _ _ (h.below hb) (h'.below hb) hl.out (by omega)).mono ?_
    rintro e w2 ⟨f, rfl, hf, hb2⟩
    replace hf := hid hf
    go_wp2_with fail
    refine (with_impl l.length f false w2 (by omega)).mono ?_
    rintro e w3 ⟨x, rfl, hown, hb3⟩
    rw [meet_pairs hf.out] at hown
    go_wp2_with fail
    go_ret2
    exact ⟨_, rfl, hown.mono (Nat.le_trans hb.size hb2.size), (hb.trans (hb2.mono hb.size)).trans (hb3.mono (Nat.le_trans hb.size hb2.size))⟩


set_option maxHeartbeats 1000000 in
theorem JoinS (v u : Value) (l m : List Int) (w : World) (h : Reads w v (ints l)) (h' : Reads w u (ints m)) :
    Calls Try.prog 19 #[v, u] w fun e w' => ∃ x, e = .returned (.tuple #[x, .bool (okP l && okP m && decide (l.length = m.length))]) ∧ Own w' w.heap.size 2 x (ints (onlyIf (okP l && okP m && decide (l.length = m.length)) (joinF l m))) ∧ Below w.heap.size w w' := by
  cases e1 : (okP l && okP m && decide (l.length = m.length)) with
  | false =>
    go_enter Try.func19, Try.ntmps19
    go_wp2_with fail
    refine (both_spec _ _ _ _ _ h h').mono ?_
    rintro e w1 ⟨rfl, hb⟩
    rw [e1]
    go_wp2_with fail
    go_ret2
    exact ⟨_, rfl, own_nil _ _ _, hb⟩
  | true =>
    have e2 := e1
    simp only [Bool.and_eq_true, decide_eq_true_eq] at e2
    obtain ⟨⟨o1, o2⟩, hl⟩ := e2
    obtain ⟨h12, hp⟩ := okP_of o1
    obtain ⟨h12', hp'⟩ := okP_of o2
    have hP := hid hp
    have hP' := hid hp'
    replace hl := hid hl
    clear hp hp' o1 o2
    go_enter Try.func19, Try.ntmps19
    go_wp2_with fail
    refine (both_spec _ _ _ _ _ h h').mono ?_
    rintro e w1 ⟨rfl, hb⟩
    rw [e1]
    go_wp2_with fail
    refine (close_spec _ _ _ _ _ (h.below hb) (h'.below hb) hl.out (by omega)).mono ?_
    rintro e w2 ⟨x, rfl, hown, hb2⟩
    go_wp2_with fail
    go_ret2
    exact ⟨_, rfl, hown.mono hb.size, hb.trans (hb2.mono hb.size)⟩


set_option maxHeartbeats 1000000 in
theorem MeetS (v u : Value) (l m : List Int) (w : World) (h : Reads w v (ints l)) (h' : Reads w u (ints m)) :
    Calls Try.prog 21 #[v, u] w fun e w' => ∃ x, e = .returned (.tuple #[x, .bool (okP l && okP m && decide (l.length = m.length))]) ∧ Own w' w.heap.size 2 x (ints (onlyIf (okP l && okP m && decide (l.length = m.length)) (meetF l m))) ∧ Below w.heap.size w w' := by
  cases e1 : (okP l && okP m && decide (l.length = m.length)) with
  | false =>
    go_enter Try.func21, Try.ntmps21
    go_wp2_with fail
    refine (both_spec _ _ _ _ _ h h').mono ?_
    rintro e w1 ⟨rfl, hb⟩
    rw [e1]
    go_wp2_with fail
    go_ret2
    exact ⟨_, rfl, own_nil _ _ _, hb⟩
  | true =>
    have e2 := e1
    simp only [Bool.and_eq_true, decide_eq_true_eq] at e2
    obtain ⟨⟨o1, o2⟩, hl⟩ := e2
    obtain ⟨h12, hp⟩ := okP_of o1
    obtain ⟨h12', hp'⟩ := okP_of o2
    have hP := hid hp
    have hP' := hid hp'
    replace hl := hid hl
    clear hp hp' o1 o2
    go_enter Try.func21, Try.ntmps21
    go_wp2_with fail
    refine (both_spec _ _ _ _ _ h h').mono ?_
    rintro e w1 ⟨rfl, hb⟩
    rw [e1]
    go_wp2_with fail
    refine (turn_spec _ _ _ (h.below hb) (by omega) (fun i hi => ⟨hP.out.lo hi, by have := hP.out.hi hi; omega⟩)).mono ?_
    rintro e w2 ⟨x, rfl, hx, hb2⟩
    have hc2 := hb.trans (hb2.mono hb.size)
    go_wp2_with fail
    refine (turn_spec _ _ _ (h'.below hc2) (by omega) (fun i hi => ⟨hP'.out.lo hi, by have := hP'.out.hi hi; omega⟩)).mono ?_
    rintro e w3 ⟨y, rfl, hy, hb3⟩
    have hc3 := hc2.trans (hb3.mono hc2.size)
    go_wp2_with fail
    refine (close_spec _ _ _ _ _ (hx.reads.below hb3) hy.reads (by simp; exact hl.out) (by simp; omega)).mono ?_
    rintro e w4 ⟨z, rfl, hz, hb4⟩
    have hc4 := hc3.trans (hb4.mono hc3.size)
    go_wp2_with fail
    refine (turn_spec _ _ _ hz.reads (by rw [length_joinF]; simp; omega) (fun i hi => by unfold joinF at hi ⊢; rw [length_rkL] at hi ⊢; exact rk_bd hi)).mono ?_
    rintro e w5 ⟨t, rfl, ht, hb5⟩
    have hc5 := hc4.trans (hb5.mono hc4.size)
    rw [turn_meet hP.out hP'.out hl.out] at ht
    go_wp2_with fail
    go_ret2
    exact ⟨_, rfl, ht.mono hc4.size, hc5⟩


end Go.Proofs.Ytgibgcjpehcemaa
