/- Contracts: the program's test of braids, with its closures. -/
import Derived.Test.YtkgdbobhppmaiaaDoorBra
namespace Go.Proofs.YtkgdbobhppmaiaaDoor
open Go.RowKit

set_option maxRecDepth 100000 in
set_option maxHeartbeats 1000000 in
theorem letclo (g : Nat) (n k : Int) (w : World) (hc : w.cell? ⟨g, 0, none⟩ = some (.int .i64 n)) (n0 : -100 ≤ n) (n1 : n ≤ 100) :
    Calls Tryd.prog 109 #[.int .i64 k, .pointer (some ⟨g, 0, none⟩)] w fun e w' => e = .returned (.bool (!letterB n k)) ∧ w = w' := by
  cases e1 : (k == 0) with
  | true =>
    have hres : letterB n k = false := by simp [letterB, e1]
    go_enter Tryd.func109, Tryd.ntmps109
    go_wp2_with fail
    go_ret
    exact ⟨by first | rfl | (rw [hres]; rfl), rfl⟩
  | false =>
    have hres : letterB n k = inB k (1 - n) (n - 1) := by simp [letterB, e1]
    go_enter Tryd.func109, Tryd.ntmps109
    go_wp2_with fail
    refine (in_impl _ _ _ _).mono ?_
    rintro e w1 ⟨rfl, rfl⟩
    cases e2 : inB k (1 - n) (n - 1) with
    | true =>
      go_wp2_with fail
      go_ret
      exact ⟨by first | rfl | (rw [hres, e2]; rfl), rfl⟩
    | false =>
      go_wp2_with fail
      go_ret
      exact ⟨by first | rfl | (rw [hres, e2]; rfl), rfl⟩

theorem any_no {p : Nat → Bool} {k : Nat} (h : ((List.range k).any p) = false) (hp : p k = false) : ((List.range (k + 1)).any p) = false := by
  rw [List.range_succ, List.any_append, h]; simp [hp]
theorem any_yes {p : Nat → Bool} {k m : Nat} (hk : k < m) (hp : p k = true) : ((List.range m).any p) = true := by
  rw [List.any_eq_true]; exact ⟨k, by simpa using hk, hp⟩


set_option maxRecDepth 100000 in
set_option maxHeartbeats 1000000 in
/-- the first place at which the closure says yes, or -1 -/
theorem idxLet (g : Nat) (n : Int) (v : Value) (l : List Int) (w : World) (h : Reads w v (ints l)) (hcap : w.cell? ⟨g, 0, none⟩ = some (.int .i64 n)) (n0 : -100 ≤ n) (n1 : n ≤ 100) :
    Calls Tryd.prog 125 #[v, .func (.func 109) #[] #[.pointer (some ⟨g, 0, none⟩)]] w fun e w' => (∃ q : Int, e = .returned (.int .i64 q) ∧ decide (0 ≤ q) = (List.range l.length).any fun i => !letterB n (nth l i)) ∧ w = w' := by
  have hs := h.small
  have hlen := h.len (P := Tryd.prog) 35 3 ⟨_, sliceI⟩
  simp only [length_ints] at hs hlen
  go_enter Tryd.func125, Tryd.ntmps125
  go_wp2_with fail
  go_loop [5, 8] (fun _ i => ∃ k : Nat, k ≤ l.length ∧ i = .int .i64 k ∧ ((List.range k).any fun i => !letterB n (nth l i)) = false) (fun _ i => l.length - (intOf i).toNat)
  case atStart => exact ⟨0, by omega, rfl, rfl⟩
  case round =>
    obtain ⟨k, hk, rfl, hok⟩ := hrel
    by_cases hlt : k < l.length
    · have hi := h.idx 35 sliceI sizeI .i64 k (by omega) (by simpa using hlt)
      simp only [Int.toNat_natCast] at hi
      have hc := h.int hlt
      have hC := hid (fun a => letclo g n a w hcap n0 n1)
      cases e1 : (!letterB n (nth l k)) with
      | true =>
        have hyes := hid (any_yes (p := fun i => !letterB n (nth l i)) (m := l.length) hlt e1)
        generalize hx : nth l k = a at *
        have hX := hid hx
        clear hx hok
        go_wp2_with (go_at_call 109; refine (hC.out _).mono ?_; rintro e w1 ⟨rfl, rfl⟩; rw [e1])
        go_ret
        refine ⟨⟨_, rfl, ?_⟩, rfl⟩
        rw [hyes.out]; simp
      | false =>
        have hno := hid (any_no (p := fun i => !letterB n (nth l i)) hok e1)
        generalize hx : nth l k = a at *
        have hX := hid hx
        clear hx hok
        go_wp2_with (go_at_call 109; refine (hC.out _).mono ?_; rintro e w1 ⟨rfl, rfl⟩; rw [e1])
        go_round
        case rel => exact ⟨k + 1, by omega, by go_num, hno.out⟩
        case measure => simp [intOf]; omega
    · obtain rfl : k = l.length := by omega
      go_wp2_with fail
      go_ret
      exact ⟨⟨-1, rfl, by first | (rw [hok]; rfl) | (simp)⟩, rfl⟩

set_option maxRecDepth 100000 in
set_option maxHeartbeats 1000000 in
theorem contLet (g : Nat) (n : Int) (v : Value) (l : List Int) (w : World) (h : Reads w v (ints l)) (hcap : w.cell? ⟨g, 0, none⟩ = some (.int .i64 n)) (n0 : -100 ≤ n) (n1 : n ≤ 100) :
    Calls Tryd.prog 108 #[v, .func (.func 109) #[] #[.pointer (some ⟨g, 0, none⟩)]] w fun e w' => e = .returned (.bool ((List.range l.length).any fun i => !letterB n (nth l i))) ∧ w = w' := by
  go_enter Tryd.func108, Tryd.ntmps108
  go_wp2_with (go_at_call 125; refine (idxLet g n v l _ (by assumption) (by assumption) n0 n1).mono ?_; rintro e w1 ⟨⟨q, rfl, hq⟩, rfl⟩)
  go_ret
  exact ⟨by rw [← hq]; rfl, rfl⟩


theorem any_letters (n : Int) (l : List Int) : (!(List.range l.length).any fun i => !letterB n (nth l i)) = lettersTo n l l.length := by
  rw [lettersTo, List.not_any_eq_all_not]; simp

set_option maxRecDepth 100000 in
set_option maxHeartbeats 1000000 in
theorem letters_impl (v : Value) (l : List Int) (n : Int) (w : World) (h : Reads w v (ints l)) (n0 : -100 ≤ n) (n1 : n ≤ 100) :
    Calls Tryd.prog 90 #[.int .i64 n, v] w fun e w' => e = .returned (.bool (lettersTo n l l.length)) ∧ Below w.heap.size w w' := by
  have hmf : ∀ (fn : Fn) (first cap : Array Value) (w : World), (Instr.makeFunc fn first cap).run Tryd.prog w = .ok (.func fn first cap) w := fun _ _ _ _ => rfl
  go_enter Tryd.func90, Tryd.ntmps90
  go_wp2_with fail
  refine (contLet w.heap.size n v l _ (reads_alloc h _) (by rw [World.cell?_alloc_new]; rfl) n0 n1).mono ?_
  rintro e w1 ⟨rfl, rfl⟩
  cases e1 : (List.range l.length).any fun i => !letterB n (nth l i) with
  | true =>
    have hres : lettersTo n l l.length = false := by rw [← any_letters, e1]; rfl
    go_wp2_with fail
    go_ret
    exact ⟨by first | rfl | (rw [hres]; rfl), (Below.refl _ _).alloc (Nat.le_refl _) _⟩
  | false =>
    have hres : lettersTo n l l.length = true := by rw [← any_letters, e1]; rfl
    go_wp2_with fail
    go_ret
    exact ⟨by first | rfl | (rw [hres]; rfl), (Below.refl _ _).alloc (Nat.le_refl _) _⟩

theorem strands_impl (n : Int) (w : World) :
    Calls Tryd.prog 89 #[.int .i64 n] w fun e w' => e = .returned (.bool (inB n 0 12)) ∧ w = w' := by
  go_enter Tryd.func89, Tryd.ntmps89
  go_wp2_with (go_at_call 67; refine (in_impl _ _ _ _).mono ?_; rintro e w1 ⟨rfl, rfl⟩)
  go_ret
  exact ⟨rfl, rfl⟩

set_option maxRecDepth 100000 in
set_option maxHeartbeats 2000000 in
theorem vb_impl (n : Int) (v : Value) (l : List Int) (w : World) (h : Reads w v (ints l)) :
    Calls Tryd.prog 62 #[.agg #[.int .i64 n, v]] w fun e w' => e = .returned (.bool (okB n l)) ∧ Below w.heap.size w w' := by
  have hs := h.small
  have hlen := h.len (P := Tryd.prog) 35 3 ⟨_, sliceI⟩
  simp only [length_ints] at hs hlen
  have hr0 := reads_alloc h (.cells #[.int .i64 n, v] 40)
  have hbox : Below w.heap.size w (w.alloc (.cells #[.int .i64 n, v] 40)) := (Below.refl _ _).alloc (Nat.le_refl _) _
  cases e1 : inB n 0 12 with
  | false =>
    have hno : okB n l = false := by simp [okB, e1]
    go_enter Tryd.func62, Tryd.ntmps62
    go_wp2_with (go_at_call 89; refine (strands_impl _ _).mono ?_; rintro e w1 ⟨rfl, rfl⟩; rw [e1])
    go_ret
    exact ⟨by first | rfl | (rw [hno]; rfl), hbox⟩
  | true =>
    obtain ⟨x0, x1⟩ := inB_yes' e1
    by_cases h40 : l.length ≤ 40
    · have hd : decide ((l.length : Int) ≤ 40) = true := by simp; omega
      have hres : okB n l = lettersTo n l l.length := by simp [okB, e1, h40]
      have hq := hid (letters_impl v l n _ hr0 (by omega) (by omega))
      go_enter Tryd.func62, Tryd.ntmps62
      go_wp2_with (go_at_call 89; refine (strands_impl _ _).mono ?_; rintro e w1 ⟨rfl, rfl⟩; rw [e1])
      refine hq.out.mono ?_
      rintro e w1 ⟨rfl, hb⟩
      cases e2 : lettersTo n l l.length with
      | true =>
        go_wp2_with fail
        go_ret
        exact ⟨by first | rfl | (rw [hres, e2]; rfl), hbox.trans (hb.mono (by simp))⟩
      | false =>
        go_wp2_with fail
        go_ret
        exact ⟨by first | rfl | (rw [hres, e2]; rfl), hbox.trans (hb.mono (by simp))⟩
    · have hd : decide ((l.length : Int) ≤ 40) = false := by simp; omega
      have hno : okB n l = false := by simp [okB, h40]
      go_enter Tryd.func62, Tryd.ntmps62
      go_wp2_with (go_at_call 89; refine (strands_impl _ _).mono ?_; rintro e w1 ⟨rfl, rfl⟩; rw [e1])
      go_ret
      exact ⟨by first | rfl | (rw [hno]; rfl), hbox⟩


end Go.Proofs.YtkgdbobhppmaiaaDoor
