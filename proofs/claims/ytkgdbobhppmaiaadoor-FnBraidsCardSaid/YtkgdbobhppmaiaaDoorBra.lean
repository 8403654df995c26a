/- Contracts: tests of braids, their copies, comparisons and marks. -/
import Derived.Test.YtkgdbobhppmaiaaDoorHelp
import Derived.Test.YtkgdbobhppmaiaaDoorBas
import Derived.Test.YtkgdbobhppmaiaaDoorSum
import Derived.Test.YtkgdbobhppmaiaaDoorApq
namespace Go.Proofs.YtkgdbobhppmaiaaDoor
open Go.RowKit

theorem Own.one {w : World} {B : Nat} {e : TypeId} {v : Value} {xs : List Value} (h : Own w B e v xs) : v.oneCell' = true := by
  rcases h with ⟨rfl, _⟩ | ⟨g, o, cap, cur, rfl, _⟩ <;> rfl
theorem Reads.one {w : World} {v : Value} {xs : List Value} (h : Reads w v xs) : v.oneCell' = true := by
  obtain ⟨a, c, rfl, _⟩ := h.form; rfl

/-- k is a letter on n strands -/
def letterB (n k : Int) : Bool := !(k == 0) && inB k (1 - n) (n - 1)
/-- the first k are letters -/
def lettersTo (n : Int) (l : List Int) (k : Nat) : Bool := (List.range k).all fun i => letterB n (nth l i)
theorem letters_succ (n : Int) (l : List Int) (k : Nat) : lettersTo n l (k + 1) = (lettersTo n l k && letterB n (nth l k)) := by simp [lettersTo, List.range_succ]
theorem letters_no {n : Int} {l : List Int} {k m : Nat} (h : letterB n (nth l k) = false) (hk : k < m) : lettersTo n l m = false := by
  cases e : lettersTo n l m with
  | false => rfl
  | true =>
    rw [lettersTo, List.all_eq_true] at e
    have := e k (by simpa using hk)
    rw [h] at this; cases this
theorem letters_at {n : Int} {l : List Int} {m k : Nat} (h : lettersTo n l m = true) (hk : k < m) : nth l k ≠ 0 ∧ 1 - n ≤ nth l k ∧ nth l k ≤ n - 1 := by
  rw [lettersTo, List.all_eq_true] at h
  have := h k (by simpa using hk)
  simp only [letterB, inB, Bool.and_eq_true, Bool.not_eq_true', beq_eq_false_iff_ne, decide_eq_true_eq] at this
  exact ⟨this.1, this.2.1, this.2.2⟩
theorem inB_yes' {x lo hi : Int} (h : inB x lo hi = true) : lo ≤ x ∧ x ≤ hi := by simpa [inB] using h
/-- whether a braid is valid -/
def okB (n : Int) (l : List Int) : Bool := inB n 0 12 && decide (l.length ≤ 40) && lettersTo n l l.length
theorem okB_of {n : Int} {l : List Int} (h : okB n l = true) : 0 ≤ n ∧ n ≤ 12 ∧ l.length ≤ 40 ∧ ∀ k, k < l.length → nth l k ≠ 0 ∧ 1 - n ≤ nth l k ∧ nth l k ≤ n - 1 := by
  simp only [okB, Bool.and_eq_true, decide_eq_true_eq] at h
  obtain ⟨⟨h1, h2⟩, h3⟩ := h
  have := inB_yes' h1
  exact ⟨this.1, this.2, h2, fun k hk => letters_at h3 hk⟩


set_option maxRecDepth 100000 in
set_option maxHeartbeats 1000000 in
theorem letters_spec (v : Value) (l : List Int) (n : Int) (w : World) (h : Reads w v (ints l)) (n0 : -100 ≤ n) (n1 : n ≤ 100) :
    Calls Tryd.prog 88 #[v, .int .i64 n] w fun e w' => e = .returned (.bool (lettersTo n l l.length)) ∧ w = w' := by
  have hs := h.small
  have hlen := h.len (P := Tryd.prog) 35 3 ⟨_, sliceI⟩
  simp only [length_ints] at hs hlen
  go_enter Tryd.func88, Tryd.ntmps88
  go_wp2_with fail
  go_loop [5] (fun i => ∃ k : Nat, k ≤ l.length ∧ i = .int .i64 k ∧ lettersTo n l k = true) (fun i => l.length - (intOf i).toNat)
  case atStart => exact ⟨0, by omega, rfl, rfl⟩
  case round =>
    obtain ⟨k, hk, rfl, hok⟩ := hrel
    have hok' := hid hok
    clear hok
    by_cases hlt : k < l.length
    · have hi := h.idx 35 sliceI sizeI .i64 k (by omega) (by simpa using hlt)
      simp only [Int.toNat_natCast] at hi
      have hc := h.int hlt
      generalize hx : nth l k = a at *
      have hX := hid hx
      clear hx
      cases e1 : (a == 0) with
      | true =>
        have hno : lettersTo n l l.length = false := letters_no (k := k) (by rw [hX.out, letterB, e1]; rfl) hlt
        go_wp2_with fail
        go_ret
        exact ⟨by first | rfl | (rw [hno]; rfl), rfl⟩
      | false =>
        cases e2 : inB a (1 - n) (n - 1) with
        | false =>
          have hno : lettersTo n l l.length = false := letters_no (k := k) (by rw [hX.out, letterB, e1, e2]; rfl) hlt
          go_wp2_with fail
          refine (in_spec _ _ _ _).mono ?_
          rintro e w1 ⟨rfl, rfl⟩
          rw [e2]
          go_wp2_with fail
          go_ret
          exact ⟨by first | rfl | (rw [hno]; rfl), rfl⟩
        | true =>
          have hok2 : Hid (lettersTo n l (k + 1) = true) := hid (by rw [letters_succ, hok'.out, hX.out, letterB, e1, e2]; rfl)
          go_wp2_with fail
          refine (in_spec _ _ _ _).mono ?_
          rintro e w1 ⟨rfl, rfl⟩
          rw [e2]
          go_wp2_with fail
          go_round
          case rel => exact ⟨k + 1, by omega, by go_num, hok2.out⟩
          case measure => simp [intOf]; omega
    · obtain rfl : k = l.length := by omega
      have hyes := hok'.out
      go_wp2_with fail
      go_ret
      exact ⟨by first | rfl | (rw [hyes]; rfl), rfl⟩

/-- a braid in memory: the strands, and a word that reads as l -/
structure BoxB (w : World) (a : Addr) (n : Int) (v : Value) (l : List Int) : Prop where
  spot : a.spot = none
  c0 : w.cell? a = some (.int .i64 n)
  c1 : w.cell? ⟨a.block, a.off + 1, none⟩ = some v
  rd : Reads w v (ints l)

set_option maxRecDepth 100000 in
set_option maxHeartbeats 2000000 in
theorem bok_spec (g o : Nat) (n : Int) (v : Value) (l : List Int) (w : World) (hc0 : w.cell? ⟨g, o, none⟩ = some (.int .i64 n)) (hc1 : w.cell? ⟨g, o + 1, none⟩ = some v) (h : Reads w v (ints l)) :
    Calls Tryd.prog 59 #[.pointer (some ⟨g, o, none⟩)] w fun e w' => e = .returned (.bool (okB n l)) ∧ Below w.heap.size w w' := by
  have hs := h.small
  have hlen := h.len (P := Tryd.prog) 35 3 ⟨_, sliceI⟩
  simp only [length_ints] at hs hlen
  cases e1 : inB n 0 12 with
  | false =>
    have hno : okB n l = false := by simp [okB, e1]
    have hI := hid (fun w => by have := in_spec n 0 12 w; rw [e1] at this; exact this)
    go_enter Tryd.func59, Tryd.ntmps59
    go_wp2_with fail
    go_quiet ((go_at_call 84; exact quietS (hI.out _)))
    go_wp2_with fail
    go_ret
    exact ⟨by first | rfl | (rw [hno]; rfl), below_drewN (Below.refl _ _) _⟩
  | true =>
    obtain ⟨x0, x1⟩ := inB_yes' e1
    have hI := hid (fun w => by have := in_spec n 0 12 w; rw [e1] at this; exact this)
    by_cases h40 : l.length ≤ 40
    · have hd : decide ((l.length : Int) ≤ 40) = true := by simp; omega
      cases e2 : lettersTo n l l.length with
      | true =>
        have hq := hid (fun m => by have := letters_spec v l n (w.drewN m) (h.drewN m) (by omega) (by omega); rw [e2] at this; exact this)
        have hres : okB n l = true := by simp [okB, e1, h40, e2]
        go_enter Tryd.func59, Tryd.ntmps59
        go_wp2_with fail
        go_quiet ((first | (go_at_call 84; exact quietS (hI.out _)) | (go_at_call 88; exact quietS (hq.out _))))
        go_wp2_with fail
        go_ret
        exact ⟨by first | rfl | (rw [hres]; rfl), below_drewN (Below.refl _ _) _⟩
      | false =>
        have hq := hid (fun m => by have := letters_spec v l n (w.drewN m) (h.drewN m) (by omega) (by omega); rw [e2] at this; exact this)
        have hres : okB n l = false := by simp [okB, e1, h40, e2]
        go_enter Tryd.func59, Tryd.ntmps59
        go_wp2_with fail
        go_quiet ((first | (go_at_call 84; exact quietS (hI.out _)) | (go_at_call 88; exact quietS (hq.out _))))
        go_wp2_with fail
        go_ret
        exact ⟨by first | rfl | (rw [hres]; rfl), below_drewN (Below.refl _ _) _⟩
    · have hd : decide ((l.length : Int) ≤ 40) = false := by simp; omega
      have hno : okB n l = false := by simp [okB, h40]
      go_enter Tryd.func59, Tryd.ntmps59
      go_wp2_with fail
      go_quiet ((go_at_call 84; exact quietS (hI.out _)))
      go_wp2_with fail
      go_ret
      exact ⟨by first | rfl | (rw [hno]; rfl), below_drewN (Below.refl _ _) _⟩


end Go.Proofs.YtkgdbobhppmaiaaDoor
