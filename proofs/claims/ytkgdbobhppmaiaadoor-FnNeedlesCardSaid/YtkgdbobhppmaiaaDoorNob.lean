/- Contracts: the laws' helpers on slices of slices and on normal forms. -/
import Derived.Test.YtkgdbobhppmaiaaDoorRow
import Derived.Test.YtkgdbobhppmaiaaDoorBrc
namespace Go.Proofs.YtkgdbobhppmaiaaDoor
open Go.RowKit

theorem sliceII : Tryd.prog.underlying 101 = some (.slice 35) := by kernel_rfl
theorem sizeSI : (sizeOf 35).run Tryd.prog = fun w => .ok 1 w := by funext w; kernel_rfl
theorem infoSI : (Tryd.prog.info? 35).map (fun i => (i.zero, i.size, i.bytes)) = some (some (.slice none 0 0), 1, 24) := by kernel_rfl


set_option maxRecDepth 100000 in
set_option maxHeartbeats 1000000 in
/-- the comparison, quiet -/
theorem eqIq (v u : Value) (l m : List Int) (w : World) (h : Reads w v (ints l)) (h' : Reads w u (ints m)) :
    Calls Tryd.prog 64 #[v, u] w fun e w' => e = .returned (.bool (decide (l = m))) ∧ ∃ q, w' = w.drewN q := by
  have hs := h.small
  have hs' := h'.small
  simp only [length_ints] at hs hs'
  have hlen := h.len (P := Tryd.prog) 35 3 ⟨_, sliceI⟩
  have hlen' := h'.len (P := Tryd.prog) 35 3 ⟨_, sliceI⟩
  simp only [length_ints] at hlen hlen'
  by_cases hne : l.length = m.length
  · have hb : ((l.length : Int) != (m.length : Int)) = false := by simp [hne]
    go_enter Tryd.func64, Tryd.ntmps64
    go_wp2_with fail
    go_loopw [5] (fun i wr => ∃ (k q : Nat), k ≤ l.length ∧ i = .int .i64 k ∧ (∀ j, j < k → nth l j = nth m j) ∧ wr = w.drewN q) (fun i _ => l.length - (intOf i).toNat)
    case atStart =>
      exact ⟨0, 0, by omega, rfl, by omega, rfl⟩
    case round =>
      obtain ⟨k, q, hk, rfl, heq, rfl⟩ := hrel
      by_cases hlt : k < l.length
      · have hltm : k < m.length := by omega
        have hi := h.idx 35 sliceI sizeI .i64 k (by omega) (by simpa using hlt)
        have hi2 := h'.idx 35 sliceI sizeI .i64 k (by omega) (by simpa using hltm)
        simp only [Int.toNat_natCast] at hi hi2
        have hc := h.int hlt
        have hc2 := h'.int hltm
        clear hne
        go_wp2_with fail
        go_quiet (fail)
        go_wp2_with fail
        · go_ret
          have hx := ne_nth ‹_›
          exact ⟨by simp [hx], _, World.drewN_drewN ..⟩
        · go_roundw
          case rel => exact ⟨k + 1, _, by omega, by go_num, forall_snoc heq (eq_nth ‹_›), rfl⟩
          case measure => simp [intOf]; omega
      · obtain rfl : k = l.length := by omega
        have hx : l = m := ext_nth hne heq
        clear hne
        go_wp2_with fail
        go_ret
        exact ⟨by simp [hx], _, rfl⟩
  · have hx : l ≠ m := fun e => hne (by rw [e])
    have hb : ((l.length : Int) != (m.length : Int)) = true := by rw [bne_iff_ne]; omega
    clear hne
    go_enter Tryd.func64, Tryd.ntmps64
    go_wp2_with fail
    go_ret
    exact ⟨by simp [hx], 0, rfl⟩


theorem ext_rat {a b : List (List Int)} (hl : a.length = b.length) (h : ∀ j, j < a.length → rat a j = rat b j) : a = b := by
  apply List.ext_getElem?
  intro j
  by_cases hj : j < a.length
  · rw [rat_of hj, rat_of (by omega), h j hj]
  · rw [List.getElem?_eq_none (by omega), List.getElem?_eq_none (by omega)]

/-- a callee that only draws, inside a region that draws -/
theorem quietQ {P : Program} {f : FuncId} {args : Array Value} {w : World} {n : Nat} {v : Value}
    (h : Calls P f args (w.drewN n) fun e w' => e = .returned v ∧ ∃ q, w' = (w.drewN n).drewN q) : Calls P f args (w.drewN n) fun e w'' => e = .returned v ∧ ∃ m, w'' = w.drewN m :=
  h.mono fun _ _ ⟨he, q, hq⟩ => ⟨he, n + q, by rw [hq, World.drewN_drewN]⟩

/-- what is left of a size behind rows -/
def szNN (ls : List (List Int)) (left : Int) : Int := if left - (tot ls + ls.length) < 0 then -1 else left - (tot ls + ls.length)
theorem szNN_yes {ls : List (List Int)} {q : Int} (h : ¬ q - (tot ls + ls.length) < 0) : szNN ls q = q - (tot ls + ls.length) := by simp [szNN, h]
theorem szNN_no {ls : List (List Int)} {q : Int} (h : q - (tot ls + ls.length) < 0) : szNN ls q = -1 := by simp [szNN, h]

/-- rows that the call has made so far, the outer slice among them filled up with nils -/
structure MadeR (w : World) (g : Nat) (v : Value) (vs : List Value) (ls : List (List Int)) (n : Nat) : Prop where
  out : Own w g 35 v (vs ++ List.replicate (n - vs.length) (.slice none 0 0))
  blk : blk v = some g
  len : vs.length = ls.length
  row : ∀ i, i < ls.length → Own w (g + 1) 2 (vat vs i) (ints (rat ls i))
  apart : ∀ i j, i < j → j < ls.length → Apart (vat vs i) (vat vs j)
theorem vat_snoc {vs : List Value} {v : Value} {i : Nat} (h : i < vs.length) : vat (vs ++ [v]) i = vat vs i := by unfold vat; rw [List.getElem?_append_left h]
theorem vat_last (vs : List Value) (v : Value) : vat (vs ++ [v]) vs.length = v := by simp [vat]
theorem rat_snoc {ls : List (List Int)} {l : List Int} {i : Nat} (h : i < ls.length) : rat (ls ++ [l]) i = rat ls i := by unfold rat; rw [List.getElem?_append_left h]
theorem rat_last (ls : List (List Int)) (l : List Int) : rat (ls ++ [l]) ls.length = l := by simp [rat]
theorem MadeR.step {w w' : World} {g : Nat} {v : Value} {vs : List Value} {ls : List (List Int)} {n : Nat} (h : MadeR w g v vs ls n) (hk : vs.length < n) (hb : Below w.heap.size w w') {u : Value} {l : List Int} (hu : Own w' w.heap.size 2 u (ints l)) :
    MadeR (w'.setCell (adr v vs.length) u) g v (vs ++ [u]) (ls ++ [l]) n := by
  have hg : g < w.heap.size := (h.out.blk_lt h.blk).2
  have hlen : (vs ++ List.replicate (n - vs.length) (.slice none 0 0 : Value)).length = n := by simp; omega
  have hab := (h.out.below hb).adr_blk (i := vs.length) (by rw [hlen]; exact hk)
  have hblk : (adr v vs.length).block = g := by have := hab.1; rw [h.blk] at this; injection this with e; exact e.symm
  have ho := (h.out.below hb).set (i := vs.length) (by rw [hlen]; exact hk) u
  have hset : ∀ {x : Value} {xs : List Value}, Own w' (g + 1) 2 x xs → Own (w'.setCell (adr v vs.length) u) (g + 1) 2 x xs := fun hx =>
    hx.keep fun k hk2 _ => Below.heap_setCell _ _ _ _ (fun e => by have := (hx.blk_lt hk2).1; omega)
  refine ⟨?_, h.blk, by simp [h.len], ?_, ?_⟩
  · rw [List.set_append_right _ _ (Nat.le_refl _), Nat.sub_self, show n - vs.length = (n - (vs ++ [u]).length) + 1 by simp; omega, List.replicate_succ, List.set_cons_zero] at ho
    simpa using ho
  · intro i hi
    by_cases e : i < ls.length
    · rw [vat_snoc (by rw [h.len]; exact e), rat_snoc e]
      exact hset ((h.row i e).below hb)
    · have : i = ls.length := by simp at hi; omega
      subst this
      rw [rat_last, show ls.length = vs.length from h.len.symm, vat_last]
      exact hset (hu.mono (by omega))
  · intro i j hij hj
    by_cases e : j < ls.length
    · rw [vat_snoc (by rw [h.len]; omega), vat_snoc (by rw [h.len]; exact e)]
      exact h.apart i j hij e
    · have : j = ls.length := by simp at hj; omega
      subst this
      rw [vat_snoc (by rw [h.len]; exact hij), show ls.length = vs.length from h.len.symm, vat_last]
      exact apart_new (h.row i (by omega)) hu

end Go.Proofs.YtkgdbobhppmaiaaDoor
