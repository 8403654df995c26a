/- Contracts: reduced words. -/
import Derived.Test.YtmeccemnmkobbaaRwa
import Derived.Test.YtmeccemnmkobbaaSwp
import Derived.Test.YtmeccemnmkobbaaInv
namespace Go.Proofs.Ytmeccemnmkobbaa
open Go.RowKit

/-- the exchange at the first descent -/
def stepL (l : List Int) : List Int := match descF l with
  | [] => l
  | k :: _ => swapAt l k.toNat
def headL (l : List Int) : List Int := match descF l with
  | [] => []
  | k :: _ => [k]
def curAt (l : List Int) : Nat → List Int
  | 0 => l
  | t + 1 => stepL (curAt l t)
def outAt (l : List Int) : Nat → List Int
  | 0 => []
  | t + 1 => outAt l t ++ headL (curAt l t)
/-- the exchanges that sort a list, the leftmost one first -/
def redF (l : List Int) : List Int := outAt l (invsF l).toNat
@[simp] theorem length_stepL (l : List Int) : (stepL l).length = l.length := by unfold stepL; split <;> simp
@[simp] theorem length_curAt (l : List Int) (t : Nat) : (curAt l t).length = l.length := by
  induction t with
  | zero => rfl
  | succ t ih => rw [curAt, length_stepL, ih]
theorem mem_descF {l : List Int} {x : Int} (h : x ∈ descF l) : ∃ k : Nat, x = k ∧ k + 1 < l.length ∧ nth l (k + 1) < nth l k := by
  unfold descF listTo at h
  rw [List.mem_map] at h
  obtain ⟨k, hk, rfl⟩ := h
  rw [List.mem_filter, List.mem_range] at hk
  exact ⟨k, rfl, by omega, by have := hk.2; unfold isDesc at this; simpa using this⟩
theorem descF_first {l : List Int} {k : Nat} (hk : k + 1 < l.length) (hno : ∀ i, i < k → isDesc l i = false) (hd : isDesc l k = true) : ∃ r, descF l = (k : Int) :: r := by
  unfold descF listTo
  have h1 : ∀ m, k < m → ∃ r, (List.range m).filter (isDesc l) = k :: r := by
    intro m hm
    induction m with
    | zero => omega
    | succ m ih =>
      rw [List.range_succ, List.filter_append]
      by_cases e : k = m
      · subst e
        have : (List.range k).filter (isDesc l) = [] := by
          rw [List.filter_eq_nil_iff]
          intro i hi
          rw [List.mem_range] at hi
          simp [hno i hi]
        rw [this]; simp [hd]
      · obtain ⟨r, hr⟩ := ih (by omega)
        rw [hr]; exact ⟨_, rfl⟩
  obtain ⟨r, hr⟩ := h1 (l.length - 1) (by omega)
  rw [hr]; exact ⟨_, rfl⟩
theorem descF_none {l : List Int} (hno : ∀ i, i + 1 < l.length → isDesc l i = false) : descF l = [] := by
  unfold descF listTo
  have : (List.range (l.length - 1)).filter (isDesc l) = [] := by
    rw [List.filter_eq_nil_iff]
    intro i hi
    rw [List.mem_range] at hi
    simp [hno i (by omega)]
  rw [this]; rfl
theorem stepL_at {l : List Int} {k : Nat} {r : List Int} (h : descF l = (k : Int) :: r) : stepL l = swapAt l k ∧ headL l = [(k : Int)] := by
  unfold stepL headL; rw [h]; simp
theorem invs_step {l : List Int} {k : Int} {r : List Int} (h : descF l = k :: r) : invsF (stepL l) = invsF l - 1 := by
  obtain ⟨j, rfl, hj, hd⟩ := mem_descF (l := l) (x := k) (by rw [h]; simp)
  rw [(stepL_at h).1]
  exact invs_desc hj hd
theorem stays_done {l : List Int} {t : Nat} (h : descF (curAt l t) = []) (m : Nat) : curAt l (t + m) = curAt l t ∧ outAt l (t + m) = outAt l t := by
  induction m with
  | zero => exact ⟨rfl, rfl⟩
  | succ m ih =>
    obtain ⟨a, b⟩ := ih
    constructor
    · show stepL (curAt l (t + m)) = _
      rw [a]; unfold stepL; rw [h]
    · show outAt l (t + m) ++ headL (curAt l (t + m)) = _
      rw [a, b]; unfold headL; rw [h]; simp
/-- behind t exchanges nothing is left to be exchanged -/
theorem redF_at {l : List Int} {t : Nat} (hi : invsF (curAt l t) = invsF l - t) (h : descF (curAt l t) = []) : redF l = outAt l t := by
  have h0 := invsF_nonneg (curAt l t)
  have := (stays_done h ((invsF l).toNat - t)).2
  unfold redF
  rw [show t + ((invsF l).toNat - t) = (invsF l).toNat by omega] at this
  exact this
/-- the letters of the word: one more each -/
def lettersF (l : List Int) : List Int := (redF l).map (· + 1)
/-- how long a slice value is -/
def lenV : Value → Nat
  | .slice _ n _ => n
  | _ => 0
theorem Own.lenV_eq {w : World} {B : Nat} {e : TypeId} {v : Value} {xs : List Value} (h : Own w B e v xs) : lenV v = xs.length := by
  obtain ⟨a, c, rfl, -⟩ := h.reads.form; rfl
theorem startF_nil {l : List Int} (h : descF l = []) : startF l = [] := by rw [startF_descF, h]; rfl
theorem startF_cons {l : List Int} {k : Int} {r : List Int} (h : descF l = k :: r) : startF l = (k + 1) :: r.map (· + 1) := by rw [startF_descF, h]; rfl

set_option maxRecDepth 100000 in
set_option maxHeartbeats 4000000 in
theorem red_impl' (v : Value) (l : List Int) (w : World) (h : Reads w v (ints l)) (hl : l.length ≤ 1048576) (hi0 : invsF l ≤ 1048576) :
    Calls Try.prog 115 #[v] w fun e w' => ∃ u, e = .returned u ∧ Own w' w.heap.size 2 u (ints (redF l)) ∧ Below w.heap.size w w' := by
  have hI0 := hid (invsF_nonneg l)
  go_enter Try.func115, Try.ntmps115
  go_wp2_with fail
  refine (clone_run _ _ _ h hl).mono ?_
  rintro e w1 ⟨x, rfl, hx, hb1⟩
  go_wp2_with fail
  go_loopw [4, 5, 6] (fun u _ _ wr => ∃ t : Nat, invsF (curAt l t) = invsF l - t ∧ Own wr w.heap.size 2 x (ints (curAt l t)) ∧ Own wr w1.heap.size 2 u (ints (outAt l t)) ∧ (outAt l t).length = t ∧ w1.heap.size ≤ wr.heap.size ∧ Below w.heap.size w wr) (fun u _ _ _ => (invsF l).toNat - lenV u)
  case atStart =>
    exact ⟨0, by simp [curAt], own_alloc hx _, own_empty w1 _ (Nat.le_refl _), rfl, by simp, hb1.alloc hb1.size _⟩
  case round =>
    have hz := hb1.size
    have hxb := hid (fun k (hk : blk x = some k) => (hx.blk_lt hk).2)
    clear hx hb1
    obtain ⟨t, hI, hcur, hout, hlt, hw1, hb⟩ := hrel
    have hlv := hid hout.lenV_eq
    have hll := length_curAt l t
    have hcu := hid (show curAt l (t + 1) = stepL (curAt l t) from rfl)
    have hou := hid (show outAt l (t + 1) = outAt l t ++ headL (curAt l t) from rfl)
    have hfin := hid (fun h => redF_at (l := l) (t := t) hI h)
    have hIp := hid (invsF_nonneg (curAt l t))
    generalize hE : curAt l t = E at *
    have hE' := hid hE
    clear hE
    go_wp2_with fail
    refine (desc_impl _ _ _ hcur.reads (by omega)).mono ?_
    rintro e w2 ⟨d, rfl, hd, hb2⟩
    have hb3 := hb.trans (hb2.mono hb.size)
    replace hcur := hcur.below hb2
    replace hout := hout.below hb2
    have hsz2 := hb2.size
    have hdl := hd.reads.len (P := Try.prog) 32 3 ⟨_, sliceI⟩
    simp only [length_ints] at hdl
    clear hb hb2
    cases hD : descF E with
    | nil =>
      have hres := hid (hfin.out hD)
      rw [hD] at hd hdl
      clear hD
      go_wp2_with fail
      go_ret
      exact ⟨_, rfl, by rw [hres.out]; exact hout.mono hz, hb3⟩
    | cons k r =>
      obtain ⟨j, rfl, hj, hdj⟩ := mem_descF (l := E) (x := k) (by rw [hD]; simp)
      obtain ⟨hs1, hs2⟩ := stepL_at hD
      have hI2 := hid (show invsF (curAt l (t + 1)) = invsF l - (t + 1 : Nat) by rw [hcu.out, invs_step hD]; omega)
      rw [hD] at hd hdl
      have hi1 := hd.reads.idx 32 sliceI sizeI .i64 0 (by omega) (by simp)
      have hc1 := hd.reads.int (i := 0) (by simp)
      simp only [Int.toNat_zero] at hi1
      rw [show nth ((j : Int) :: r) 0 = (j : Int) by simp [nth]] at hc1
      have hne0 : (((((j : Int) :: r).length : Nat) : Int) == 0) = false := by rw [beq_eq_false_iff_ne]; simp; omega
      have hia := hcur.reads.idx 32 sliceI sizeI .i64 (j : Int) (by omega) (by simp; omega)
      have hib := hcur.reads.idx 32 sliceI sizeI .i64 ((j : Int) + 1) (by omega) (by simp; omega)
      rw [show ((j : Int) + 1).toNat = j + 1 by omega] at hib
      simp only [Int.toNat_natCast] at hia
      have ca := hcur.reads.cell j _ (ints_at (by omega))
      have cb := hcur.reads.cell (j + 1) _ (ints_at hj)
      have fa := hcur.frozen (i := j) (by simp; omega)
      have fb := hcur.frozen (i := j + 1) (by simp; omega)
      have aa := (hcur.adr_blk (i := j) (by simp; omega))
      have ab := (hcur.adr_blk (i := j + 1) (by simp; omega))
      have hne := hcur.adr_ne (i := j) (j := j + 1) (by simp; omega) (by omega)
      have hne2 := hcur.adr_ne (i := j + 1) (j := j) (by simp; omega) (by omega)
      have hst := ((hcur.set (i := j) (by simp; omega) (.int .i64 (nth E (j + 1)))).set (i := j + 1) (by simp; omega) (.int .i64 (nth E j))).drew
      rw [ints_set, ints_set] at hst
      change Own _ _ _ _ (ints (swapAt E j)) at hst
      have hlo : ∀ k, blk u4 = some k → w1.heap.size ≤ k := fun k hk => (hout.blk_lt hk).1
      have hout2 := ((hout.keep (w' := (w2.setCell (adr x j) (.int .i64 (nth E (j + 1)))).setCell (adr x (j + 1)) (.int .i64 (nth E j))) (fun k hk _ => (Below.heap_setCell _ _ _ _ (fun e => by have := hlo k hk; have := hxb.out _ ab.1; omega)).trans (Below.heap_setCell _ _ _ _ (fun e => by have := hlo k hk; have := hxb.out _ aa.1; omega))))).drew
      have hb4 := ((hb3.setCell aa.2.1 (.int .i64 (nth E (j + 1)))).setCell ab.2.1 (.int .i64 (nth E j))).drew
      have hbs : w1.heap.size ≤ ((w2.setCell (adr x j) (.int .i64 (nth E (j + 1)))).setCell (adr x (j + 1)) (.int .i64 (nth E j))).drew.heap.size := by simp [World.setCell]; omega
      obtain ⟨v', w', hrun, hown', hg, -⟩ := app_oneF (ty := 32) (x := .int .i64 (j : Int)) sliceI infoI rfl hout2 rfl hbs (by have := hI0.out; have := hIp.out; simp; omega) (by decide)
      have hszX : ((w2.setCell (adr x j) (.int .i64 (nth E (j + 1)))).setCell (adr x (j + 1)) (.int .i64 (nth E j))).drew.heap.size = w2.heap.size := by simp [World.setCell]
      rw [hszX] at hrun
      have hst2 := hst.grown hg (fun k hk e => by have := hlo k e; have := hxb.out k hk; omega)
      have hb5 := hb4.grown hg hb4.size (fun k hk => by have := hlo k hk; omega)
      have hST := hid hst2
      have hOU := hid hown'
      have hS1 := hid (hcu.out.trans hs1)
      have hS2 := hid (hou.out.trans (by rw [hs2]))
      have hIn := hid (show t < (invsF l).toNat by have := hI2.out; have := invsF_nonneg (curAt l (t + 1)); omega)
      have hgs := hg.size
      clear hD hdj hs1 hs2 hI hst hout2 hg hst2 hown' hout hb3 hb4 hlo hbs hcu hou hfin
      go_wp2_with fail
      go_region
      go_wp2_with (at_builtin; refine wpList_app hrun rfl _ _ rfl rfl rfl ?_)
      go_roundw
      case rel => exact ⟨t + 1, hI2.out, by rw [hS1.out]; exact hST.out, by rw [hS2.out]; simpa [ints] using hOU.out, by rw [hS2.out]; simp; omega, by simp [World.setCell] at hgs; omega, hb5⟩
      case measure =>
        have e1 := hOU.out.lenV_eq
        have e2 := hlv.out
        have := hIn.out
        simp at e1 e2
        omega


set_option maxRecDepth 100000 in
set_option maxHeartbeats 2000000 in
theorem own_copy (v : Value) (l : List Int) (w : World) (h : Reads w v (ints l)) (hl : l.length ≤ 1048576) :
    Calls Try.prog 73 #[v] w fun e w' => ∃ u, e = .returned u ∧ Own w' w.heap.size 2 u (ints l) ∧ Below w.heap.size w w' := by
  have h1 := reads_alloc h (.cells #[] 2)
  have ho : Own (w.alloc (.cells #[] 2)) w.heap.size 2 (.slice (some ⟨w.heap.size, 0, none⟩) 0 0) [] := own_empty w _ (Nat.le_refl _)
  have hb : Below w.heap.size w (w.alloc (.cells #[] 2)) := (Below.refl _ _).alloc (Nat.le_refl _) _
  obtain ⟨v', w', hrun, hown', hg⟩ := app_run (ty := 32) sliceI infoI rfl ho h1 (oneCell_ints l) (by simp) (by simp; omega) (by decide)
  have hb2 := hb.grown hg (by simp) (fun k hk => (ho.blk_lt hk).1)
  clear h1 ho hb hg
  go_enter Try.func73, Try.ntmps73
  go_wp2_with (at_builtin; refine wpList_app hrun rfl _ _ rfl rfl rfl ?_)
  go_ret
  exact ⟨_, rfl, by simpa using hown', hb2⟩

set_option maxRecDepth 100000 in
set_option maxHeartbeats 2000000 in
theorem before_spec (k : Int) (v : Value) (l : List Int) (w : World) (h : Reads w v (ints l)) (hl : l.length ≤ 1048576) (k0 : 1 ≤ k) (k1 : k < l.length) :
    Calls Try.prog 126 #[.int .i64 k, v] w fun e w' => ∃ u, e = .returned u ∧ Own w' w.heap.size 2 u (ints (swapAt l (k.toNat - 1))) ∧ Below w.heap.size w w' := by
  go_enter Try.func126, Try.ntmps126
  go_wp2_with fail
  refine (own_copy _ _ _ h hl).mono ?_
  rintro e w1 ⟨x, rfl, hx, hb1⟩
  have h1 := h.below hb1
  have hi1 := hx.reads.idx 32 sliceI sizeI .i64 (k - 1) (by omega) (by simp; omega)
  have hi2 := hx.reads.idx 32 sliceI sizeI .i64 k (by omega) (by simp; omega)
  have hj1 := h.idx 32 sliceI sizeI .i64 (k - 1) (by omega) (by simp; omega)
  have hj2 := h.idx 32 sliceI sizeI .i64 k (by omega) (by simp; omega)
  rw [show (k - 1).toNat = k.toNat - 1 by omega] at hi1 hj1
  obtain ⟨t, ht⟩ : ∃ t, k.toNat = t + 1 := ⟨k.toNat - 1, by omega⟩
  rw [ht] at hi1 hi2 hj1 hj2
  simp only [Nat.add_sub_cancel] at hi1 hj1
  have ht' := hid (show k.toNat - 1 = t by omega)
  have htl : t + 1 < l.length := by omega
  have c1 := h1.int (i := t) (by omega)
  have c2 := h1.int (i := t + 1) htl
  have d1 := hx.reads.cell t _ (ints_at (by omega))
  have d2 := hx.reads.cell (t + 1) _ (ints_at htl)
  have f1 := hx.frozen (i := t) (by simp; omega)
  have f2 := hx.frozen (i := t + 1) (by simp; omega)
  have a1 := hx.adr_blk (i := t) (by simp; omega)
  have a2 := hx.adr_blk (i := t + 1) (by simp; omega)
  have hne := hx.adr_ne (i := t) (j := t + 1) (by simp; omega) (by omega)
  have hne2 := hx.adr_ne (i := t + 1) (j := t) (by simp; omega) (by omega)
  have hvb : (adr v t).block < w.heap.size := h.spot t _ (h.int (i := t) (by omega))
  have hnv : adr x t ≠ adr v t := fun e => by have := a1.2.1; rw [e] at this; omega
  have c1' := (World.cell?_setCell_other w1 (adr x t) (adr v t) (.int .i64 (nth l (t + 1))) hnv).trans c1
  have hst := (hx.set (i := t) (by simp; omega) (.int .i64 (nth l (t + 1)))).set (i := t + 1) (by simp; omega) (.int .i64 (nth l t))
  rw [ints_set, ints_set] at hst
  change Own _ _ _ _ (ints (swapAt l t)) at hst
  have hb3 := (hb1.setCell a1.2.1 (.int .i64 (nth l (t + 1)))).setCell a2.2.1 (.int .i64 (nth l t))
  clear h1 hb1 hx hvb hnv
  go_wp2_with fail
  go_ret
  exact ⟨_, rfl, by rw [ht'.out]; exact hst, hb3⟩

set_option maxRecDepth 100000 in
set_option maxHeartbeats 4000000 in
theorem word_spec4 (v : Value) (l : List Int) (w : World) (h : Reads w v (ints l)) (hl : l.length ≤ 1048576) (hi0 : invsF l ≤ 1048576) :
    Calls Try.prog 82 #[v] w fun e w' => ∃ u, e = .returned u ∧ Own w' w.heap.size 2 u (ints (lettersF l)) ∧ Below w.heap.size w w' := by
  have hI0 := hid (invsF_nonneg l)
  have hbA : Below w.heap.size w (w.alloc (.cells #[] 2)) := (Below.refl _ _).alloc (Nat.le_refl _) _
  have hoA : Own (w.alloc (.cells #[] 2)) w.heap.size 2 (.slice (some ⟨w.heap.size, 0, none⟩) 0 0) (ints []) := own_empty w _ (Nat.le_refl _)
  go_enter Try.func82, Try.ntmps82
  go_wp2_with fail
  refine (own_copy _ _ _ (reads_alloc h _) hl).mono ?_
  rintro e w1 ⟨x, rfl, hx, hb1⟩
  have hap := apart_new' hoA hx
  have hoA1 := hoA.below hb1
  replace hb1 := hbA.trans (hb1.mono hbA.size)
  replace hx := hx.mono hbA.size
  clear hoA hbA
  go_wp2_with fail
  go_loopw [3, 4, 5] (fun u x _ wr => ∃ t : Nat, invsF (curAt l t) = invsF l - t ∧ Own wr w.heap.size 2 x (ints (curAt l t)) ∧ Own wr w.heap.size 2 u (ints ((outAt l t).map (· + 1))) ∧ Apart x u ∧ (outAt l t).length = t ∧ Below w.heap.size w wr) (fun u _ _ _ => (invsF l).toNat - lenV u)
  case atStart =>
    exact ⟨0, by simp [curAt], hx, hoA1, hap, rfl, hb1⟩
  case round =>
    clear hx hb1 hoA1 hap
    obtain ⟨t, hI, hcur, hout, hap, hlt, hb⟩ := hrel
    have hlv := hid hout.lenV_eq
    have hll := length_curAt l t
    have hcu := hid (show curAt l (t + 1) = stepL (curAt l t) from rfl)
    have hou := hid (show outAt l (t + 1) = outAt l t ++ headL (curAt l t) from rfl)
    have hfin := hid (fun h => redF_at (l := l) (t := t) hI h)
    have hIp := hid (invsF_nonneg (curAt l t))
    generalize hE : curAt l t = E at *
    have hE' := hid hE
    clear hE
    go_wp2_with fail
    refine (start_spec _ _ _ hcur.reads (by omega)).mono ?_
    rintro e w2 ⟨d, rfl, hd, hb2⟩
    have hb3 := hb.trans (hb2.mono hb.size)
    have hdap := apart_new' hout hd
    replace hcur := hcur.below hb2
    replace hout := hout.below hb2
    have hsz2 := hb2.size
    have hszr := hb.size
    have hdl := hd.reads.len (P := Try.prog) 32 3 ⟨_, sliceI⟩
    simp only [length_ints] at hdl
    clear hb hb2
    cases hD : descF E with
    | nil =>
      have hres := hid (show lettersF l = (outAt l t).map (· + 1) by rw [lettersF, hfin.out hD])
      rw [startF_nil hD] at hd hdl
      clear hD
      go_wp2_with fail
      go_ret
      exact ⟨_, rfl, by rw [hres.out]; exact hout, hb3⟩
    | cons k r =>
      obtain ⟨j, rfl, hj, hdj⟩ := mem_descF (l := E) (x := k) (by rw [hD]; simp)
      obtain ⟨hs1, hs2⟩ := stepL_at hD
      have hI2 := hid (show invsF (curAt l (t + 1)) = invsF l - (t + 1 : Nat) by rw [hcu.out, invs_step hD]; omega)
      rw [startF_cons hD] at hd hdl
      have hi1 := hd.reads.idx 32 sliceI sizeI .i64 0 (by omega) (by simp)
      have hc1 := hd.reads.int (i := 0) (by simp)
      simp only [Int.toNat_zero] at hi1
      rw [show nth (((j : Int) + 1) :: r.map (· + 1)) 0 = (j : Int) + 1 by simp [nth]] at hc1
      have hne0 : ((((((j : Int) + 1) :: r.map (· + 1)).length : Nat) : Int) == 0) = false := by rw [beq_eq_false_iff_ne]; simp; omega
      obtain ⟨v', w', hrun, hown', hg, hst⟩ := app_oneF (ty := 32) (x := .int .i64 ((j : Int) + 1)) sliceI infoI rfl hout rfl (by omega) (by have := hI0.out; have := hIp.out; simp; omega) (by decide)
      have hap2 := hap.stays hcur hst
      have hcur2 := hcur.grown hg hap.ne
      have hb5 := hb3.grown hg hb3.size (fun k hk => (hout.blk_lt hk).1)
      have hd2 := hd.grown hg hdap.ne
      have hi1' := hd2.reads.idx 32 sliceI sizeI .i64 0 (by omega) (by simp)
      have hc1' := hd2.reads.int (i := 0) (by simp)
      simp only [Int.toNat_zero] at hi1'
      rw [show nth (((j : Int) + 1) :: r.map (· + 1)) 0 = (j : Int) + 1 by simp [nth]] at hc1'
      have hC := before_spec ((j : Int) + 1) _ E w' hcur2.reads (by omega) (by omega) (by omega)
      rw [show ((j : Int) + 1).toNat - 1 = j by omega] at hC
      have hlv2 := hid hown'.lenV_eq
      have hOU := hid hown'
      have hS1 := hid (hcu.out.trans hs1)
      have hS2 := hid (hou.out.trans (by rw [hs2]))
      have hIn := hid (show t < (invsF l).toNat by have := hI2.out; have := invsF_nonneg (curAt l (t + 1)); omega)
      have hz5 := hb5.size
      clear hD hdj hs1 hs2 hI hst hown' hout hb3 hcu hou hfin hcur hcur2 hap hap2 hd hd2 hdap hg
      go_wp2_with (at_builtin; refine wpList_app hrun rfl _ _ rfl rfl rfl ?_)
      refine hC.mono ?_
      rintro e w3 ⟨y, rfl, hy, hb6⟩
      have hb7 := hb5.trans (hb6.mono hb5.size)
      have hOU2 := hid (hOU.out.below hb6)
      have hap3 := hid (apart_new' hOU.out hy)
      have hY := hid (hy.mono hz5)
      clear hC hb5 hb6 hy
      go_wp2_with fail
      go_roundw
      case rel => exact ⟨t + 1, hI2.out, by rw [hS1.out]; exact hY.out, by rw [hS2.out]; simpa [ints] using hOU2.out, hap3.out, by rw [hS2.out]; simp; omega, hb7⟩
      case measure =>
        have e1 := hlv2.out
        have e2 := hlv.out
        have := hIn.out
        simp at e1 e2
        omega


set_option maxRecDepth 100000 in
set_option maxHeartbeats 2000000 in
theorem letters_impl4 (v : Value) (l : List Int) (w : World) (h : Reads w v (ints l)) (hl : l.length ≤ 1048576) (hi0 : invsF l ≤ 1048576) (hlr : (redF l).length ≤ 1048576) (hrr : ∀ i, i < (redF l).length → 0 ≤ nth (redF l) i ∧ nth (redF l) i < 1048576) :
    Calls Try.prog 67 #[v] w fun e w' => ∃ u, e = .returned u ∧ Own w' w.heap.size 2 u (ints (lettersF l)) ∧ Below w.heap.size w w' := by
  go_enter Try.func67, Try.ntmps67
  go_wp2_with fail
  refine (red_impl' _ _ _ h hl hi0).mono ?_
  rintro e w1 ⟨x, rfl, hx, hb1⟩
  have hlF := hid (show lettersF l = (redF l).map (· + 1) from rfl)
  have hrr' := hid hrr
  clear hrr
  generalize redF l = R at *
  have hlen := hx.reads.len (P := Try.prog) 32 3 ⟨_, sliceI⟩
  simp only [length_ints] at hlen
  go_wp2_with fail
  go_loopw [4, 9] (fun _ i wr => ∃ k : Nat, k ≤ R.length ∧ i = .int .i64 k ∧ Own wr w.heap.size 2 x (ints (bumpTo R k)) ∧ Below w.heap.size w wr) (fun _ i _ => R.length - (intOf i).toNat)
  case atStart => exact ⟨0, by omega, rfl, by simpa [bumpTo] using hx, hb1⟩
  case round =>
    clear hx hb1
    obtain ⟨k, hk, rfl, hown, hb⟩ := hrel
    by_cases hlt : k < R.length
    · obtain ⟨r0, r1⟩ := hrr'.out k hlt
      have hi := hown.reads.idx 32 sliceI sizeI .i64 k (by omega) (by simp; omega)
      simp only [Int.toNat_natCast] at hi
      have hc := hown.reads.int (i := k) (by simp; omega)
      rw [nth_bumpTo hlt] at hc
      have hf := hown.frozen (i := k) (by simp; omega)
      have hab := (hown.adr_blk (i := k) (by simp; omega)).2.1
      have hst := hown.set (i := k) (by simp; omega) (.int .i64 (nth R k + 1))
      rw [ints_set, bumpTo_step hlt] at hst
      go_wp2_with fail
      go_roundw
      case rel => exact ⟨k + 1, by omega, by go_num, hst, hb.setCell hab _⟩
      case measure => simp [intOf]; omega
    · obtain rfl : k = R.length := by omega
      have hst : Own wr w.heap.size 2 x (ints (lettersF l)) := by rw [hlF.out]; simpa [bumpTo] using hown
      go_wp2_with fail
      go_ret
      exact ⟨_, rfl, hst, hb⟩


end Go.Proofs.Ytmeccemnmkobbaa
