/- Walk of the law on normal forms of joined braids. -/
import Derived.Test.YtmeccemnmkobbaaReq
import Derived.Test.YtmeccemnmkobbaaRdf
import Derived.Test.YtmeccemnmkobbaaSre
import Derived.Test.YtmeccemnmkobbaaBrk
namespace Go.Proofs.Ytmeccemnmkobbaa
open Go.RowKit
open Pm

theorem wd_letters {n : Nat} (p : Pm n) : Wd (lettersF p.1) p := by
  generalize hm : (ni p).toNat = m
  induction m using Nat.strongRecOn generalizing p with
  | _ m ih =>
    cases hd : descF p.1 with
    | nil =>
      have e : p = one n := by
        rcases Classical.em (p = one n) with e | e
        · exact e
        · obtain ⟨k, hk, h0, hle⟩ := has_start p e
          have h1 := (le_sg p hk h0).1 hle
          unfold descF listTo at hd
          rw [List.map_eq_nil_iff, List.filter_eq_nil_iff] at hd
          have h2 := hd (k - 1) (by rw [List.mem_range, p.len]; omega)
          have a1 := p.nth_at (i := k) hk
          have a2 := p.nth_at (i := k - 1) (by omega)
          unfold isDesc at h2
          rw [show k - 1 + 1 = k by omega] at h2
          simp at h2; omega
      have e2 : lettersF p.1 = [] := by unfold lettersF; rw [redF_none hd]; rfl
      rw [e2, e]; exact Wd.nil
    | cons k r =>
      obtain ⟨j, rfl, hj, hlt⟩ := mem_descF (l := p.1) (x := k) (by rw [hd]; simp)
      rw [p.len] at hj
      have hs := stepL_at hd
      have hv := front_val p hj (Nat.succ_pos j)
      rw [Nat.add_sub_cancel] at hv
      have hle : le (sg n (j + 1) hj) p := (le_sg p hj (Nat.succ_pos j)).2 (by
        rw [Nat.add_sub_cancel]
        have a1 := p.nth_at (i := j + 1) hj
        have a2 := p.nth_at (i := j) (by omega)
        omega)
      have hn := ni_front p hj (Nat.succ_pos j) hle
      have hnn := ni_nonneg (mul (sg n (j + 1) hj) p)
      have hw := ih (ni (mul (sg n (j + 1) hj) p)).toNat (by omega) _ rfl
      have e : lettersF p.1 = ((j + 1 : Nat) : Int) :: lettersF (mul (sg n (j + 1) hj) p).1 := by
        unfold lettersF
        rw [redF_some hd, hs.1, hv]; simp
      rw [e]
      exact Wd.cons (j + 1) hj (Nat.succ_pos j) _ p hle hw

theorem NF_pow {n : Nat} (p : Int) : (gar n).NF (p, []) = (p, []) := rfl
theorem stps_app {n : Nat} (x : Gar.St (Pm n)) (u v : List Int) : (gar n).stps x (lts n (u ++ v)) = (gar n).stps ((gar n).stps x (lts n u)) (lts n v) := by rw [lts_append, (gar n).stps_append]
theorem half_stps {n : Nat} (h2 : 2 ≤ n) (p : Int) : (gar n).NF ((gar n).stps (p, []) (lts n (halfW n))) = (gar n).NF (p + 1, []) := by
  have hw := wd_letters (top n)
  rw [← half_val] at hw
  have := hw.stps (p, [])
  have e : halfW (n : Int) = lettersF (halfF n) := rfl
  rw [e, this]
  exact (gar n).NF_end_top (top_ne_one h2) p []
theorem rep_stps {n : Nat} (h2 : 2 ≤ n) (k : Nat) (p : Int) : (gar n).NF ((gar n).stps (p, []) (lts n (repW k (halfW n)))) = (gar n).NF (p + k, []) := by
  induction k with
  | zero => simp [repW, lts, Gar.stps]
  | succ k ih =>
    rw [repW, stps_app, (gar n).NF_stps_congr (x := (gar n).stps (p, []) (lts n (repW k (halfW n)))) (y := (p + k, [])) ih, half_stps h2]
    congr 2; omega
theorem inv_stps {n : Nat} (h2 : 2 ≤ n) (p : Int) : (gar n).NF ((gar n).stps (p, []) (lts n (invW (halfW n)))) = (gar n).NF (p - 1, []) := by
  have hk : ∀ k ∈ halfW (n : Int), k ≠ 0 := by
    intro k hk
    have hw := wd_letters (top n)
    rw [← half_val] at hw
    have := hw.pos k hk
    omega
  have h := Gar.Wq.inv_right (gar n) (top_ne_one h2) (lts n (halfW n)) (p - 1, [])
  rw [winv_lts n _ hk, (gar n).stps_append] at h
  have h3 := half_stps h2 (p - 1)
  rw [show p - 1 + 1 = p by omega] at h3
  rw [(gar n).NF_stps_congr h3] at h
  exact h
theorem rinv_stps {n : Nat} (h2 : 2 ≤ n) (k : Nat) (p : Int) : (gar n).NF ((gar n).stps (p, []) (lts n (repW k (invW (halfW n))))) = (gar n).NF (p - k, []) := by
  induction k with
  | zero => simp [repW, lts, Gar.stps]
  | succ k ih =>
    rw [repW, stps_app, (gar n).NF_stps_congr (x := (gar n).stps (p, []) (lts n (repW k (invW (halfW n))))) (y := (p - k, [])) ih, inv_stps h2]
    congr 2; omega
theorem flat_stps {n : Nat} (L : List (Pm n)) (p : Int) (k : Nat) (hk : k ≤ L.length) : (gar n).NF ((gar n).stps (p, []) (lts n (flatW (vals L) k))) = (gar n).NF (p, L.take k) := by
  induction k with
  | zero => simp [flatW, lts, Gar.stps]
  | succ k ih =>
    rw [flatW, stps_app, (gar n).NF_stps_congr (x := (gar n).stps (p, []) (lts n (flatW (vals L) k))) (y := (p, L.take k)) (ih (by omega)), rat_vals (by omega), (wd_letters (pat L k)).stps, take_pat (by omega)]
/-- the braid of a normal form stands for it -/
theorem word_nf {n : Nat} {p : Int} {L : List (Pm n)} (h : normB n p (vals L) = true) : nfW n (wordN n p (vals L)) = (p, L) := by
  rcases Nat.lt_or_ge n 2 with h2 | h2
  · obtain ⟨-, -, -, -, -, h5, h6⟩ := normB_of h
    have e1 := h5.resolve_left (by omega)
    subst e1
    cases L with
    | nil => rfl
    | cons x L => have := h6 0 (by simp [vals]); rw [facOk_small (by omega)] at this; cases this
  · have hn := normB_nrm h
    have e : wordN (n : Int) p (vals L) = repW p.toNat (halfW n) ++ repW (-p).toNat (invW (halfW n)) ++ flatW (vals L) (vals L).length := rfl
    unfold nfW Gar.raw
    rw [e, stps_app, (gar n).NF_stps_congr (x := (gar n).stps (0, []) (lts n (repW p.toNat (halfW n) ++ repW (-p).toNat (invW (halfW n))))) (y := (p, [])), flat_stps L p _ (by simp), length_vals, List.take_of_length_le (Nat.le_refl _), (gar n).NF_nrm hn]
    rw [stps_app, (gar n).NF_stps_congr (rep_stps h2 p.toNat 0), rinv_stps h2]
    congr 2; omega


end Go.Proofs.Ytmeccemnmkobbaa

namespace Go.Proofs.Ytmeccemnmkobbaa
open Go.RowKit
open Pm

theorem Reads.alloc {w : World} {v : Value} {xs : List Value} (h : Reads w v xs) (o : Obj) : Reads (w.alloc o) v xs := h.below ((Below.refl _ _).alloc (Nat.le_refl _) o)
theorem letters_mk {n : Int} {l : List Int} (m : Nat) (h : ∀ k, k < m → nth l k ≠ 0 ∧ 1 - n ≤ nth l k ∧ nth l k ≤ n - 1) : lettersTo n l m = true := by
  rw [lettersTo, List.all_eq_true]
  intro k hk
  have := h k (by simpa using hk)
  simp only [letterB, inB, Bool.and_eq_true, Bool.not_eq_true', beq_eq_false_iff_ne, decide_eq_true_eq]
  exact ⟨this.1, this.2.1, this.2.2⟩
theorem okB_mk {n : Nat} {l : List Int} (hn : n ≤ 12) (hl : l.length ≤ 40) (h : Wok n l) : okB (n : Int) l = true := by
  unfold okB
  rw [show inB (n : Int) 0 12 = true by simp [inB]; omega, decide_eq_true hl, letters_mk l.length h]; rfl
theorem nfW_join {n : Nat} (l m : List Int) : (gar n).NF ((nfW n l).1 + (nfW n m).1, (nfW n l).2.map ((gar n).tw (nfW n m).1) ++ (nfW n m).2) = nfW n (l ++ m) := by
  show (gar n).join (nfW n l) (nfW n m) = _
  unfold nfW
  rw [(gar n).join_NF, lts_append, (gar n).raw_append, (gar n).stps_raw]; rfl
theorem nfW_nrm (n : Nat) (l : List Int) : (gar n).Nrm (nfW n l).2 := (gar n).nrm_NF _
theorem nfW_ok {n : Nat} {l : List Int} (hn : n ≤ 12) (hl : l.length ≤ 100) (h : Wok n l) : normB n (nfW n l).1 (vals (nfW n l).2) = true := by
  have h1 := nfW_len n l
  rw [nrm_normB hn (nfW_nrm n l)]
  · rw [show inB (nfW n l).1 (-100) 100 = true by simp [inB]; omega, decide_eq_true (by omega)]; rfl
  · rcases Nat.lt_or_ge n 2 with h2 | h2
    · right; rw [h.nil h2]; rfl
    · exact .inl h2
theorem nf_ok {n : Nat} {l : List Int} (hn : n ≤ 12) (hl : l.length ≤ 40) (hk : Wok n l) (v : Value) (w : World) (h : Reads w v (ints l)) :
    Calls Try.prog 26 #[.agg #[.int .i64 n, v]] w fun e w' => ∃ x, e = .returned (.tuple #[.agg #[.int .i64 n, .int .i64 (nfW n l).1, x], .bool true]) ∧ ReadsII w' x (vals (nfW n l).2) ∧ Below w.heap.size w w' := by
  have e := okB_mk hn hl hk
  refine (vnf_impl n v l w h).mono ?_
  rintro e2 w' ⟨x, rfl, ho, hb⟩
  have e3 : nfL (n : Int) l = vals (nfW n l).2 := by unfold nfL; rw [if_pos e]; rfl
  refine ⟨x, ?_, by rw [← e3]; exact ho.reads, hb⟩
  unfold nfN nfP; rw [e]; rfl
theorem jb_ok {n : Nat} {l m : List Int} (hn : n ≤ 12) (hl : l.length ≤ 20) (hm : m.length ≤ 20) (hk : Wok n l) (hk' : Wok n m) (v u : Value) (w : World) (h : Reads w v (ints l)) (h' : Reads w u (ints m)) :
    Calls Try.prog 25 #[.agg #[.int .i64 n, v], .agg #[.int .i64 n, u]] w fun e w' => ∃ x, e = .returned (.tuple #[.agg #[.int .i64 n, x], .int .i64 0]) ∧ Reads w' x (ints (l ++ m)) ∧ Below w.heap.size w w' := by
  have e := okB_mk hn (by omega) hk
  have e' := okB_mk hn (by omega) hk'
  have hc : codeJ n l n m = 0 := by unfold codeJ; rw [e, e']; simp; omega
  refine (vjoin_spec n v l n u m w h h').mono ?_
  rintro e2 w' ⟨x, rfl, ho, hb⟩
  have e3 : lJ (n : Int) l n m = l ++ m := by unfold lJ; rw [hc]; rfl
  refine ⟨x, ?_, by rw [← e3]; exact ho.reads, hb⟩
  unfold nJ; rw [hc]; rfl
theorem jn_ok {n : Nat} {l m : List Int} (hn : n ≤ 12) (hl : l.length ≤ 20) (hm : m.length ≤ 20) (hk : Wok n l) (hk' : Wok n m) (v u : Value) (w : World) (h : ReadsII w v (vals (nfW n l).2)) (h' : ReadsII w u (vals (nfW n m).2)) :
    Calls Try.prog 50 #[.agg #[.int .i64 n, .int .i64 (nfW n l).1, v], .agg #[.int .i64 n, .int .i64 (nfW n m).1, u]] w fun e w' => ∃ x, e = .returned (.tuple #[.agg #[.int .i64 n, .int .i64 (nfW n (l ++ m)).1, x], .int .i64 0]) ∧ ReadsII w' x (vals (nfW n (l ++ m)).2) ∧ Below w.heap.size w w' := by
  have e := nfW_ok hn (by omega) hk
  have e' := nfW_ok hn (by omega) hk'
  have hS := (jnS_eq (nfW n l).1 (nfW n m).1 (nfW n l).2 (nfW n m).2).trans (nfW_join l m)
  have h1 := nfW_len n (l ++ m)
  rw [List.length_append] at h1
  have hok : okJ n (nfW n l).1 (vals (nfW n l).2) (nfW n m).1 (vals (nfW n m).2) = true := by
    show (inB (jnS (n : Int) _ _ _ _).1 (-100) 100 && decide ((jnS (n : Int) _ _ _ _).2.length ≤ 100)) = true
    rw [hS, show inB (nfW n (l ++ m)).1 (-100) 100 = true by simp [inB]; omega, decide_eq_true (by omega)]; rfl
  have hc : codeJN n (nfW n l).1 (vals (nfW n l).2) n (nfW n m).1 (vals (nfW n m).2) = 0 := by unfold codeJN; rw [e, e', hok]; simp
  refine (vjn_impl n (nfW n l).1 v (vals (nfW n l).2) n (nfW n m).1 u (vals (nfW n m).2) w h h').mono ?_
  rintro e2 w' ⟨x, rfl, ho, hb⟩
  have e3 : lJN (n : Int) (nfW n l).1 (vals (nfW n l).2) n (nfW n m).1 (vals (nfW n m).2) = vals (nfW n (l ++ m)).2 := by
    unfold lJN; rw [hc, if_pos rfl]; exact congrArg (fun x : Gar.St (Pm n) => vals x.2) hS
  have e4 : (jnS (n : Int) (nfW n l).1 (vals (nfW n l).2) (nfW n m).1 (vals (nfW n m).2)).1 = (nfW n (l ++ m)).1 := congrArg (fun x : Gar.St (Pm n) => x.1) hS
  refine ⟨x, ?_, by rw [← e3]; exact ho.reads, hb⟩
  unfold nJN pJN; rw [hc, if_pos rfl, if_pos rfl, e4]


theorem Wok.mk' {n : Nat} {l : List Int} (h : ∀ k ∈ l, k ≠ 0 ∧ 1 - (n : Int) ≤ k ∧ k ≤ n - 1) : Wok n l := fun i hi => by
  have e : nth l i = l[i] := by simp [nth, hi]
  rw [e]; exact h _ (List.getElem_mem hi)
theorem mem_repW {k : Nat} {t : List Int} {x : Int} (h : x ∈ repW k t) : x ∈ t := by
  induction k with
  | zero => simp [repW] at h
  | succ k ih =>
    rw [repW, List.mem_append] at h
    exact h.elim ih id
theorem mem_flatW {n : Nat} {L : List (Pm n)} {k : Nat} (hk : k ≤ L.length) {x : Int} (h : x ∈ flatW (vals L) k) : 0 < x ∧ x < n := by
  induction k with
  | zero => simp [flatW] at h
  | succ k ih =>
    rw [flatW, List.mem_append, rat_vals (by omega)] at h
    exact h.elim (ih (by omega)) fun h => (wd_letters (pat L k)).pos x h
theorem mem_half {n : Nat} {x : Int} (h : x ∈ halfW n) : 0 < x ∧ x < n := by
  have hw := wd_letters (top n)
  rw [← half_val] at hw
  exact hw.pos x h
theorem word_ok {n : Nat} (p : Int) (L : List (Pm n)) : Wok n (wordN n p (vals L)) := Wok.mk' fun x hx => by
  unfold wordN at hx
  rw [List.mem_append, List.mem_append, length_vals] at hx
  rcases hx with (hx | hx) | hx
  · have := mem_half (mem_repW hx); omega
  · have h1 := mem_repW hx
    unfold invW at h1
    rw [List.mem_map] at h1
    obtain ⟨y, hy, rfl⟩ := h1
    have := mem_half (List.mem_reverse.1 hy); omega
  · have := mem_flatW (Nat.le_refl _) hx; omega
theorem nfw_word {n : Nat} {l : List Int} (hn : n ≤ 12) (hl : l.length ≤ 40) (hk : Wok n l) : nfW n (wordN n (nfW n l).1 (vals (nfW n l).2)) = nfW n l := word_nf (nfW_ok hn (by omega) hk)
theorem nfw_ok {n : Nat} {l : List Int} (hn : n ≤ 12) (hl : l.length ≤ 40) (hk : Wok n l) (hc : (wordN n (nfW n l).1 (vals (nfW n l).2)).length ≤ 40) (v : Value) (w : World) (h : Reads w v (ints (wordN n (nfW n l).1 (vals (nfW n l).2)))) :
    Calls Try.prog 26 #[.agg #[.int .i64 n, v]] w fun e w' => ∃ x, e = .returned (.tuple #[.agg #[.int .i64 n, .int .i64 (nfW n l).1, x], .bool true]) ∧ ReadsII w' x (vals (nfW n l).2) ∧ Below w.heap.size w w' := by
  have := nf_ok hn hc (word_ok _ _) v w h
  rwa [nfw_word hn hl hk] at this
theorem ReadsII.lit {w : World} {v : Value} {ls : List (List Int)} (h : ReadsII w v ls) : ∃ a m c, v = Value.slice a m c := by
  obtain ⟨vs, h1, -⟩ := h
  obtain ⟨a, c, e, -⟩ := h1.form
  exact ⟨a, _, c, e⟩
theorem Reads.lit {w : World} {v : Value} {xs : List Value} (h : Reads w v xs) : ∃ a m c, v = Value.slice a m c := by
  obtain ⟨a, c, e, -⟩ := h.form
  exact ⟨a, _, c, e⟩
theorem sameN_self (n p : Int) (l : List (List Int)) : sameN n p l n p l = true := by simp [sameN]


set_option maxRecDepth 100000 in
set_option maxHeartbeats 8000000 in
theorem walk_FnNormal (a0 : Value) (cs : List Int) (W : World) (h0 : Reads W a0 (bytes cs)) (hr : ∀ i, i < cs.length → 0 ≤ nth cs i ∧ nth cs i ≤ 255) :
    Calls Try.prog 11 #[a0] W fun e w' => e = .returned (.bool true) ∧ Below W.heap.size W w' := by
  have hlen := h0.len (P := Try.prog) 31 3 ⟨_, sliceY⟩
  rw [length_bytes] at hlen
  have hb : Below W.heap.size W W := Below.refl _ _
  go_enter Try.func11, Try.ntmps11
  by_cases hl : (1048576 : Int) < cs.length
  · go_wp2_with fail
    go_ret
    exact ⟨rfl, hb⟩
  go_wp2_with fail
  clear hlen
  refine (e8braids a0 cs W h0 hr (by omega)).mono ?_
  rintro e w1 ⟨n, u, v, l, m, rfl, hn, hu, hv, hWl, hWm, hs⟩
  replace hb := hb.trans (hs.mono hb.size)
  clear hs
  replace hu := hu.reads
  replace hv := hv.reads
  obtain ⟨ua, un, uc, rfl⟩ : ∃ a n c, u = Value.slice a n c := by obtain ⟨a, c, e, -⟩ := hu.form; exact ⟨a, _, c, e⟩
  obtain ⟨va, vn, vc, rfl⟩ : ∃ a n c, v = Value.slice a n c := by obtain ⟨a, c, e, -⟩ := hv.form; exact ⟨a, _, c, e⟩
  have hkl : Wok n l := hWl.2
  have hkm : Wok n m := hWm.2
  have hll := hWl.1
  have hlm := hWm.1
  replace hkl := hid hkl
  replace hkm := hid hkm
  clear hWl hWm h0 hr
  replace hu := hu.alloc (.cells #[.int .i64 n, .slice ua un uc] 35)
  replace hv := hv.alloc (.cells #[.int .i64 n, .slice ua un uc] 35)
  have hA := Bx.new w1 #[.int .i64 n, .slice ua un uc] 35
  replace hb := hb.alloc hb.size (.cells #[.int .i64 n, .slice ua un uc] 35)
  replace hu := hu.alloc (.cells #[.int .i64 n, .slice va vn vc] 35)
  replace hv := hv.alloc (.cells #[.int .i64 n, .slice va vn vc] 35)
  replace hA := hA.alloc (.cells #[.int .i64 n, .slice va vn vc] 35)
  have hB := Bx.new (w1.alloc (.cells #[.int .i64 n, .slice ua un uc] 35)) #[.int .i64 n, .slice va vn vc] 35
  simp only [World.size_alloc] at hB
  replace hb := hb.alloc hb.size (.cells #[.int .i64 n, .slice va vn vc] 35)
  have c_a0 := hA.cell 0 rfl
  have c_a1 := hA.cell 1 rfl
  have c_b0 := hB.cell 0 rfl
  have c_b1 := hB.cell 1 rfl
  go_wp2_with fail
  clear c_a0 c_a1 c_b0 c_b1
  generalize ((w1.alloc (.cells #[.int .i64 n, .slice ua un uc] 35)).alloc (.cells #[.int .i64 n, .slice va vn vc] 35)) = w2 at *
  refine (nf_ok (by omega) (by omega) hkl.out _ _ hu).mono ?_
  rintro e w3 ⟨x, rfl, hx, hs⟩
  replace hu := hu.below hs
  replace hv := hv.below hs
  replace hA := hA.below hs
  replace hB := hB.below hs
  replace hb := hb.trans (hs.mono hb.size)
  clear hs
  obtain ⟨xa, xn, xc, rfl⟩ := hx.lit
  replace hu := hu.alloc (.cells #[.int .i64 n, .int .i64 (nfW n l).1, .slice xa xn xc] 27)
  replace hv := hv.alloc (.cells #[.int .i64 n, .int .i64 (nfW n l).1, .slice xa xn xc] 27)
  replace hx := hx.alloc (.cells #[.int .i64 n, .int .i64 (nfW n l).1, .slice xa xn xc] 27)
  replace hA := hA.alloc (.cells #[.int .i64 n, .int .i64 (nfW n l).1, .slice xa xn xc] 27)
  replace hB := hB.alloc (.cells #[.int .i64 n, .int .i64 (nfW n l).1, .slice xa xn xc] 27)
  have hX := Bx.new w3 #[.int .i64 n, .int .i64 (nfW n l).1, .slice xa xn xc] 27
  replace hb := hb.alloc hb.size (.cells #[.int .i64 n, .int .i64 (nfW n l).1, .slice xa xn xc] 27)
  have c_a0 := hA.cell 0 rfl
  have c_a1 := hA.cell 1 rfl
  have c_b0 := hB.cell 0 rfl
  have c_b1 := hB.cell 1 rfl
  have c_x0 := hX.cell 0 rfl
  have c_x1 := hX.cell 1 rfl
  have c_x2 := hX.cell 2 rfl
  go_wp2_with fail
  clear c_a0 c_a1 c_b0 c_b1 c_x0 c_x1 c_x2
  generalize (w3.alloc (.cells #[.int .i64 n, .int .i64 (nfW n l).1, .slice xa xn xc] 27)) = w4 at *
  refine (nf_ok (by omega) (by omega) hkm.out _ _ hv).mono ?_
  rintro e w5 ⟨y, rfl, hy, hs⟩
  replace hu := hu.below hs
  replace hv := hv.below hs
  replace hx := hx.below hs
  replace hA := hA.below hs
  replace hB := hB.below hs
  replace hX := hX.below hs
  replace hb := hb.trans (hs.mono hb.size)
  clear hs
  obtain ⟨ya, yn, yc, rfl⟩ := hy.lit
  replace hu := hu.alloc (.cells #[.int .i64 n, .int .i64 (nfW n m).1, .slice ya yn yc] 27)
  replace hv := hv.alloc (.cells #[.int .i64 n, .int .i64 (nfW n m).1, .slice ya yn yc] 27)
  replace hx := hx.alloc (.cells #[.int .i64 n, .int .i64 (nfW n m).1, .slice ya yn yc] 27)
  replace hy := hy.alloc (.cells #[.int .i64 n, .int .i64 (nfW n m).1, .slice ya yn yc] 27)
  replace hA := hA.alloc (.cells #[.int .i64 n, .int .i64 (nfW n m).1, .slice ya yn yc] 27)
  replace hB := hB.alloc (.cells #[.int .i64 n, .int .i64 (nfW n m).1, .slice ya yn yc] 27)
  replace hX := hX.alloc (.cells #[.int .i64 n, .int .i64 (nfW n m).1, .slice ya yn yc] 27)
  have hY := Bx.new w5 #[.int .i64 n, .int .i64 (nfW n m).1, .slice ya yn yc] 27
  replace hb := hb.alloc hb.size (.cells #[.int .i64 n, .int .i64 (nfW n m).1, .slice ya yn yc] 27)
  have c_a0 := hA.cell 0 rfl
  have c_a1 := hA.cell 1 rfl
  have c_b0 := hB.cell 0 rfl
  have c_b1 := hB.cell 1 rfl
  have c_x0 := hX.cell 0 rfl
  have c_x1 := hX.cell 1 rfl
  have c_x2 := hX.cell 2 rfl
  have c_y0 := hY.cell 0 rfl
  have c_y1 := hY.cell 1 rfl
  have c_y2 := hY.cell 2 rfl
  go_wp2_with fail
  clear c_a0 c_a1 c_b0 c_b1 c_x0 c_x1 c_x2 c_y0 c_y1 c_y2
  generalize (w5.alloc (.cells #[.int .i64 n, .int .i64 (nfW n m).1, .slice ya yn yc] 27)) = w6 at *
  refine (vn_spec _ _ _ _ _ hx).mono ?_
  rintro e w7 ⟨rfl, hs⟩
  replace hu := hu.below hs
  replace hv := hv.below hs
  replace hx := hx.below hs
  replace hy := hy.below hs
  replace hA := hA.below hs
  replace hB := hB.below hs
  replace hX := hX.below hs
  replace hY := hY.below hs
  replace hb := hb.trans (hs.mono hb.size)
  clear hs
  rw [nfW_ok (by omega) (by omega) hkl.out]
  have c_a0 := hA.cell 0 rfl
  have c_a1 := hA.cell 1 rfl
  have c_b0 := hB.cell 0 rfl
  have c_b1 := hB.cell 1 rfl
  have c_x0 := hX.cell 0 rfl
  have c_x1 := hX.cell 1 rfl
  have c_x2 := hX.cell 2 rfl
  have c_y0 := hY.cell 0 rfl
  have c_y1 := hY.cell 1 rfl
  have c_y2 := hY.cell 2 rfl
  go_wp2_with fail
  clear c_a0 c_a1 c_b0 c_b1 c_x0 c_x1 c_x2 c_y0 c_y1 c_y2
  refine (vn_impl _ _ _ _ _ hy).mono ?_
  rintro e w8 ⟨rfl, hs⟩
  replace hu := hu.below hs
  replace hv := hv.below hs
  replace hx := hx.below hs
  replace hy := hy.below hs
  replace hA := hA.below hs
  replace hB := hB.below hs
  replace hX := hX.below hs
  replace hY := hY.below hs
  replace hb := hb.trans (hs.mono hb.size)
  clear hs
  rw [nfW_ok (by omega) (by omega) hkm.out]
  have c_a0 := hA.cell 0 rfl
  have c_a1 := hA.cell 1 rfl
  have c_b0 := hB.cell 0 rfl
  have c_b1 := hB.cell 1 rfl
  have c_x0 := hX.cell 0 rfl
  have c_x1 := hX.cell 1 rfl
  have c_x2 := hX.cell 2 rfl
  have c_y0 := hY.cell 0 rfl
  have c_y1 := hY.cell 1 rfl
  have c_y2 := hY.cell 2 rfl
  go_wp2_with fail
  clear c_a0 c_a1 c_b0 c_b1 c_x0 c_x1 c_x2 c_y0 c_y1 c_y2
  refine (jb_ok (by omega) (by omega) (by omega) hkl.out hkm.out _ _ _ hu hv).mono ?_
  rintro e w9 ⟨c, rfl, hc, hs⟩
  replace hu := hu.below hs
  replace hv := hv.below hs
  replace hx := hx.below hs
  replace hy := hy.below hs
  replace hA := hA.below hs
  replace hB := hB.below hs
  replace hX := hX.below hs
  replace hY := hY.below hs
  replace hb := hb.trans (hs.mono hb.size)
  clear hs
  obtain ⟨ca, cn, cc, rfl⟩ := hc.lit
  replace hu := hu.alloc (.cells #[.int .i64 n, .slice ca cn cc] 35)
  replace hv := hv.alloc (.cells #[.int .i64 n, .slice ca cn cc] 35)
  replace hx := hx.alloc (.cells #[.int .i64 n, .slice ca cn cc] 35)
  replace hy := hy.alloc (.cells #[.int .i64 n, .slice ca cn cc] 35)
  replace hc := hc.alloc (.cells #[.int .i64 n, .slice ca cn cc] 35)
  replace hA := hA.alloc (.cells #[.int .i64 n, .slice ca cn cc] 35)
  replace hB := hB.alloc (.cells #[.int .i64 n, .slice ca cn cc] 35)
  replace hX := hX.alloc (.cells #[.int .i64 n, .slice ca cn cc] 35)
  replace hY := hY.alloc (.cells #[.int .i64 n, .slice ca cn cc] 35)
  have hC := Bx.new w9 #[.int .i64 n, .slice ca cn cc] 35
  replace hb := hb.alloc hb.size (.cells #[.int .i64 n, .slice ca cn cc] 35)
  have c_a0 := hA.cell 0 rfl
  have c_a1 := hA.cell 1 rfl
  have c_b0 := hB.cell 0 rfl
  have c_b1 := hB.cell 1 rfl
  have c_x0 := hX.cell 0 rfl
  have c_x1 := hX.cell 1 rfl
  have c_x2 := hX.cell 2 rfl
  have c_y0 := hY.cell 0 rfl
  have c_y1 := hY.cell 1 rfl
  have c_y2 := hY.cell 2 rfl
  have c_c0 := hC.cell 0 rfl
  have c_c1 := hC.cell 1 rfl
  go_wp2_with fail
  clear c_a0 c_a1 c_b0 c_b1 c_x0 c_x1 c_x2 c_y0 c_y1 c_y2 c_c0 c_c1
  generalize (w9.alloc (.cells #[.int .i64 n, .slice ca cn cc] 35)) = w10 at *
  refine (nf_ok (by omega) (by rw [List.length_append]; omega) (hkl.out.app hkm.out) _ _ hc).mono ?_
  rintro e w11 ⟨z, rfl, hz, hs⟩
  replace hu := hu.below hs
  replace hv := hv.below hs
  replace hx := hx.below hs
  replace hy := hy.below hs
  replace hc := hc.below hs
  replace hA := hA.below hs
  replace hB := hB.below hs
  replace hX := hX.below hs
  replace hY := hY.below hs
  replace hC := hC.below hs
  replace hb := hb.trans (hs.mono hb.size)
  clear hs
  obtain ⟨za, zn, zc, rfl⟩ := hz.lit
  replace hu := hu.alloc (.cells #[.int .i64 n, .int .i64 (nfW n (l ++ m)).1, .slice za zn zc] 27)
  replace hv := hv.alloc (.cells #[.int .i64 n, .int .i64 (nfW n (l ++ m)).1, .slice za zn zc] 27)
  replace hx := hx.alloc (.cells #[.int .i64 n, .int .i64 (nfW n (l ++ m)).1, .slice za zn zc] 27)
  replace hy := hy.alloc (.cells #[.int .i64 n, .int .i64 (nfW n (l ++ m)).1, .slice za zn zc] 27)
  replace hc := hc.alloc (.cells #[.int .i64 n, .int .i64 (nfW n (l ++ m)).1, .slice za zn zc] 27)
  replace hz := hz.alloc (.cells #[.int .i64 n, .int .i64 (nfW n (l ++ m)).1, .slice za zn zc] 27)
  replace hA := hA.alloc (.cells #[.int .i64 n, .int .i64 (nfW n (l ++ m)).1, .slice za zn zc] 27)
  replace hB := hB.alloc (.cells #[.int .i64 n, .int .i64 (nfW n (l ++ m)).1, .slice za zn zc] 27)
  replace hX := hX.alloc (.cells #[.int .i64 n, .int .i64 (nfW n (l ++ m)).1, .slice za zn zc] 27)
  replace hY := hY.alloc (.cells #[.int .i64 n, .int .i64 (nfW n (l ++ m)).1, .slice za zn zc] 27)
  replace hC := hC.alloc (.cells #[.int .i64 n, .int .i64 (nfW n (l ++ m)).1, .slice za zn zc] 27)
  have hZ := Bx.new w11 #[.int .i64 n, .int .i64 (nfW n (l ++ m)).1, .slice za zn zc] 27
  replace hb := hb.alloc hb.size (.cells #[.int .i64 n, .int .i64 (nfW n (l ++ m)).1, .slice za zn zc] 27)
  have c_a0 := hA.cell 0 rfl
  have c_a1 := hA.cell 1 rfl
  have c_b0 := hB.cell 0 rfl
  have c_b1 := hB.cell 1 rfl
  have c_x0 := hX.cell 0 rfl
  have c_x1 := hX.cell 1 rfl
  have c_x2 := hX.cell 2 rfl
  have c_y0 := hY.cell 0 rfl
  have c_y1 := hY.cell 1 rfl
  have c_y2 := hY.cell 2 rfl
  have c_c0 := hC.cell 0 rfl
  have c_c1 := hC.cell 1 rfl
  have c_z0 := hZ.cell 0 rfl
  have c_z1 := hZ.cell 1 rfl
  have c_z2 := hZ.cell 2 rfl
  go_wp2_with fail
  clear c_a0 c_a1 c_b0 c_b1 c_x0 c_x1 c_x2 c_y0 c_y1 c_y2 c_c0 c_c1 c_z0 c_z1 c_z2
  generalize (w11.alloc (.cells #[.int .i64 n, .int .i64 (nfW n (l ++ m)).1, .slice za zn zc] 27)) = w12 at *
  refine (jn_ok (by omega) (by omega) (by omega) hkl.out hkm.out _ _ _ hx hy).mono ?_
  rintro e w13 ⟨t, rfl, ht, hs⟩
  replace hu := hu.below hs
  replace hv := hv.below hs
  replace hx := hx.below hs
  replace hy := hy.below hs
  replace hc := hc.below hs
  replace hz := hz.below hs
  replace hA := hA.below hs
  replace hB := hB.below hs
  replace hX := hX.below hs
  replace hY := hY.below hs
  replace hC := hC.below hs
  replace hZ := hZ.below hs
  replace hb := hb.trans (hs.mono hb.size)
  clear hs
  obtain ⟨ta, tn, tc, rfl⟩ := ht.lit
  replace hu := hu.alloc (.cells #[.int .i64 n, .int .i64 (nfW n (l ++ m)).1, .slice ta tn tc] 27)
  replace hv := hv.alloc (.cells #[.int .i64 n, .int .i64 (nfW n (l ++ m)).1, .slice ta tn tc] 27)
  replace hx := hx.alloc (.cells #[.int .i64 n, .int .i64 (nfW n (l ++ m)).1, .slice ta tn tc] 27)
  replace hy := hy.alloc (.cells #[.int .i64 n, .int .i64 (nfW n (l ++ m)).1, .slice ta tn tc] 27)
  replace hc := hc.alloc (.cells #[.int .i64 n, .int .i64 (nfW n (l ++ m)).1, .slice ta tn tc] 27)
  replace hz := hz.alloc (.cells #[.int .i64 n, .int .i64 (nfW n (l ++ m)).1, .slice ta tn tc] 27)
  replace ht := ht.alloc (.cells #[.int .i64 n, .int .i64 (nfW n (l ++ m)).1, .slice ta tn tc] 27)
  replace hA := hA.alloc (.cells #[.int .i64 n, .int .i64 (nfW n (l ++ m)).1, .slice ta tn tc] 27)
  replace hB := hB.alloc (.cells #[.int .i64 n, .int .i64 (nfW n (l ++ m)).1, .slice ta tn tc] 27)
  replace hX := hX.alloc (.cells #[.int .i64 n, .int .i64 (nfW n (l ++ m)).1, .slice ta tn tc] 27)
  replace hY := hY.alloc (.cells #[.int .i64 n, .int .i64 (nfW n (l ++ m)).1, .slice ta tn tc] 27)
  replace hC := hC.alloc (.cells #[.int .i64 n, .int .i64 (nfW n (l ++ m)).1, .slice ta tn tc] 27)
  replace hZ := hZ.alloc (.cells #[.int .i64 n, .int .i64 (nfW n (l ++ m)).1, .slice ta tn tc] 27)
  have hT := Bx.new w13 #[.int .i64 n, .int .i64 (nfW n (l ++ m)).1, .slice ta tn tc] 27
  replace hb := hb.alloc hb.size (.cells #[.int .i64 n, .int .i64 (nfW n (l ++ m)).1, .slice ta tn tc] 27)
  have c_a0 := hA.cell 0 rfl
  have c_a1 := hA.cell 1 rfl
  have c_b0 := hB.cell 0 rfl
  have c_b1 := hB.cell 1 rfl
  have c_x0 := hX.cell 0 rfl
  have c_x1 := hX.cell 1 rfl
  have c_x2 := hX.cell 2 rfl
  have c_y0 := hY.cell 0 rfl
  have c_y1 := hY.cell 1 rfl
  have c_y2 := hY.cell 2 rfl
  have c_c0 := hC.cell 0 rfl
  have c_c1 := hC.cell 1 rfl
  have c_z0 := hZ.cell 0 rfl
  have c_z1 := hZ.cell 1 rfl
  have c_z2 := hZ.cell 2 rfl
  have c_t0 := hT.cell 0 rfl
  have c_t1 := hT.cell 1 rfl
  have c_t2 := hT.cell 2 rfl
  go_wp2_with fail
  clear c_a0 c_a1 c_b0 c_b1 c_x0 c_x1 c_x2 c_y0 c_y1 c_y2 c_c0 c_c1 c_z0 c_z1 c_z2 c_t0 c_t1 c_t2
  generalize (w13.alloc (.cells #[.int .i64 n, .int .i64 (nfW n (l ++ m)).1, .slice ta tn tc] 27)) = w14 at *
  refine (sn_spec _ _ _ _ _ _ _ _ _ hz ht).mono ?_
  rintro e w15 ⟨rfl, hs⟩
  replace hu := hu.below hs
  replace hv := hv.below hs
  replace hx := hx.below hs
  replace hy := hy.below hs
  replace hc := hc.below hs
  replace hz := hz.below hs
  replace ht := ht.below hs
  replace hA := hA.below hs
  replace hB := hB.below hs
  replace hX := hX.below hs
  replace hY := hY.below hs
  replace hC := hC.below hs
  replace hZ := hZ.below hs
  replace hT := hT.below hs
  replace hb := hb.trans (hs.mono hb.size)
  clear hs
  rw [sameN_self]
  have c_a0 := hA.cell 0 rfl
  have c_a1 := hA.cell 1 rfl
  have c_b0 := hB.cell 0 rfl
  have c_b1 := hB.cell 1 rfl
  have c_x0 := hX.cell 0 rfl
  have c_x1 := hX.cell 1 rfl
  have c_x2 := hX.cell 2 rfl
  have c_y0 := hY.cell 0 rfl
  have c_y1 := hY.cell 1 rfl
  have c_y2 := hY.cell 2 rfl
  have c_c0 := hC.cell 0 rfl
  have c_c1 := hC.cell 1 rfl
  have c_z0 := hZ.cell 0 rfl
  have c_z1 := hZ.cell 1 rfl
  have c_z2 := hZ.cell 2 rfl
  have c_t0 := hT.cell 0 rfl
  have c_t1 := hT.cell 1 rfl
  have c_t2 := hT.cell 2 rfl
  go_wp2_with fail
  clear c_a0 c_a1 c_b0 c_b1 c_x0 c_x1 c_x2 c_y0 c_y1 c_y2 c_c0 c_c1 c_z0 c_z1 c_z2 c_t0 c_t1 c_t2
  refine (vbn_impl _ _ _ _ _ hx).mono ?_
  rintro e w16 ⟨d, rfl, ho, hs0⟩; have hs := hs0; have hd := ho.reads; clear ho hs0
  replace hu := hu.below hs
  replace hv := hv.below hs
  replace hx := hx.below hs
  replace hy := hy.below hs
  replace hc := hc.below hs
  replace hz := hz.below hs
  replace ht := ht.below hs
  replace hA := hA.below hs
  replace hB := hB.below hs
  replace hX := hX.below hs
  replace hY := hY.below hs
  replace hC := hC.below hs
  replace hZ := hZ.below hs
  replace hT := hT.below hs
  replace hb := hb.trans (hs.mono hb.size)
  clear hs
  obtain ⟨da, dn, dc, rfl⟩ := hd.lit
  have hnb := nfW_ok (n := n) (l := l) (by omega) (by omega) hkl.out
  by_cases h40 : (wordN n (nfW n l).1 (vals (nfW n l).2)).length ≤ 40
  case pos =>
    have e1 : codeBN n (nfW n l).1 (vals (nfW n l).2) = 0 := by unfold codeBN; rw [hnb, if_pos rfl, if_pos h40]
    have e2 : nBN n (nfW n l).1 (vals (nfW n l).2) = n := by unfold nBN; rw [e1]; rfl
    have e3 : lBN n (nfW n l).1 (vals (nfW n l).2) = (wordN n (nfW n l).1 (vals (nfW n l).2)) := by unfold lBN; rw [e1]; rfl
    rw [e1, e2]
    rw [e3] at hd
    clear e1 e2 e3
    replace hu := hu.alloc (.cells #[.int .i64 n, .slice da dn dc] 35)
    replace hv := hv.alloc (.cells #[.int .i64 n, .slice da dn dc] 35)
    replace hx := hx.alloc (.cells #[.int .i64 n, .slice da dn dc] 35)
    replace hy := hy.alloc (.cells #[.int .i64 n, .slice da dn dc] 35)
    replace hc := hc.alloc (.cells #[.int .i64 n, .slice da dn dc] 35)
    replace hz := hz.alloc (.cells #[.int .i64 n, .slice da dn dc] 35)
    replace ht := ht.alloc (.cells #[.int .i64 n, .slice da dn dc] 35)
    replace hd := hd.alloc (.cells #[.int .i64 n, .slice da dn dc] 35)
    replace hA := hA.alloc (.cells #[.int .i64 n, .slice da dn dc] 35)
    replace hB := hB.alloc (.cells #[.int .i64 n, .slice da dn dc] 35)
    replace hX := hX.alloc (.cells #[.int .i64 n, .slice da dn dc] 35)
    replace hY := hY.alloc (.cells #[.int .i64 n, .slice da dn dc] 35)
    replace hC := hC.alloc (.cells #[.int .i64 n, .slice da dn dc] 35)
    replace hZ := hZ.alloc (.cells #[.int .i64 n, .slice da dn dc] 35)
    replace hT := hT.alloc (.cells #[.int .i64 n, .slice da dn dc] 35)
    have hD := Bx.new w16 #[.int .i64 n, .slice da dn dc] 35
    replace hb := hb.alloc hb.size (.cells #[.int .i64 n, .slice da dn dc] 35)
    have c_a0 := hA.cell 0 rfl
    have c_a1 := hA.cell 1 rfl
    have c_b0 := hB.cell 0 rfl
    have c_b1 := hB.cell 1 rfl
    have c_x0 := hX.cell 0 rfl
    have c_x1 := hX.cell 1 rfl
    have c_x2 := hX.cell 2 rfl
    have c_y0 := hY.cell 0 rfl
    have c_y1 := hY.cell 1 rfl
    have c_y2 := hY.cell 2 rfl
    have c_c0 := hC.cell 0 rfl
    have c_c1 := hC.cell 1 rfl
    have c_z0 := hZ.cell 0 rfl
    have c_z1 := hZ.cell 1 rfl
    have c_z2 := hZ.cell 2 rfl
    have c_t0 := hT.cell 0 rfl
    have c_t1 := hT.cell 1 rfl
    have c_t2 := hT.cell 2 rfl
    have c_d0 := hD.cell 0 rfl
    have c_d1 := hD.cell 1 rfl
    go_wp2_with fail
    clear c_a0 c_a1 c_b0 c_b1 c_x0 c_x1 c_x2 c_y0 c_y1 c_y2 c_c0 c_c1 c_z0 c_z1 c_z2 c_t0 c_t1 c_t2 c_d0 c_d1
    generalize (w16.alloc (.cells #[.int .i64 n, .slice da dn dc] 35)) = w17 at *
    refine (nfw_ok (by omega) (by omega) hkl.out h40 _ _ hd).mono ?_
    rintro e w18 ⟨r, rfl, hr, hs⟩
    replace hu := hu.below hs
    replace hv := hv.below hs
    replace hx := hx.below hs
    replace hy := hy.below hs
    replace hc := hc.below hs
    replace hz := hz.below hs
    replace ht := ht.below hs
    replace hd := hd.below hs
    replace hA := hA.below hs
    replace hB := hB.below hs
    replace hX := hX.below hs
    replace hY := hY.below hs
    replace hC := hC.below hs
    replace hZ := hZ.below hs
    replace hT := hT.below hs
    replace hD := hD.below hs
    replace hb := hb.trans (hs.mono hb.size)
    clear hs
    obtain ⟨ra, rn, rc, rfl⟩ := hr.lit
    replace hu := hu.alloc (.cells #[.int .i64 n, .int .i64 (nfW n l).1, .slice ra rn rc] 27)
    replace hv := hv.alloc (.cells #[.int .i64 n, .int .i64 (nfW n l).1, .slice ra rn rc] 27)
    replace hx := hx.alloc (.cells #[.int .i64 n, .int .i64 (nfW n l).1, .slice ra rn rc] 27)
    replace hy := hy.alloc (.cells #[.int .i64 n, .int .i64 (nfW n l).1, .slice ra rn rc] 27)
    replace hc := hc.alloc (.cells #[.int .i64 n, .int .i64 (nfW n l).1, .slice ra rn rc] 27)
    replace hz := hz.alloc (.cells #[.int .i64 n, .int .i64 (nfW n l).1, .slice ra rn rc] 27)
    replace ht := ht.alloc (.cells #[.int .i64 n, .int .i64 (nfW n l).1, .slice ra rn rc] 27)
    replace hd := hd.alloc (.cells #[.int .i64 n, .int .i64 (nfW n l).1, .slice ra rn rc] 27)
    replace hr := hr.alloc (.cells #[.int .i64 n, .int .i64 (nfW n l).1, .slice ra rn rc] 27)
    replace hA := hA.alloc (.cells #[.int .i64 n, .int .i64 (nfW n l).1, .slice ra rn rc] 27)
    replace hB := hB.alloc (.cells #[.int .i64 n, .int .i64 (nfW n l).1, .slice ra rn rc] 27)
    replace hX := hX.alloc (.cells #[.int .i64 n, .int .i64 (nfW n l).1, .slice ra rn rc] 27)
    replace hY := hY.alloc (.cells #[.int .i64 n, .int .i64 (nfW n l).1, .slice ra rn rc] 27)
    replace hC := hC.alloc (.cells #[.int .i64 n, .int .i64 (nfW n l).1, .slice ra rn rc] 27)
    replace hZ := hZ.alloc (.cells #[.int .i64 n, .int .i64 (nfW n l).1, .slice ra rn rc] 27)
    replace hT := hT.alloc (.cells #[.int .i64 n, .int .i64 (nfW n l).1, .slice ra rn rc] 27)
    replace hD := hD.alloc (.cells #[.int .i64 n, .int .i64 (nfW n l).1, .slice ra rn rc] 27)
    have hF := Bx.new w18 #[.int .i64 n, .int .i64 (nfW n l).1, .slice ra rn rc] 27
    replace hb := hb.alloc hb.size (.cells #[.int .i64 n, .int .i64 (nfW n l).1, .slice ra rn rc] 27)
    have c_a0 := hA.cell 0 rfl
    have c_a1 := hA.cell 1 rfl
    have c_b0 := hB.cell 0 rfl
    have c_b1 := hB.cell 1 rfl
    have c_x0 := hX.cell 0 rfl
    have c_x1 := hX.cell 1 rfl
    have c_x2 := hX.cell 2 rfl
    have c_y0 := hY.cell 0 rfl
    have c_y1 := hY.cell 1 rfl
    have c_y2 := hY.cell 2 rfl
    have c_c0 := hC.cell 0 rfl
    have c_c1 := hC.cell 1 rfl
    have c_z0 := hZ.cell 0 rfl
    have c_z1 := hZ.cell 1 rfl
    have c_z2 := hZ.cell 2 rfl
    have c_t0 := hT.cell 0 rfl
    have c_t1 := hT.cell 1 rfl
    have c_t2 := hT.cell 2 rfl
    have c_d0 := hD.cell 0 rfl
    have c_d1 := hD.cell 1 rfl
    have c_f0 := hF.cell 0 rfl
    have c_f1 := hF.cell 1 rfl
    have c_f2 := hF.cell 2 rfl
    go_wp2_with fail
    clear c_a0 c_a1 c_b0 c_b1 c_x0 c_x1 c_x2 c_y0 c_y1 c_y2 c_c0 c_c1 c_z0 c_z1 c_z2 c_t0 c_t1 c_t2 c_d0 c_d1 c_f0 c_f1 c_f2
    generalize (w18.alloc (.cells #[.int .i64 n, .int .i64 (nfW n l).1, .slice ra rn rc] 27)) = w19 at *
    refine (sn_spec _ _ _ _ _ _ _ _ _ hr hx).mono ?_
    rintro e w20 ⟨rfl, hs⟩
    replace hu := hu.below hs
    replace hv := hv.below hs
    replace hx := hx.below hs
    replace hy := hy.below hs
    replace hc := hc.below hs
    replace hz := hz.below hs
    replace ht := ht.below hs
    replace hd := hd.below hs
    replace hr := hr.below hs
    replace hA := hA.below hs
    replace hB := hB.below hs
    replace hX := hX.below hs
    replace hY := hY.below hs
    replace hC := hC.below hs
    replace hZ := hZ.below hs
    replace hT := hT.below hs
    replace hD := hD.below hs
    replace hF := hF.below hs
    replace hb := hb.trans (hs.mono hb.size)
    clear hs
    rw [sameN_self]
    have c_a0 := hA.cell 0 rfl
    have c_a1 := hA.cell 1 rfl
    have c_b0 := hB.cell 0 rfl
    have c_b1 := hB.cell 1 rfl
    have c_x0 := hX.cell 0 rfl
    have c_x1 := hX.cell 1 rfl
    have c_x2 := hX.cell 2 rfl
    have c_y0 := hY.cell 0 rfl
    have c_y1 := hY.cell 1 rfl
    have c_y2 := hY.cell 2 rfl
    have c_c0 := hC.cell 0 rfl
    have c_c1 := hC.cell 1 rfl
    have c_z0 := hZ.cell 0 rfl
    have c_z1 := hZ.cell 1 rfl
    have c_z2 := hZ.cell 2 rfl
    have c_t0 := hT.cell 0 rfl
    have c_t1 := hT.cell 1 rfl
    have c_t2 := hT.cell 2 rfl
    have c_d0 := hD.cell 0 rfl
    have c_d1 := hD.cell 1 rfl
    have c_f0 := hF.cell 0 rfl
    have c_f1 := hF.cell 1 rfl
    have c_f2 := hF.cell 2 rfl
    go_wp2_with fail
    clear c_a0 c_a1 c_b0 c_b1 c_x0 c_x1 c_x2 c_y0 c_y1 c_y2 c_c0 c_c1 c_z0 c_z1 c_z2 c_t0 c_t1 c_t2 c_d0 c_d1 c_f0 c_f1 c_f2
    refine (veq_spec _ _ _ _ _ _ _ hd hu).mono ?_
    rintro e w21 ⟨rfl, hs⟩
    replace hu := hu.below hs
    replace hv := hv.below hs
    replace hx := hx.below hs
    replace hy := hy.below hs
    replace hc := hc.below hs
    replace hz := hz.below hs
    replace ht := ht.below hs
    replace hd := hd.below hs
    replace hr := hr.below hs
    replace hA := hA.below hs
    replace hB := hB.below hs
    replace hX := hX.below hs
    replace hY := hY.below hs
    replace hC := hC.below hs
    replace hZ := hZ.below hs
    replace hT := hT.below hs
    replace hD := hD.below hs
    replace hF := hF.below hs
    replace hb := hb.trans (hs.mono hb.size)
    clear hs
    have e4 : eqBr n (wordN n (nfW n l).1 (vals (nfW n l).2)) n l = true := by unfold eqBr; rw [okB_mk (by omega) h40 (word_ok _ _), okB_mk (by omega) (by omega) hkl.out]; simp only [Int.toNat_natCast]; simp [nfw_word (n := n) (l := l) (by omega) (by omega) hkl.out]
    rw [e4]
    have c_a0 := hA.cell 0 rfl
    have c_a1 := hA.cell 1 rfl
    have c_b0 := hB.cell 0 rfl
    have c_b1 := hB.cell 1 rfl
    have c_x0 := hX.cell 0 rfl
    have c_x1 := hX.cell 1 rfl
    have c_x2 := hX.cell 2 rfl
    have c_y0 := hY.cell 0 rfl
    have c_y1 := hY.cell 1 rfl
    have c_y2 := hY.cell 2 rfl
    have c_c0 := hC.cell 0 rfl
    have c_c1 := hC.cell 1 rfl
    have c_z0 := hZ.cell 0 rfl
    have c_z1 := hZ.cell 1 rfl
    have c_z2 := hZ.cell 2 rfl
    have c_t0 := hT.cell 0 rfl
    have c_t1 := hT.cell 1 rfl
    have c_t2 := hT.cell 2 rfl
    have c_d0 := hD.cell 0 rfl
    have c_d1 := hD.cell 1 rfl
    have c_f0 := hF.cell 0 rfl
    have c_f1 := hF.cell 1 rfl
    have c_f2 := hF.cell 2 rfl
    go_wp2_with fail
    go_ret
    exact ⟨rfl, hb⟩
  case neg =>
    have e1 : codeBN n (nfW n l).1 (vals (nfW n l).2) = 5 := by unfold codeBN; rw [hnb, if_pos rfl, if_neg h40]
    have e2 : nBN n (nfW n l).1 (vals (nfW n l).2) = 0 := by unfold nBN; rw [e1]; rfl
    have e3 : lBN n (nfW n l).1 (vals (nfW n l).2) = [] := by unfold lBN; rw [e1]; rfl
    rw [e1, e2]
    replace hu := hu.alloc (.cells #[.int .i64 0, .slice da dn dc] 35)
    replace hv := hv.alloc (.cells #[.int .i64 0, .slice da dn dc] 35)
    replace hx := hx.alloc (.cells #[.int .i64 0, .slice da dn dc] 35)
    replace hy := hy.alloc (.cells #[.int .i64 0, .slice da dn dc] 35)
    replace hc := hc.alloc (.cells #[.int .i64 0, .slice da dn dc] 35)
    replace hz := hz.alloc (.cells #[.int .i64 0, .slice da dn dc] 35)
    replace ht := ht.alloc (.cells #[.int .i64 0, .slice da dn dc] 35)
    replace hd := hd.alloc (.cells #[.int .i64 0, .slice da dn dc] 35)
    replace hA := hA.alloc (.cells #[.int .i64 0, .slice da dn dc] 35)
    replace hB := hB.alloc (.cells #[.int .i64 0, .slice da dn dc] 35)
    replace hX := hX.alloc (.cells #[.int .i64 0, .slice da dn dc] 35)
    replace hY := hY.alloc (.cells #[.int .i64 0, .slice da dn dc] 35)
    replace hC := hC.alloc (.cells #[.int .i64 0, .slice da dn dc] 35)
    replace hZ := hZ.alloc (.cells #[.int .i64 0, .slice da dn dc] 35)
    replace hT := hT.alloc (.cells #[.int .i64 0, .slice da dn dc] 35)
    have hD := Bx.new w16 #[.int .i64 0, .slice da dn dc] 35
    replace hb := hb.alloc hb.size (.cells #[.int .i64 0, .slice da dn dc] 35)
    have c_a0 := hA.cell 0 rfl
    have c_a1 := hA.cell 1 rfl
    have c_b0 := hB.cell 0 rfl
    have c_b1 := hB.cell 1 rfl
    have c_x0 := hX.cell 0 rfl
    have c_x1 := hX.cell 1 rfl
    have c_x2 := hX.cell 2 rfl
    have c_y0 := hY.cell 0 rfl
    have c_y1 := hY.cell 1 rfl
    have c_y2 := hY.cell 2 rfl
    have c_c0 := hC.cell 0 rfl
    have c_c1 := hC.cell 1 rfl
    have c_z0 := hZ.cell 0 rfl
    have c_z1 := hZ.cell 1 rfl
    have c_z2 := hZ.cell 2 rfl
    have c_t0 := hT.cell 0 rfl
    have c_t1 := hT.cell 1 rfl
    have c_t2 := hT.cell 2 rfl
    have c_d0 := hD.cell 0 rfl
    have c_d1 := hD.cell 1 rfl
    go_wp2_with fail
    clear c_a0 c_a1 c_b0 c_b1 c_x0 c_x1 c_x2 c_y0 c_y1 c_y2 c_c0 c_c1 c_z0 c_z1 c_z2 c_t0 c_t1 c_t2 c_d0 c_d1
    generalize (w16.alloc (.cells #[.int .i64 0, .slice da dn dc] 35)) = w17 at *
    refine (vbn_spec _ _ _ _ _ hx).mono ?_
    rintro e w18 ⟨f, rfl, ho, hs0⟩; have hs := hs0; have hf := ho.reads; clear ho hs0
    replace hu := hu.below hs
    replace hv := hv.below hs
    replace hx := hx.below hs
    replace hy := hy.below hs
    replace hc := hc.below hs
    replace hz := hz.below hs
    replace ht := ht.below hs
    replace hd := hd.below hs
    replace hA := hA.below hs
    replace hB := hB.below hs
    replace hX := hX.below hs
    replace hY := hY.below hs
    replace hC := hC.below hs
    replace hZ := hZ.below hs
    replace hT := hT.below hs
    replace hD := hD.below hs
    replace hb := hb.trans (hs.mono hb.size)
    clear hs
    obtain ⟨fa, fn, fc, rfl⟩ := hf.lit
    rw [e1, e2]
    replace hu := hu.alloc (.cells #[.int .i64 0, .slice fa fn fc] 35)
    replace hv := hv.alloc (.cells #[.int .i64 0, .slice fa fn fc] 35)
    replace hx := hx.alloc (.cells #[.int .i64 0, .slice fa fn fc] 35)
    replace hy := hy.alloc (.cells #[.int .i64 0, .slice fa fn fc] 35)
    replace hc := hc.alloc (.cells #[.int .i64 0, .slice fa fn fc] 35)
    replace hz := hz.alloc (.cells #[.int .i64 0, .slice fa fn fc] 35)
    replace ht := ht.alloc (.cells #[.int .i64 0, .slice fa fn fc] 35)
    replace hd := hd.alloc (.cells #[.int .i64 0, .slice fa fn fc] 35)
    replace hf := hf.alloc (.cells #[.int .i64 0, .slice fa fn fc] 35)
    replace hA := hA.alloc (.cells #[.int .i64 0, .slice fa fn fc] 35)
    replace hB := hB.alloc (.cells #[.int .i64 0, .slice fa fn fc] 35)
    replace hX := hX.alloc (.cells #[.int .i64 0, .slice fa fn fc] 35)
    replace hY := hY.alloc (.cells #[.int .i64 0, .slice fa fn fc] 35)
    replace hC := hC.alloc (.cells #[.int .i64 0, .slice fa fn fc] 35)
    replace hZ := hZ.alloc (.cells #[.int .i64 0, .slice fa fn fc] 35)
    replace hT := hT.alloc (.cells #[.int .i64 0, .slice fa fn fc] 35)
    replace hD := hD.alloc (.cells #[.int .i64 0, .slice fa fn fc] 35)
    have hF := Bx.new w18 #[.int .i64 0, .slice fa fn fc] 35
    replace hb := hb.alloc hb.size (.cells #[.int .i64 0, .slice fa fn fc] 35)
    have c_a0 := hA.cell 0 rfl
    have c_a1 := hA.cell 1 rfl
    have c_b0 := hB.cell 0 rfl
    have c_b1 := hB.cell 1 rfl
    have c_x0 := hX.cell 0 rfl
    have c_x1 := hX.cell 1 rfl
    have c_x2 := hX.cell 2 rfl
    have c_y0 := hY.cell 0 rfl
    have c_y1 := hY.cell 1 rfl
    have c_y2 := hY.cell 2 rfl
    have c_c0 := hC.cell 0 rfl
    have c_c1 := hC.cell 1 rfl
    have c_z0 := hZ.cell 0 rfl
    have c_z1 := hZ.cell 1 rfl
    have c_z2 := hZ.cell 2 rfl
    have c_t0 := hT.cell 0 rfl
    have c_t1 := hT.cell 1 rfl
    have c_t2 := hT.cell 2 rfl
    have c_d0 := hD.cell 0 rfl
    have c_d1 := hD.cell 1 rfl
    have c_f0 := hF.cell 0 rfl
    have c_f1 := hF.cell 1 rfl
    go_wp2_with fail
    go_ret
    exact ⟨rfl, hb⟩


end Go.Proofs.Ytmeccemnmkobbaa
