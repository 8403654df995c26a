/- Lists of simple elements as words: what may be exchanged in them, powers of the half twist in front, letters behind. The plain theory of Garside, second part; no program is looked at. -/
import Derived.Test.YtmeccemnmkobbaaGar
namespace Go.Proofs.Ytmeccemnmkobbaa
set_option linter.unusedSectionVars false
namespace Gar
variable {G : Type} [DecidableEq G] (g : Gar G)

/-- a list of simple elements in front of a list -/
def on (w N : List G) : List G := w.foldr g.mult N
theorem on_nil (N : List G) : g.on [] N = N := rfl
theorem on_cons (s : G) (w N : List G) : g.on (s :: w) N = g.mult s (g.on w N) := rfl
theorem on_append (u v N : List G) : g.on (u ++ v) N = g.on u (g.on v N) := by
  unfold on; rw [List.foldr_append]
theorem nf_on (w : List G) : g.nf w = g.on w [] := rfl
theorem nf_append (u v : List G) : g.nf (u ++ v) = g.on u (g.nf v) := g.on_append u v []
theorem mult_on (s : G) (L N : List G) : g.mult s (g.on L N) = g.on (g.mult s L) N := by
  induction L generalizing s with
  | nil =>
    show g.mult s N = _
    by_cases e : s = g.one
    · subst e; rw [g.mult_one]; simp [mult, on]
    · simp [mult, e, on]
  | cons x L ih =>
    rw [mult, on_cons, on_cons, ← ih]
    have e : g.hd s x = g.mul s (g.M s x) := rfl
    rw [e, ← g.mult_mult (g.red_M s x), g.mult_mult (g.red_M_rm s x), g.M_rm]
theorem on_nf (w N : List G) : g.on (g.nf w) N = g.on w N := by
  induction w with
  | nil => rfl
  | cons s w ih =>
    show g.on (g.mult s (g.nf w)) N = g.mult s (g.on w N)
    rw [← g.mult_on, ih]
theorem on_stab (w N : List G) (h : g.Stab N) : g.Stab (g.on w N) := by
  induction w with
  | nil => exact h
  | cons s w ih => exact g.mult_stab s _ ih

/-- two lists that may stand for one another -/
def Eqv (w w' : List G) : Prop := ∀ N, g.on w N = g.on w' N
theorem eqv_refl (w : List G) : g.Eqv w w := fun _ => rfl
theorem eqv_symm {w w' : List G} (h : g.Eqv w w') : g.Eqv w' w := fun N => (h N).symm
theorem eqv_trans {a b c : List G} (h : g.Eqv a b) (k : g.Eqv b c) : g.Eqv a c := fun N => (h N).trans (k N)
theorem eqv_app {u u' v v' : List G} (h : g.Eqv u u') (k : g.Eqv v v') : g.Eqv (u ++ v) (u' ++ v') := fun N => by
  rw [g.on_append, g.on_append, h, k]
theorem eqv_nf (w : List G) : g.Eqv (g.nf w) w := g.on_nf w
theorem nf_of_eqv {w w' : List G} (h : g.Eqv w w') : g.nf w = g.nf w' := h []
theorem eqv_of_nf {w w' : List G} (h : g.nf w = g.nf w') : g.Eqv w w' := fun N => by rw [← g.on_nf w, h, g.on_nf]
theorem eqv_pair {s t : G} (h : g.red s t) : g.Eqv [s, t] [g.mul s t] := fun N => g.mult_mult h N
theorem eqv_one : g.Eqv [g.one] [] := fun N => g.mult_one N
theorem eqv_move {s t m : G} (h1 : g.red s m) (h2 : g.le m t) : g.Eqv [s, t] [g.mul s m, g.mul (g.inv m) t] := by
  intro N
  have h3 : g.red m (g.mul (g.inv m) t) := by unfold red; rw [g.cancel']; exact h2
  show g.mult s (g.mult t N) = g.mult (g.mul s m) (g.mult (g.mul (g.inv m) t) N)
  rw [← g.mult_mult h1, g.mult_mult h3, g.cancel']
theorem nf_nf (w : List G) : g.nf (g.nf w) = g.nf w := g.nf_of_stab (g.nf_stab w)

/-- neighbours are left-weighted; ones may stand anywhere -/
def Wt : List G → Prop
  | [] => True
  | [_] => True
  | x :: y :: L => g.M x y = g.one ∧ Wt (y :: L)
theorem wt_tail {x : G} {L : List G} (h : g.Wt (x :: L)) : g.Wt L := by
  cases L with
  | nil => trivial
  | cons y L => exact h.2
theorem wt_one {L : List G} (h : g.Wt (g.one :: L)) : L.filter (fun x => decide (x ≠ g.one)) = [] := by
  induction L with
  | nil => rfl
  | cons y L ih =>
    have h1 := h.1
    rw [g.M_one_left] at h1
    subst h1
    simpa using ih h.2
theorem nf_filter (L : List G) : g.nf (L.filter fun x => decide (x ≠ g.one)) = g.nf L := by
  induction L with
  | nil => rfl
  | cons x L ih =>
    by_cases e : x = g.one
    · subst e
      rw [List.filter_cons_of_neg (by simp), ih]
      show _ = g.mult g.one (g.nf L)
      rw [g.mult_one]
    · rw [List.filter_cons_of_pos (by simpa using e)]
      exact congrArg (g.mult x) ih
theorem lw_filter {L : List G} (h : g.Wt L) : g.Lw (L.filter fun x => decide (x ≠ g.one)) := by
  induction L with
  | nil => trivial
  | cons x L ih =>
    by_cases e : x = g.one
    · subst e
      rw [List.filter_cons_of_neg (by simp), g.wt_one h]; trivial
    · rw [List.filter_cons_of_pos (by simpa using e)]
      cases L with
      | nil => exact e
      | cons y L =>
        have ih' := ih h.2
        by_cases e2 : y = g.one
        · subst e2
          rw [List.filter_cons_of_neg (by simp), g.wt_one h.2]; exact e
        · rw [List.filter_cons_of_pos (by simpa using e2)] at ih' ⊢
          exact ⟨e, h.1, ih'⟩
/-- a list whose neighbours are left-weighted is its own normal form, but for ones -/
theorem nf_wt {L : List G} (h : g.Wt L) : g.nf L = L.filter fun x => decide (x ≠ g.one) := by
  rw [← g.nf_filter, g.nf_of_stab (g.stab_of_lw (g.lw_filter h))]
theorem wt_of_stab {L : List G} (h : g.Stab L) : g.Wt L := by
  induction L with
  | nil => trivial
  | cons x L ih =>
    cases L with
    | nil => trivial
    | cons y L =>
      refine ⟨?_, ih h.2.2⟩
      have h1 := h.2.1
      rw [mult] at h1
      have h2 : g.hd x y = x := by injection h1
      unfold hd at h2
      exact g.mul_left (a := x) (by rw [h2, g.mul_one])
theorem M_at_top {x : G} (h : g.M x g.top = g.one) : x = g.top := by
  have := g.hd_at_top x
  unfold hd at this
  rwa [h, g.mul_one] at this
theorem wt_no_top {x : G} {L : List G} (hx : x ≠ g.top) (h : g.Wt (x :: L)) : ∀ y ∈ x :: L, y ≠ g.top := by
  induction L generalizing x with
  | nil => intro y hy; simp at hy; rw [hy]; exact hx
  | cons z L ih =>
    intro y hy
    rcases List.mem_cons.1 hy with rfl | hy
    · exact hx
    · refine ih ?_ h.2 y hy
      rintro rfl
      exact hx (g.M_at_top h.1)

/-! seen from the other side -/
theorem red_rot {a c e : G} (h : g.mul a (g.mul c e) = g.top) (hr : g.red a c) : g.mul c (g.mul e (g.tau a)) = g.top ∧ g.red c e := by
  have hs := (g.shift a c e).1 ⟨hr, by rw [g.assoc, h]; exact g.le_top _⟩
  refine ⟨?_, hs.1⟩
  have e1 : g.mul c e = g.mul (g.inv a) g.top := by rw [← h, g.cancel]
  rw [← g.assoc, e1]; unfold tau
  rw [g.assoc, ← g.assoc g.top g.top, g.top_top, g.one_mul, g.cancel]
theorem red_tau {a c : G} (h : g.red a c) : g.red (g.tau a) (g.tau c) := by
  have h0 : g.mul a (g.mul c (g.mul (g.inv (g.mul a c)) g.top)) = g.top := by rw [← g.assoc, g.cancel']
  generalize g.mul (g.inv (g.mul a c)) g.top = e at h0
  obtain ⟨h1, r1⟩ := g.red_rot h0 h
  obtain ⟨h2, r2⟩ := g.red_rot h1 r1
  exact (g.red_rot h2 r2).2
theorem tau_inv (a : G) : g.tau (g.inv a) = g.inv (g.tau a) := g.mul_left (a := g.tau a) (by rw [← g.tau_mul, g.mul_inv, g.tau_one, g.mul_inv])
theorem le_tau {a b : G} (h : g.le a b) : g.le (g.tau a) (g.tau b) := by
  have h1 : g.red a (g.mul (g.inv a) b) := by unfold red; rw [g.cancel']; exact h
  have h2 := g.red_tau h1
  unfold red at h2
  rwa [← g.tau_mul, g.cancel'] at h2
theorem M_tau (s x : G) : g.M (g.tau s) (g.tau x) = g.tau (g.M s x) := by
  apply g.le_antisymm
  · have h1 : g.le (g.tau (g.M (g.tau s) (g.tau x))) x := by have := g.le_tau (g.M_le (g.tau s) (g.tau x)); rwa [g.tau_tau] at this
    have h2 : g.red s (g.tau (g.M (g.tau s) (g.tau x))) := by have := g.red_tau (g.red_M (g.tau s) (g.tau x)); rwa [g.tau_tau] at this
    have := g.le_tau (g.M_max _ _ _ h1 h2)
    rwa [g.tau_tau] at this
  · exact g.M_max _ _ _ (g.le_tau (g.M_le s x)) (g.red_tau (g.red_M s x))
theorem tau_eq_one {s : G} : g.tau s = g.one ↔ s = g.one := ⟨fun h => by rw [← g.tau_tau s, h, g.tau_one], fun h => by rw [h, g.tau_one]⟩
theorem tau_eq_top {s : G} : g.tau s = g.top ↔ s = g.top := ⟨fun h => by rw [← g.tau_tau s, h, g.tau_top], fun h => by rw [h, g.tau_top]⟩
theorem mult_tau (s : G) (L : List G) : g.mult (g.tau s) (L.map g.tau) = (g.mult s L).map g.tau := by
  induction L generalizing s with
  | nil =>
    by_cases e : s = g.one
    · simp [mult, e, g.tau_one]
    · have : g.tau s ≠ g.one := fun h => e (g.tau_eq_one.1 h)
      simp [mult, e, this]
  | cons x L ih =>
    have h1 : g.hd (g.tau s) (g.tau x) = g.tau (g.hd s x) := by unfold hd; rw [g.M_tau, g.tau_mul]
    have h2 : g.rm (g.tau s) (g.tau x) = g.tau (g.rm s x) := by unfold rm; rw [g.M_tau, g.tau_mul, g.tau_inv]
    rw [List.map_cons, mult, mult, h1, h2, ih, List.map_cons]
theorem on_tau (w N : List G) : g.on (w.map g.tau) (N.map g.tau) = (g.on w N).map g.tau := by
  induction w with
  | nil => rfl
  | cons s w ih => rw [List.map_cons, on_cons, ih, g.mult_tau]; rfl
theorem nf_tau (w : List G) : g.nf (w.map g.tau) = (g.nf w).map g.tau := g.on_tau w []
theorem map_tau_tau (w : List G) : (w.map g.tau).map g.tau = w := by simp [List.map_map, Function.comp_def, g.tau_tau]

/-! half twists in front -/
theorem on_top (w N : List G) : g.on w (g.top :: N) = g.top :: g.on (w.map g.tau) N := by
  induction w with
  | nil => rfl
  | cons s w ih => rw [on_cons, ih, g.mult_at_top]; rfl
theorem tw_zero (x : G) : g.tw 0 x = x := by unfold tw; rw [if_pos (by decide)]
theorem map_tw_zero (w : List G) : w.map (g.tw 0) = w := by
  rw [show g.tw 0 = id from funext g.tw_zero, List.map_id]
theorem map_tw_tw (p q : Int) (w : List G) : (w.map (g.tw q)).map (g.tw p) = w.map (g.tw (p + q)) := by
  rw [List.map_map]; congr 1; funext x; exact g.tw_tw p q x
theorem map_tau (w : List G) : w.map g.tau = w.map (g.tw 1) := by
  rw [show g.tau = g.tw 1 from funext fun x => (g.tw_one_arg x).symm]
theorem nf_tw (q : Int) (w : List G) : g.nf (w.map (g.tw q)) = (g.nf w).map (g.tw q) := by
  by_cases h : q % 2 = 0
  · have : g.tw q = id := by funext x; unfold tw; rw [if_pos h]; rfl
    rw [this, List.map_id, List.map_id]
  · have : g.tw q = g.tau := by funext x; unfold tw; rw [if_neg h]
    rw [this, g.nf_tau]
theorem tw_eq_top {q : Int} {x : G} : g.tw q x = g.top ↔ x = g.top := by
  unfold tw; split
  · exact Iff.rfl
  · exact g.tau_eq_top
theorem tw_eq_one {q : Int} {x : G} : g.tw q x = g.one ↔ x = g.one := by
  unfold tw; split
  · exact Iff.rfl
  · exact g.tau_eq_one
theorem on_tops (w : List G) (j : Nat) (N : List G) : g.on w (List.replicate j g.top ++ N) = List.replicate j g.top ++ g.on (w.map (g.tw j)) N := by
  induction j generalizing w with
  | zero =>
    have : w.map (g.tw ((0 : Nat) : Int)) = w := g.map_tw_zero w
    rw [this]; rfl
  | succ j ih =>
    rw [List.replicate_succ, List.cons_append, g.on_top, ih, g.map_tau, g.map_tw_tw]
    rfl
theorem tops_on {N : List G} (h : g.Stab N) (hne : g.top ≠ g.one) (j : Nat) : g.on (List.replicate j g.top) N = List.replicate j g.top ++ N ∧ g.Stab (List.replicate j g.top ++ N) := by
  induction j with
  | zero => exact ⟨rfl, h⟩
  | succ j ih =>
    have e := g.mult_top ih.2 hne
    refine ⟨?_, ?_⟩
    · rw [List.replicate_succ, on_cons, ih.1, e]; rfl
    · rw [List.replicate_succ, List.cons_append]; exact ⟨hne, e, ih.2⟩

/-- the normal form of a power of the half twist and a list behind it -/
def NF (x : St G) : St G := g.norm (x.1, g.nf x.2)
theorem norm_split (p : Int) (L : List G) : ∃ j : Nat, L = List.replicate j g.top ++ (g.norm (p, L)).2 ∧ (g.norm (p, L)).1 = p + j := by
  induction L generalizing p with
  | nil => exact ⟨0, rfl, by simp [norm_nil]⟩
  | cons x L ih =>
    by_cases e : x = g.top
    · subst e
      obtain ⟨j, h1, h2⟩ := ih (p + 1)
      refine ⟨j + 1, ?_, ?_⟩
      · rw [norm_top, List.replicate_succ, List.cons_append, ← h1]
      · rw [norm_top, h2]; omega
    · exact ⟨0, by rw [g.norm_cons e]; rfl, by rw [g.norm_cons e]; simp⟩
theorem norm_tops (p : Int) (j : Nat) (L : List G) : g.norm (p, List.replicate j g.top ++ L) = g.norm (p + j, L) := by
  induction j generalizing p with
  | zero => simp
  | succ j ih => rw [List.replicate_succ, List.cons_append, norm_top, ih]; congr 2; omega
theorem NF_stab (x : St G) : g.Stab (g.NF x).2 := g.norm_stab (g.nf_stab x.2)
theorem NF_nf (p : Int) (w : List G) : g.NF (p, g.nf w) = g.NF (p, w) := by unfold NF; simp only; rw [g.nf_nf]
theorem NF_up (k p : Int) (w : List G) : g.NF (p + k, w) = ((g.NF (p, w)).1 + k, (g.NF (p, w)).2) := g.norm_up k p (g.nf w)
theorem norm_tw (q p : Int) (L : List G) : g.norm (p, L.map (g.tw q)) = ((g.norm (p, L)).1, (g.norm (p, L)).2.map (g.tw q)) := by
  induction L generalizing p with
  | nil => rfl
  | cons x L ih =>
    by_cases e : x = g.top
    · subst e; rw [List.map_cons, g.tw_top, norm_top, norm_top, ih]
    · have : g.tw q x ≠ g.top := fun h => e (g.tw_eq_top.1 h)
      rw [List.map_cons, g.norm_cons this, g.norm_cons e]; rfl
theorem NF_tw (q p : Int) (w : List G) : g.NF (p, w.map (g.tw q)) = ((g.NF (p, w)).1, (g.NF (p, w)).2.map (g.tw q)) := by
  show g.norm (p, g.nf (w.map (g.tw q))) = _
  rw [g.nf_tw, g.norm_tw]; rfl
theorem top_ne_of {j : Nat} {L w : List G} (h : g.nf w = List.replicate j g.top ++ L) : j = 0 ∨ g.top ≠ g.one := by
  cases j with
  | zero => exact .inl rfl
  | succ j =>
    right
    have := g.nf_stab w
    rw [h, List.replicate_succ] at this
    exact this.1
theorem NF_right (p : Int) (w v : List G) : g.NF (p, w ++ v) = g.NF ((g.NF (p, w)).1, (g.NF (p, w)).2 ++ v) := by
  obtain ⟨j, h1, h2⟩ := g.norm_split p (g.nf w)
  have e : g.NF (p, w) = g.norm (p, g.nf w) := rfl
  rw [e, h2]
  generalize (g.norm (p, g.nf w)).2 = L at *
  show g.norm (p, g.nf (w ++ v)) = g.norm (p + j, g.nf (L ++ v))
  rw [g.nf_append, g.nf_append, ← g.on_nf w, h1, g.on_append]
  rcases g.top_ne_of h1 with rfl | hne
  · simp [on_nil]
  · rw [(g.tops_on (g.on_stab L _ (g.nf_stab v)) hne j).1, g.norm_tops]
theorem NF_left (p q : Int) (w v : List G) : g.NF (p + q, w.map (g.tw q) ++ v) = g.NF (p + (g.NF (q, v)).1, w.map (g.tw (g.NF (q, v)).1) ++ (g.NF (q, v)).2) := by
  obtain ⟨j, h1, h2⟩ := g.norm_split q (g.nf v)
  have hst := g.NF_stab (q, v)
  have e : g.NF (q, v) = g.norm (q, g.nf v) := rfl
  rw [e] at hst ⊢
  rw [h2]
  generalize (g.norm (q, g.nf v)).2 = L at *
  show g.norm (p + q, g.nf (w.map (g.tw q) ++ v)) = g.norm (p + (q + j), g.nf (w.map (g.tw (q + j)) ++ L))
  rw [g.nf_append, h1, g.on_tops, g.map_tw_tw, g.norm_tops, g.nf_append, g.nf_of_stab hst]
  congr 2
  · omega
  · congr 3; omega
/-- one state behind another -/
def join (x y : St G) : St G := g.NF (x.1 + y.1, x.2.map (g.tw y.1) ++ y.2)
theorem join_NF (x y : St G) : g.join (g.NF x) (g.NF y) = g.join x y := by
  obtain ⟨p, w⟩ := x
  obtain ⟨q, v⟩ := y
  unfold join
  simp only
  rw [g.NF_left p q w v]
  generalize g.NF (q, v) = y
  obtain ⟨q', v'⟩ := y
  simp only
  rw [g.NF_right (p + q') (w.map (g.tw q')) v', g.NF_up q' p, g.NF_tw]

/-! letters behind -/
/-- a letter: whether it is positive, and its simple element -/
abbrev Lt (G : Type) := Bool × G
/-- a letter behind a state -/
def stp (x : St G) (l : Lt G) : St G := if l.1 then (x.1, x.2 ++ [l.2]) else (x.1 - 1, x.2.map g.tau ++ [g.mul g.top (g.inv l.2)])
theorem stp_pos (x : St G) (s : G) : g.stp x (true, s) = (x.1, x.2 ++ [s]) := rfl
theorem stp_neg (x : St G) (s : G) : g.stp x (false, s) = (x.1 - 1, x.2.map g.tau ++ [g.mul g.top (g.inv s)]) := rfl
def stps (x : St G) (w : List (Lt G)) : St G := w.foldl g.stp x
theorem stps_nil (x : St G) : g.stps x [] = x := rfl
theorem stps_cons (x : St G) (l : Lt G) (w : List (Lt G)) : g.stps x (l :: w) = g.stps (g.stp x l) w := rfl
theorem stps_append (x : St G) (u v : List (Lt G)) : g.stps x (u ++ v) = g.stps (g.stps x u) v := by unfold stps; rw [List.foldl_append]
/-- the state of a word -/
def raw (w : List (Lt G)) : St G := g.stps (0, []) w
theorem raw_append (u v : List (Lt G)) : g.raw (u ++ v) = g.stps (g.raw u) v := g.stps_append _ u v
theorem stps_join (w : List (Lt G)) (p q : Int) (L M : List G) :
    g.stps (p + q, L.map (g.tw q) ++ M) w = (p + (g.stps (q, M) w).1, L.map (g.tw (g.stps (q, M) w).1) ++ (g.stps (q, M) w).2) := by
  induction w generalizing q M with
  | nil => rfl
  | cons l w ih =>
    obtain ⟨b, s⟩ := l
    cases b with
    | true =>
      rw [stps_cons, stps_cons, stp_pos, stp_pos]
      simp only
      rw [List.append_assoc, ih]
    | false =>
      rw [stps_cons, stps_cons, stp_neg, stp_neg]
      simp only
      rw [← ih, List.map_append, g.map_tau (L.map _), g.map_tw_tw, List.append_assoc]
      congr 2
      · omega
      · congr 1
        congr 1
        funext x
        unfold tw
        by_cases h : q % 2 = 0
        · rw [if_neg (by omega), if_neg (by omega)]
        · rw [if_pos (by omega), if_pos (by omega)]
theorem stps_raw (x : St G) (w : List (Lt G)) : g.stps x w = (x.1 + (g.raw w).1, x.2.map (g.tw (g.raw w).1) ++ (g.raw w).2) := by
  have := g.stps_join w x.1 0 x.2 []
  rw [g.map_tw_zero] at this
  simp only [Int.add_zero, List.append_nil] at this
  exact this
theorem NF_stp (x : St G) (l : Lt G) : g.NF (g.stp (g.NF x) l) = g.NF (g.stp x l) := by
  obtain ⟨p, w⟩ := x
  obtain ⟨b, s⟩ := l
  cases b with
  | true => rw [stp_pos, stp_pos]; exact (g.NF_right p w [s]).symm
  | false =>
    rw [stp_neg, stp_neg]
    simp only
    rw [g.NF_right (p - 1) (w.map g.tau), g.map_tau, g.map_tau, show p - 1 = p + (-1) by omega, g.NF_up (-1) p, g.NF_tw]
    rfl
theorem NF_stp_congr {x y : St G} (h : g.NF x = g.NF y) (l : Lt G) : g.NF (g.stp x l) = g.NF (g.stp y l) := by rw [← g.NF_stp x, h, g.NF_stp]
theorem NF_stps_congr {x y : St G} (h : g.NF x = g.NF y) (w : List (Lt G)) : g.NF (g.stps x w) = g.NF (g.stps y w) := by
  induction w generalizing x y with
  | nil => exact h
  | cons l w ih => exact ih (g.NF_stp_congr h l)
theorem NF_trivial : g.NF (0, []) = (0, []) := rfl
theorem NF_NF (x : St G) : g.NF (g.NF x) = g.NF x := by
  show g.norm ((g.NF x).1, g.nf (g.NF x).2) = _
  rw [g.nf_of_stab (g.NF_stab x)]
  exact g.norm_norm _
/-- the normal form, kept at every letter -/
theorem NF_fold (w : List (Lt G)) (x : St G) : w.foldl (fun x l => g.NF (g.stp x l)) (g.NF x) = g.NF (g.stps x w) := by
  induction w generalizing x with
  | nil => rfl
  | cons l w ih => rw [List.foldl_cons, g.NF_stp, ih]; rfl
theorem NF_eqv {w w' : List G} (h : g.Eqv w w') (p : Int) : g.NF (p, w) = g.NF (p, w') := by
  show g.norm (p, g.nf w) = g.norm (p, g.nf w')
  rw [g.nf_of_eqv h]
theorem NF_end_top (hne : g.top ≠ g.one) (p : Int) (w : List G) : g.NF (p, w ++ [g.top]) = g.NF (p + 1, w.map g.tau) := by
  show g.norm (p, g.nf (w ++ [g.top])) = g.norm (p + 1, g.nf (w.map g.tau))
  rw [g.nf_append]
  have e : g.nf [g.top] = [g.top] := by simp [nf, mult, hne]
  rw [e, g.on_top, norm_top]; rfl
theorem NF_cancel (hne : g.top ≠ g.one) (x : St G) (b : Bool) (s : G) : g.NF (g.stp (g.stp x (b, s)) (!b, s)) = g.NF x := by
  obtain ⟨p, w⟩ := x
  cases b with
  | true =>
    have e : g.mul (g.tau s) (g.mul g.top (g.inv s)) = g.top := by
      unfold tau
      rw [g.assoc, g.assoc, ← g.assoc g.top g.top, g.top_top, g.one_mul, g.mul_inv, g.mul_one]
    have h : g.red (g.tau s) (g.mul g.top (g.inv s)) := by unfold red; rw [e]; exact g.le_top _
    have h1 := g.eqv_pair h
    rw [e] at h1
    show g.NF (p - 1, (w ++ [s]).map g.tau ++ [g.mul g.top (g.inv s)]) = g.NF (p, w)
    rw [List.map_append, List.append_assoc, List.map_singleton, List.singleton_append]
    rw [g.NF_eqv (g.eqv_app (g.eqv_refl (w.map g.tau)) h1), g.NF_end_top hne, g.map_tau_tau]
    congr 2; omega
  | false =>
    have e : g.mul (g.mul g.top (g.inv s)) s = g.top := by rw [g.assoc, g.inv_mul, g.mul_one]
    have h : g.red (g.mul g.top (g.inv s)) s := by unfold red; rw [e]; exact g.le_top _
    have h1 := g.eqv_pair h
    rw [e] at h1
    show g.NF (p - 1, (w.map g.tau ++ [g.mul g.top (g.inv s)]) ++ [s]) = g.NF (p, w)
    rw [List.append_assoc, List.singleton_append]
    rw [g.NF_eqv (g.eqv_app (g.eqv_refl (w.map g.tau)) h1), g.NF_end_top hne, g.map_tau_tau]
    congr 2; omega

/-! words that are the same braid -/
def Wq (w w' : List (Lt G)) : Prop := ∀ x, g.NF (g.stps x w) = g.NF (g.stps x w')
theorem Wq.refl (w : List (Lt G)) : g.Wq w w := fun _ => rfl
theorem Wq.symm {w w' : List (Lt G)} (h : g.Wq w w') : g.Wq w' w := fun x => (h x).symm
theorem Wq.trans {a b c : List (Lt G)} (h : g.Wq a b) (k : g.Wq b c) : g.Wq a c := fun x => (h x).trans (k x)
theorem Wq.app {u u' v v' : List (Lt G)} (h : g.Wq u u') (k : g.Wq v v') : g.Wq (u ++ v) (u' ++ v') := fun x => by
  rw [g.stps_append, g.stps_append, g.NF_stps_congr (h x) v, k]
theorem Wq.raw {w w' : List (Lt G)} (h : g.Wq w w') : g.NF (g.raw w) = g.NF (g.raw w') := h _
theorem Wq.of_raw {w w' : List (Lt G)} (h : g.NF (g.raw w) = g.NF (g.raw w')) : g.Wq w w' := by
  intro x
  rw [g.stps_raw, g.stps_raw x w']
  have h1 := g.join_NF x (g.raw w)
  have h2 := g.join_NF x (g.raw w')
  rw [h] at h1
  exact h1.symm.trans h2
/-- the letters backwards, with the other signs -/
def winv (w : List (Lt G)) : List (Lt G) := (w.map fun l => (!l.1, l.2)).reverse
theorem winv_winv (w : List (Lt G)) : winv (winv w) = w := by
  unfold winv
  rw [List.map_reverse, List.reverse_reverse, List.map_map]
  simp [Function.comp_def]
theorem winv_append (u v : List (Lt G)) : winv (u ++ v) = winv v ++ winv u := by simp [winv]
theorem Wq.inv_right (hne : g.top ≠ g.one) (w : List (Lt G)) : g.Wq (w ++ winv w) [] := by
  induction w with
  | nil => exact Wq.refl g []
  | cons l w ih =>
    intro x
    have e : (l :: w) ++ winv (l :: w) = l :: ((w ++ winv w) ++ [(!l.1, l.2)]) := by simp [winv]
    rw [e, stps_cons, g.stps_append]
    rw [g.NF_stps_congr (ih (g.stp x l)) [(!l.1, l.2)]]
    exact g.NF_cancel hne x l.1 l.2
theorem Wq.inv_left (hne : g.top ≠ g.one) (w : List (Lt G)) : g.Wq (winv w ++ w) [] := by
  have := Wq.inv_right g hne (winv w)
  rwa [winv_winv] at this
theorem Wq.inv (hne : g.top ≠ g.one) {w w' : List (Lt G)} (h : g.Wq w w') : g.Wq (winv w) (winv w') := by
  have h1 : g.Wq (winv w ++ (w' ++ winv w')) (winv w ++ []) := Wq.app g (Wq.refl g _) (Wq.inv_right g hne w')
  have h2 : g.Wq (winv w ++ (w' ++ winv w')) (winv w ++ (w ++ winv w')) := Wq.app g (Wq.refl g _) (Wq.app g (Wq.symm g h) (Wq.refl g _))
  have h3 : g.Wq (winv w ++ w ++ winv w') ([] ++ winv w') := Wq.app g (Wq.inv_left g hne w) (Wq.refl g _)
  rw [List.append_nil] at h1
  rw [List.append_assoc, List.nil_append] at h3
  exact Wq.trans g (Wq.symm g h1) (Wq.trans g h2 h3)
/-- positive letters -/
def wpos (l : List G) : List (Lt G) := l.map fun s => (true, s)
theorem stps_wpos (x : St G) (l : List G) : g.stps x (wpos l) = (x.1, x.2 ++ l) := by
  induction l generalizing x with
  | nil => simp [wpos, stps_nil]
  | cons s l ih =>
    show g.stps (g.stp x (true, s)) (wpos l) = _
    rw [ih, stp_pos]; simp
theorem Wq.pos {l l' : List G} (h : g.Eqv l l') : g.Wq (wpos l) (wpos l') := fun x => by
  rw [g.stps_wpos, g.stps_wpos]
  exact g.NF_eqv (g.eqv_app (g.eqv_refl _) h) _
theorem NF_raw_iff (hne : g.top ≠ g.one) (a b : List (Lt G)) : g.NF (g.raw (a ++ winv b)) = (0, []) ↔ g.NF (g.raw a) = g.NF (g.raw b) := by
  constructor
  · intro h
    have h1 : g.Wq (a ++ winv b) [] := Wq.of_raw g (h.trans g.NF_trivial.symm)
    have h2 : g.Wq (a ++ (winv b ++ b)) (a ++ []) := Wq.app g (Wq.refl g a) (Wq.inv_left g hne b)
    have h3 : g.Wq ((a ++ winv b) ++ b) ([] ++ b) := Wq.app g h1 (Wq.refl g b)
    rw [List.append_nil] at h2
    rw [List.append_assoc, List.nil_append] at h3
    exact Wq.raw g (Wq.trans g (Wq.symm g h2) h3)
  · intro h
    have h1 : g.Wq (a ++ winv b) (b ++ winv b) := Wq.app g (Wq.of_raw g h) (Wq.refl g _)
    exact (Wq.raw g (Wq.trans g h1 (Wq.inv_right g hne b))).trans g.NF_trivial

end Gar
end Go.Proofs.Ytmeccemnmkobbaa
