/- Walk of the law on doubled braids. -/
import Derived.Test.YtmeccemnmkobbaaDbz
import Derived.Test.YtmeccemnmkobbaaRl
import Derived.Test.YtmeccemnmkobbaaBrj
import Derived.Test.YtmeccemnmkobbaaSre
import Derived.Test.YtmeccemnmkobbaaSeq
import Derived.Test.YtmeccemnmkobbaaLnf
namespace Go.Proofs.Ytmeccemnmkobbaa
open Pm

theorem swapAt_map (f : Int → Int) {L : List Int} {k : Nat} (hk : k + 1 < L.length) : swapAt (L.map f) k = (swapAt L k).map f := by
  unfold swapAt
  rw [nth_map f hk, nth_map f (by omega), List.map_set, List.map_set]
theorem exch_map (f : Int → Int) (w : List Int) {L : List Int} (h : ∀ k ∈ w, k.toNat + 1 < L.length) : exch (L.map f) w = (exch L w).map f := by
  induction w generalizing L with
  | nil => rfl
  | cons k w ih =>
    show exch (swapAt (L.map f) k.toNat) w = (exch (swapAt L k.toNat) w).map f
    rw [swapAt_map f (h k (by simp))]
    exact ih (fun x hx => by rw [length_swapAt]; exact h x (by simp [hx]))
theorem as_map (z : List Int) : (idn z.length).map (fun x => nth z x.toNat) = z := by
  refine ext_nth (by simp) fun i hi => ?_
  rw [List.length_map, length_idn] at hi
  rw [nth_map _ (by simpa using hi), nth_idn hi]
  simp
theorem IsPerm.swapAt {l : List Int} (h : IsPerm l) {k : Nat} (hk : k + 1 < l.length) : IsPerm (swapAt l k) := by
  intro i hi
  rw [length_swapAt] at hi
  have hσ : ∀ i, i < l.length → ∃ s, s < l.length ∧ nth (Go.Proofs.Ytmeccemnmkobbaa.swapAt l k) i = nth l s ∧ (s = if i = k then k + 1 else if i = k + 1 then k else i) := by
    intro i hi
    refine ⟨if i = k then k + 1 else if i = k + 1 then k else i, ?_, ?_, rfl⟩
    · split
      · omega
      · split <;> omega
    · rw [nth_swapAt hk]
      split
      · rfl
      · split <;> rfl
  obtain ⟨s, hs, es, ds⟩ := hσ i hi
  rw [es, length_swapAt]
  refine ⟨h.lo hs, h.hi hs, ?_⟩
  intro j hj
  obtain ⟨t, ht, et, dt⟩ := hσ j (by omega)
  rw [et]
  refine h.ne ht hs ?_
  intro e
  rw [ds, dt] at e
  split at e <;> split at e <;> (try split at e) <;> (try split at e) <;> omega
theorem exch_isPerm (w : List Int) {L : List Int} (hL : IsPerm L) (h : ∀ k ∈ w, k.toNat + 1 < L.length) : IsPerm (exch L w) := by
  induction w generalizing L with
  | nil => exact hL
  | cons k w ih =>
    show IsPerm (exch (swapAt L k.toNat) w)
    exact ih (hL.swapAt (h k (by simp))) (fun x hx => by rw [length_swapAt]; exact h x (by simp [hx]))

/-- numbers put where a permutation says -/
def scat (P z : List Int) : Nat → List Int
  | 0 => List.replicate P.length 0
  | k + 1 => (scat P z k).set (nth P k).toNat (nth z k)
@[simp] theorem length_scat (P z : List Int) (k : Nat) : (scat P z k).length = P.length := by
  induction k with
  | zero => simp [scat]
  | succ k ih => simp [scat, ih]
theorem nth_scat {P z : List Int} (hP : IsPerm P) {k : Nat} (hk : k ≤ P.length) : ∀ j, j < k → nth (scat P z k) (nth P j).toNat = nth z j := by
  induction k with
  | zero => intro j hj; omega
  | succ k ih =>
    intro j hj
    have h0 := hP.lo (i := k) (by omega)
    have h1 := hP.hi (i := k) (by omega)
    have h2 := hP.lo (i := j) (by omega)
    rw [scat, nth_set' (by rw [length_scat]; omega)]
    by_cases e : k = j
    · subst e; simp
    · have := hP.ne (i := k) (j := j) (by omega) (by omega) e
      rw [if_neg (by omega)]
      exact ih (by omega) j (by omega)
theorem exchL_lv {n : Nat} {l : List Int} (hl : ∀ k ∈ l, Lv n k) : ∀ x ∈ exchL l, x.toNat + 1 < n := by
  intro x hx
  unfold exchL at hx
  rw [List.mem_map] at hx
  obtain ⟨k, hk, rfl⟩ := hx
  have h := hl k hk
  have h1 := h.1
  have h2 := h.2
  unfold absI
  split <;> omega
theorem aft_exch {n : Nat} (l : List Int) {z : List Int} (hz : z.length = n) (hl : ∀ k ∈ l, Lv n k) : aft l (sz z) = sz (exch z (exchL l)) := by
  induction l generalizing z with
  | nil => rfl
  | cons k l ih =>
    have h := hl k (by simp)
    have h1 := h.1
    have h2 := h.2
    have e : (absI k - 1).toNat = k.natAbs - 1 := by unfold absI; split <;> omega
    show aft l (swN (sz z) (k.natAbs - 1)) = sz (exch (swapAt z (absI k - 1).toNat) (exchL l))
    rw [e, ← sz_swap (by omega)]
    exact ih (by rw [length_swapAt]; exact hz) (fun x hx => hl x (by simp [hx]))
/-- where the sizes go -/
theorem scat_aft {n : Nat} {l z : List Int} (hz : z.length = n) (hl : ∀ k ∈ l, Lv n k) : scat (wordF n (exchL l)) z n = exch z (exchL l) := by
  have hE : IsPerm (exch (idn n) (exchL l)) := exch_isPerm _ (by rw [idn_val]; exact (one n).2.2) (by rw [length_idn]; exact exchL_lv hl)
  have hlen : (exch (idn n) (exchL l)).length = n := by simp
  have hm : exch z (exchL l) = (exch (idn n) (exchL l)).map (fun x => nth z x.toNat) := by
    have := exch_map (fun x => nth z x.toNat) (exchL l) (L := idn n) (by rw [length_idn]; exact exchL_lv hl)
    rw [← this, ← hz, as_map]
  unfold wordF
  rw [hm]
  generalize exch (idn n) (exchL l) = E at *
  have hP : IsPerm (invF E) := by
    have := inv_val (⟨E, hlen, hE⟩ : Pm n)
    rw [show invF E = invF (⟨E, hlen, hE⟩ : Pm n).1 from rfl, this]
    exact (inv _).2.2
  have hPl : (invF E).length = n := by simp [hlen]
  refine ext_nth (by rw [length_scat, hPl, List.length_map, hlen]) fun j hj => ?_
  rw [length_scat, hPl] at hj
  have h0 := hE.lo (i := j) (by omega)
  have h1 := hE.hi (i := j) (by omega)
  have h2 := nth_invF hE (j := j) (by omega)
  have h3 := nth_scat (z := z) hP (k := n) (by omega) (nth E j).toNat (by omega)
  rw [h2, Int.toNat_natCast] at h3
  rw [h3, nth_map _ (by omega)]
/-- equal words give equal words for blocks -/
theorem rels_dw {n : Nat} {l m z : List Int} (h : Rels n l m) (hl : ∀ k ∈ l, Lv n k) (hz : z.length = n) : nfW (sz z).sum (dwI l z) = nfW (sz z).sum (dwI m z) :=
  Gar.Wq.raw _ (h.de hl (sz z) (by rw [length_sz, hz])).2

end Go.Proofs.Ytmeccemnmkobbaa

namespace Go.Proofs.Ytmeccemnmkobbaa
open Go.RowKit
open Pm

theorem Szs.snoc {z : List Int} (h : Szs z) {x : Int} (h0 : 0 ≤ x) (h1 : x ≤ 4) : Szs (z ++ [x]) := by
  intro i hi
  rw [List.length_append, List.length_singleton] at hi
  by_cases e : i < z.length
  · have e2 : nth (z ++ [x]) i = nth z i := by simp [nth, List.getElem?_append_left e]
    rw [e2]; exact h i e
  · obtain rfl : i = z.length := by omega
    have e2 : nth (z ++ [x]) z.length = x := by simp [nth]
    rw [e2]; exact ⟨h0, h1⟩

set_option maxRecDepth 100000 in
set_option maxHeartbeats 4000000 in
theorem e8sizes (cv : Value) (cs : List Int) (n : Nat) (w : World) (h : Reads w cv (bytes cs)) (hr : ∀ i, i < cs.length → 0 ≤ nth cs i ∧ nth cs i ≤ 255) (hs : cs.length ≤ 1048576) (hn : n ≤ 5) :
    Calls Try.prog 42 #[cv, .int .i64 (n : Int)] w fun e w' => ∃ u z, e = .returned u ∧ Own w' w.heap.size 2 u (ints z) ∧ z.length = n ∧ Szs z ∧ Below w.heap.size w w' := by
  go_enter Try.func42, Try.ntmps42
  go_wp2_with fail
  refine (from_src cv cs w h hr hs).mono ?_
  rintro e w1 ⟨rfl, hS1, hb1⟩
  have hgl : w.heap.size < w1.heap.size := by obtain ⟨⟨a, s, h1, h2, h3, hX⟩, -⟩ := hS1; exact hX.lt
  have hO := own_empty w1 2 (B := w1.heap.size) (Nat.le_refl _)
  have hA := (Below.refl w1.heap.size w1).alloc (Nat.le_refl _) (.cells #[] 2)
  have hS2 := hS1.next hA
  have hG2 := GrG.ofBelow w.heap.size hA
  clear hS1 hA h
  go_wp2_with fail
  generalize w1.alloc (.cells #[] 2) = w2 at *
  generalize Value.slice (some ⟨w1.heap.size, 0, none⟩) 0 0 = O at *
  replace hO := hid hO
  replace hG2 := hid hG2
  replace hb1 := hid hb1
  go_loopw [6, 7] (fun o i wr => ∃ (k : Nat) (z : List Int), k ≤ n ∧ i = .int .i64 k ∧ z.length = k ∧ Hid (Szs z) ∧ Own wr w1.heap.size 2 o (ints z) ∧ Src wr w.heap.size cv cs (0 + 2 * k) ∧ Hid (GrG w1 wr w.heap.size)) (fun _ i _ => n - (intOf i).toNat)
  case atStart => exact ⟨0, [], by omega, rfl, rfl, hid (fun i hi => absurd hi (by simp)), hO.out, hS2, hG2⟩
  case round =>
    clear hO hS2 hG2
    obtain ⟨k, z, hk, rfl, hzl, hZ, ho, hS, hG⟩ := hrel
    by_cases hlt : k < n
    · have hz0 := hid hG.out.size
      have hA3 := (Below.refl wr.heap.size wr).alloc (Nat.le_refl _) (.cells #[.int .i64 1, .int .i64 1, .int .i64 2, .int .i64 0] 2)
      have hArr := own_arr wr 2 #[.int .i64 1, .int .i64 1, .int .i64 2, .int .i64 0] 4 rfl (by omega) (Nat.le_refl _)
      have hA' : Reads (wr.alloc (.cells #[.int .i64 1, .int .i64 1, .int .i64 2, .int .i64 0] 2)) (.slice (some ⟨wr.heap.size, 0, none⟩) 4 4) (ints [1, 1, 2, 0]) := hArr.reads
      have hS3 := hS.next hA3
      have ho3 := hid (ho.below hA3)
      have hG3 := hid (hG.out.trans (GrG.ofBelow _ hA3))
      have hz3 : (wr.alloc (.cells #[.int .i64 1, .int .i64 1, .int .i64 2, .int .i64 0] 2)).heap.size = wr.heap.size + 1 := by simp
      clear hArr hS ho hG hA3
      go_wp2_with fail
      generalize wr.alloc (.cells #[.int .i64 1, .int .i64 1, .int .i64 2, .int .i64 0] 2) = w3 at *
      refine (among_src w.heap.size cv _ cs _ _ w3 hS3 hA' (by have := hz0.out; simp [blk]; omega) (by simp) (by simp) (by omega)).mono ?_
      rintro e w4 ⟨x, rfl, hx, hS4, hG4⟩
      have hxb : 0 ≤ x ∧ x ≤ 4 := by
        simp only [List.mem_cons, List.not_mem_nil, or_false] at hx
        omega
      have hA4 := (Below.refl w4.heap.size w4).alloc (Nat.le_refl _) (.cells #[.int .i64 x] 2)
      have ho4 := hG4.own ho3.out (by omega)
      have hz4 := hG4.size
      obtain ⟨v', w5, hrun, ho5, hg5⟩ := app_run (T := 32) (ty := 32) (xs := ints z) (ys := [.int .i64 x]) sliceI infoI rfl (ho4.below hA4) (reads_one w4 (.int .i64 x) 2) (by simp; rfl) (by have := hz0.out; have := hA4.size; omega) (by simp; omega) (by decide)
      have hr5 : ∀ q, blk _ = some q → w1.heap.size ≤ q := fun q hq => ((ho4.below hA4).blk_lt hq).1
      have hS5 := hid ((hS4.next hA4).grown hg5 fun q hq => by have := hr5 q hq; omega)
      have hG5 := hid (((hG3.out.trans hG4).trans (GrG.ofBelow _ hA4)).grown hg5 hr5)
      have ho5' := hid (show Own w5 w1.heap.size 2 v' (ints (z ++ [x])) by simpa [ints] using ho5)
      have hZ5 := hid (hZ.out.snoc hxb.1 hxb.2)
      clear hS4 ho4 hG4 hA4 ho5 hg5 hr5 hx hxb hA' hS3
      go_wp2_with (at_builtin; refine wpList_app hrun rfl _ _ rfl rfl rfl ?_)
      go_roundw
      case rel => exact ⟨k + 1, z ++ [x], by omega, by go_num, by simp; omega, hZ5, ho5'.out, hS5.out.more (by omega), hG5⟩
      case measure => simp [intOf] <;> omega
    · obtain rfl : k = n := by omega
      have hbE := hid (hb1.out.trans ((hG.out.below (by omega)).mono (Nat.le_refl _)))
      have hoE := hid (ho.mono (Nat.le_of_lt hgl))
      clear hS
      go_wp2_with fail
      go_ret
      exact ⟨_, z, rfl, hoE.out, hzl, hZ.out, hbE.out⟩


end Go.Proofs.Ytmeccemnmkobbaa

namespace Go.Proofs.Ytmeccemnmkobbaa
open Go.RowKit
open Pm

theorem lv_wok {n : Nat} {l : List Int} (h : ∀ k ∈ l, Lv n k) : Wok n l := Wok.mk' fun k hk => by
  have := h k hk
  exact ⟨this.1, by have := this.2; omega, by have := this.2; omega⟩
theorem eqBr_yes {n : Nat} {l m : List Int} (hn : n ≤ 12) (hl : l.length ≤ 40) (hm : m.length ≤ 40) (h : Wok n l) (k : Wok n m) (e : nfW n l = nfW n m) : eqBr n l n m = true := by
  unfold eqBr
  rw [okB_mk hn hl h, okB_mk hn hm k]
  simp [e]
theorem codeD_zero {n : Int} {l z : List Int} (h : codeD n l z = 0) : okB n l = true ∧ (z.length : Int) = n ∧ Szs z ∧ sumF z ≤ 12 ∧ (dwI l z).length ≤ 40 := by
  unfold codeD at h
  split at h
  · rename_i h1
    split at h
    · rename_i h2
      split at h
      · rename_i h3
        unfold okD at h1
        rw [Bool.and_eq_true, decide_eq_true_eq] at h1
        exact ⟨h1.1, h1.2, szsB_iff.1 h2, h3.1, h3.2⟩
      · cases h
    · cases h
  · cases h
theorem eq_double {n : Nat} {l m z : List Int} (hR : Rels n l m) (hl : ∀ k ∈ l, Lv n k) (hc : codeD n l z = 0) (hd : codeD n m z = 0) : eqBr (nD n l z) (lD n l z) (nD n m z) (lD n m z) = true := by
  obtain ⟨c1, c2, c3, c4, c5⟩ := codeD_zero hc
  obtain ⟨-, -, -, -, d5⟩ := codeD_zero hd
  have hz : z.length = n := by omega
  have hs := sum_all c3
  rw [nD_yes hc, nD_yes hd, lD_yes hc, lD_yes hd, hs]
  exact eqBr_yes (by omega) c5 d5 (lv_wok (dw_lv l (by rw [length_sz, hz]) hl)) (lv_wok (dw_lv m (by rw [length_sz, hz]) (hR.lv hl))) (rels_dw hR hl hz)
theorem join_double {n : Nat} {n2 : Int} {l l2 z : List Int} (hc : codeD n l z = 0) (he : codeJ n l n2 l2 = 0) (hf : codeD n2 l2 (scat (permB n l) z n) = 0) (hg : codeD (nJ n l n2 l2) (lJ n l n2 l2) z = 0) :
    codeJ (nD n l z) (lD n l z) (nD n2 l2 (scat (permB n l) z n)) (lD n2 l2 (scat (permB n l) z n)) = 0 ∧
    nD (nJ n l n2 l2) (lJ n l n2 l2) z = nJ (nD n l z) (lD n l z) (nD n2 l2 (scat (permB n l) z n)) (lD n2 l2 (scat (permB n l) z n)) ∧
    lD (nJ n l n2 l2) (lJ n l n2 l2) z = lJ (nD n l z) (lD n l z) (nD n2 l2 (scat (permB n l) z n)) (lD n2 l2 (scat (permB n l) z n)) := by
  obtain ⟨c1, c2, c3, c4, c5⟩ := codeD_zero hc
  obtain ⟨f1, f2, f3, f4, f5⟩ := codeD_zero hf
  obtain ⟨g1, g2, g3, g4, g5⟩ := codeD_zero hg
  have hz : z.length = n := by omega
  have hnn : n2 = n := by
    unfold codeJ at he
    split at he
    · split at he
      · rename_i h; exact h.symm
      · cases he
    · cases he
  subst hnn
  have hl := okB_lv c1
  have hl2 := okB_lv f1
  have hlJ : lJ (n : Int) l n l2 = l ++ l2 := by unfold lJ; rw [if_pos he]
  have hP : permB (n : Int) l = wordF n (exchL l) := by unfold permB; rw [if_pos c1, Int.toNat_natCast]
  have hmv := scat_aft hz hl
  rw [hP, hmv] at hf f2 f3 f4 f5 ⊢
  have hma := aft_exch l hz hl
  have hsum : sumF (exch z (exchL l)) = sumF z := by
    rw [sum_all f3, sum_all c3, ← hma, aft_sum l _ (by rw [length_sz, hz]) hl]
  have hdw : dwI (l ++ l2) z = dwI l z ++ dwI l2 (exch z (exchL l)) := by
    unfold dwI
    rw [dw_append, hma]
  rw [hlJ, hdw, List.length_append] at g5
  have o1 := okB_dw (l := l) hz hl c3
  rw [decide_eq_true ⟨c4, c5⟩] at o1
  have o2 := okB_dw (l := l2) (n := n) (by omega) hl2 f3
  rw [decide_eq_true ⟨f4, f5⟩] at o2
  have hcode : codeJ (nD n l z) (lD n l z) (nD n l2 (exch z (exchL l))) (lD n l2 (exch z (exchL l))) = 0 := by
    rw [nD_yes hc, nD_yes hf, lD_yes hc, lD_yes hf]
    unfold codeJ
    rw [o1, o2, if_pos (show (true && true) = true from rfl), if_pos hsum.symm, if_pos (by omega)]
  refine ⟨hcode, ?_, ?_⟩
  · unfold nJ
    rw [if_pos hcode]
    have h1 : nD (if codeJ (n : Int) l n l2 = 0 then (n : Int) else 0) (lJ n l n l2) z = sumF z := nD_yes hg
    rw [h1, nD_yes hc]
  · rw [lD_yes hg, hlJ, hdw]
    unfold lJ
    rw [if_pos hcode, lD_yes hc, lD_yes hf]
theorem permB_rng {n : Nat} {l : List Int} (h : okB (n : Int) l = true) {i : Nat} (hi : i < n) : 0 ≤ nth (permB n l) i ∧ nth (permB n l) i < n := by
  have hl := okB_lv h
  have hE : IsPerm (exch (idn n) (exchL l)) := exch_isPerm _ (by rw [idn_val]; exact (one n).2.2) (by rw [length_idn]; exact exchL_lv hl)
  have hlen : (exch (idn n) (exchL l)).length = n := by simp
  have hP : permB (n : Int) l = wordF n (exchL l) := by unfold permB; rw [if_pos h, Int.toNat_natCast]
  rw [hP]
  unfold wordF
  generalize exch (idn n) (exchL l) = E at *
  have h1 := inv_val (⟨E, hlen, hE⟩ : Pm n)
  rw [show invF E = invF (⟨E, hlen, hE⟩ : Pm n).1 from rfl, h1]
  have h2 := (inv (⟨E, hlen, hE⟩ : Pm n)).nth_at hi
  have h3 := (inv (⟨E, hlen, hE⟩ : Pm n)).lt hi
  omega


set_option maxRecDepth 100000 in
set_option maxHeartbeats 16000000 in
theorem walk_FnDouble (a0 : Value) (cs : List Int) (a1 : Value) (ds : List Int) (W : World) (h0 : Reads W a0 (bytes cs)) (h1 : Reads W a1 (bytes ds)) (hr : ∀ i, i < cs.length → 0 ≤ nth cs i ∧ nth cs i ≤ 255) (hr1 : ∀ i, i < ds.length → 0 ≤ nth ds i ∧ nth ds i ≤ 255) :
    Calls Try.prog 8 #[a0, a1] W fun e w' => e = .returned (.bool true) ∧ Below W.heap.size W w' := by
  have hlen := h0.len (P := Try.prog) 31 3 ⟨_, sliceY⟩
  rw [length_bytes] at hlen
  have hlen1 := h1.len (P := Try.prog) 31 3 ⟨_, sliceY⟩
  rw [length_bytes] at hlen1
  have hb : Below W.heap.size W W := Below.refl _ _
  go_enter Try.func8, Try.ntmps8
  by_cases hl : (1048576 : Int) < cs.length
  · go_wp2_with fail
    go_ret
    exact ⟨rfl, hb⟩
  by_cases hl1 : (1048576 : Int) < ds.length
  · go_wp2_with fail
    go_ret
    exact ⟨rfl, hb⟩
  go_wp2_with fail
  clear hlen hlen1
  refine (e8equal a0 cs W h0 hr (by omega)).mono ?_
  rintro e w1 ⟨n, u, v, l, m, rfl, hn, hu, hv, hWl, hlm, hRl, hs⟩
  replace h0 := h0.below hs
  replace h1 := h1.below hs
  replace hb := hb.trans (hs.mono hb.size)
  clear hs
  replace hu := hu.reads
  replace hv := hv.reads
  obtain ⟨ua, un, uc, rfl⟩ := hu.lit
  obtain ⟨va, vn, vc, rfl⟩ := hv.lit
  have hL := hid (lv_of hWl.2)
  have hll := hWl.1
  replace hRl := hid hRl
  clear hWl
  replace h0 := h0.alloc (.cells #[.int .i64 n, .slice ua un uc] 35)
  replace h1 := h1.alloc (.cells #[.int .i64 n, .slice ua un uc] 35)
  replace hu := hu.alloc (.cells #[.int .i64 n, .slice ua un uc] 35)
  replace hv := hv.alloc (.cells #[.int .i64 n, .slice ua un uc] 35)
  have hA := Bx.new w1 #[.int .i64 n, .slice ua un uc] 35
  replace hb := hb.alloc hb.size (.cells #[.int .i64 n, .slice ua un uc] 35)
  replace h0 := h0.alloc (.cells #[.int .i64 n, .slice va vn vc] 35)
  replace h1 := h1.alloc (.cells #[.int .i64 n, .slice va vn vc] 35)
  replace hu := hu.alloc (.cells #[.int .i64 n, .slice va vn vc] 35)
  replace hv := hv.alloc (.cells #[.int .i64 n, .slice va vn vc] 35)
  replace hA := hA.alloc (.cells #[.int .i64 n, .slice va vn vc] 35)
  have hB := Bx.new (w1.alloc (.cells #[.int .i64 n, .slice ua un uc] 35)) #[.int .i64 n, .slice va vn vc] 35
  simp only [World.size_alloc] at hB
  replace hb := hb.alloc hb.size (.cells #[.int .i64 n, .slice va vn vc] 35)
  have c_a0 := hA.cell 0 rfl
  have c_a1 := hA.cell 1 rfl
  have c_b0 := hB.cell 0 rfl
  have c_b1 := hB.cell 1 rfl
  go_wp2_with fail
  clear c_a0 c_a1 c_b0 c_b1
  generalize ((w1.alloc (.cells #[.int .i64 n, .slice ua un uc] 35)).alloc (.cells #[.int .i64 n, .slice va vn vc] 35)) = w2 at *
  refine (e8sizes a1 ds n _ h1 hr1 (by omega) hn).mono ?_
  rintro e w3 ⟨t, z, rfl, hz, hzl, hZ, hs⟩
  replace h0 := h0.below hs
  replace h1 := h1.below hs
  replace hu := hu.below hs
  replace hv := hv.below hs
  replace hA := hA.below hs
  replace hB := hB.below hs
  replace hb := hb.trans (hs.mono hb.size)
  clear hs
  replace hz := hz.reads
  replace hZ := hid hZ
  have c_a0 := hA.cell 0 rfl
  have c_a1 := hA.cell 1 rfl
  have c_b0 := hB.cell 0 rfl
  have c_b1 := hB.cell 1 rfl
  go_wp2_with fail
  clear c_a0 c_a1 c_b0 c_b1
  refine (DoubleI n _ l _ z _ hu hz).mono ?_
  rintro e w4 ⟨x, rfl, hx, hs⟩
  replace h0 := h0.below hs
  replace h1 := h1.below hs
  replace hu := hu.below hs
  replace hv := hv.below hs
  replace hz := hz.below hs
  replace hA := hA.below hs
  replace hB := hB.below hs
  replace hb := hb.trans (hs.mono hb.size)
  clear hs
  replace hx := hx.reads
  obtain ⟨xa, xn, xc, rfl⟩ := hx.lit
  obtain ⟨c, hc⟩ : ∃ c, codeD n l z = c := ⟨_, rfl⟩
  obtain ⟨N, hN⟩ : ∃ N, nD n l z = N := ⟨_, rfl⟩
  obtain ⟨L, hLe⟩ : ∃ L, lD n l z = L := ⟨_, rfl⟩
  rw [hc, hN]
  rw [hLe] at hx
  replace hc := hid hc
  replace hN := hid hN
  replace hLe := hid hLe
  replace h0 := h0.alloc (.cells #[.int .i64 N, .slice xa xn xc] 35)
  replace h1 := h1.alloc (.cells #[.int .i64 N, .slice xa xn xc] 35)
  replace hu := hu.alloc (.cells #[.int .i64 N, .slice xa xn xc] 35)
  replace hv := hv.alloc (.cells #[.int .i64 N, .slice xa xn xc] 35)
  replace hz := hz.alloc (.cells #[.int .i64 N, .slice xa xn xc] 35)
  replace hx := hx.alloc (.cells #[.int .i64 N, .slice xa xn xc] 35)
  replace hA := hA.alloc (.cells #[.int .i64 N, .slice xa xn xc] 35)
  replace hB := hB.alloc (.cells #[.int .i64 N, .slice xa xn xc] 35)
  have hX := Bx.new w4 #[.int .i64 N, .slice xa xn xc] 35
  replace hb := hb.alloc hb.size (.cells #[.int .i64 N, .slice xa xn xc] 35)
  have c_a0 := hA.cell 0 rfl
  have c_a1 := hA.cell 1 rfl
  have c_b0 := hB.cell 0 rfl
  have c_b1 := hB.cell 1 rfl
  have c_x0 := hX.cell 0 rfl
  have c_x1 := hX.cell 1 rfl
  go_wp2_with fail
  clear c_a0 c_a1 c_b0 c_b1 c_x0 c_x1
  generalize (w4.alloc (.cells #[.int .i64 N, .slice xa xn xc] 35)) = w5 at *
  refine (DoubleI n _ m _ z _ hv hz).mono ?_
  rintro e w6 ⟨y, rfl, hy, hs⟩
  replace h0 := h0.below hs
  replace h1 := h1.below hs
  replace hu := hu.below hs
  replace hv := hv.below hs
  replace hz := hz.below hs
  replace hx := hx.below hs
  replace hA := hA.below hs
  replace hB := hB.below hs
  replace hX := hX.below hs
  replace hb := hb.trans (hs.mono hb.size)
  clear hs
  replace hy := hy.reads
  obtain ⟨ya, yn, yc, rfl⟩ := hy.lit
  obtain ⟨d, hd⟩ : ∃ d, codeD n m z = d := ⟨_, rfl⟩
  obtain ⟨M, hM⟩ : ∃ M, nD n m z = M := ⟨_, rfl⟩
  obtain ⟨K, hKe⟩ : ∃ K, lD n m z = K := ⟨_, rfl⟩
  rw [hd, hM]
  rw [hKe] at hy
  replace hd := hid hd
  replace hM := hid hM
  replace hKe := hid hKe
  replace h0 := h0.alloc (.cells #[.int .i64 M, .slice ya yn yc] 35)
  replace h1 := h1.alloc (.cells #[.int .i64 M, .slice ya yn yc] 35)
  replace hu := hu.alloc (.cells #[.int .i64 M, .slice ya yn yc] 35)
  replace hv := hv.alloc (.cells #[.int .i64 M, .slice ya yn yc] 35)
  replace hz := hz.alloc (.cells #[.int .i64 M, .slice ya yn yc] 35)
  replace hx := hx.alloc (.cells #[.int .i64 M, .slice ya yn yc] 35)
  replace hy := hy.alloc (.cells #[.int .i64 M, .slice ya yn yc] 35)
  replace hA := hA.alloc (.cells #[.int .i64 M, .slice ya yn yc] 35)
  replace hB := hB.alloc (.cells #[.int .i64 M, .slice ya yn yc] 35)
  replace hX := hX.alloc (.cells #[.int .i64 M, .slice ya yn yc] 35)
  have hY := Bx.new w6 #[.int .i64 M, .slice ya yn yc] 35
  replace hb := hb.alloc hb.size (.cells #[.int .i64 M, .slice ya yn yc] 35)
  have c_a0 := hA.cell 0 rfl
  have c_a1 := hA.cell 1 rfl
  have c_b0 := hB.cell 0 rfl
  have c_b1 := hB.cell 1 rfl
  have c_x0 := hX.cell 0 rfl
  have c_x1 := hX.cell 1 rfl
  have c_y0 := hY.cell 0 rfl
  have c_y1 := hY.cell 1 rfl
  have hcc : (c == c) = true := by simp
  by_cases hc0 : c = 0
  case neg =>
    have hc1 : (c == 0) = false := by simpa using hc0
    have hc2 : (c != 0) = true := by simpa using hc0
    clear hc0
    go_wp2_with fail
    clear c_a0 c_a1 c_b0 c_b1 c_x0 c_x1 c_y0 c_y1
    generalize (w6.alloc (.cells #[.int .i64 M, .slice ya yn yc] 35)) = w7 at *
    refine (DoubleS n _ l _ z _ hu hz).mono ?_
    rintro e w8 ⟨q, rfl, hq, hs⟩
    replace h0 := h0.below hs
    replace h1 := h1.below hs
    replace hu := hu.below hs
    replace hv := hv.below hs
    replace hz := hz.below hs
    replace hx := hx.below hs
    replace hy := hy.below hs
    replace hA := hA.below hs
    replace hB := hB.below hs
    replace hX := hX.below hs
    replace hY := hY.below hs
    replace hb := hb.trans (hs.mono hb.size)
    clear hs
    rw [hc.out, hN.out]
    obtain ⟨qa, qn, qc, rfl⟩ := hq.reads.lit
    clear hq
    replace h0 := h0.alloc (.cells #[.int .i64 N, .slice qa qn qc] 35)
    replace h1 := h1.alloc (.cells #[.int .i64 N, .slice qa qn qc] 35)
    replace hu := hu.alloc (.cells #[.int .i64 N, .slice qa qn qc] 35)
    replace hv := hv.alloc (.cells #[.int .i64 N, .slice qa qn qc] 35)
    replace hz := hz.alloc (.cells #[.int .i64 N, .slice qa qn qc] 35)
    replace hx := hx.alloc (.cells #[.int .i64 N, .slice qa qn qc] 35)
    replace hy := hy.alloc (.cells #[.int .i64 N, .slice qa qn qc] 35)
    replace hA := hA.alloc (.cells #[.int .i64 N, .slice qa qn qc] 35)
    replace hB := hB.alloc (.cells #[.int .i64 N, .slice qa qn qc] 35)
    replace hX := hX.alloc (.cells #[.int .i64 N, .slice qa qn qc] 35)
    replace hY := hY.alloc (.cells #[.int .i64 N, .slice qa qn qc] 35)
    have hQ := Bx.new w8 #[.int .i64 N, .slice qa qn qc] 35
    replace hb := hb.alloc hb.size (.cells #[.int .i64 N, .slice qa qn qc] 35)
    have c_a0 := hA.cell 0 rfl
    have c_a1 := hA.cell 1 rfl
    have c_b0 := hB.cell 0 rfl
    have c_b1 := hB.cell 1 rfl
    have c_x0 := hX.cell 0 rfl
    have c_x1 := hX.cell 1 rfl
    have c_y0 := hY.cell 0 rfl
    have c_y1 := hY.cell 1 rfl
    have c_q0 := hQ.cell 0 rfl
    have c_q1 := hQ.cell 1 rfl
    go_wp2_with fail
    go_ret
    exact ⟨rfl, hb⟩
  case pos =>
  subst hc0
  by_cases hd0 : d = 0
  case pos =>
    subst hd0
    go_wp2_with fail
    clear c_a0 c_a1 c_b0 c_b1 c_x0 c_x1 c_y0 c_y1
    generalize (w6.alloc (.cells #[.int .i64 M, .slice ya yn yc] 35)) = w7 at *
    have hEq := hid (eq_double hRl.out hL.out hc.out hd.out)
    refine (veq_impl N _ L M _ K _ hx hy).mono ?_
    rintro e w8 ⟨rfl, hs⟩
    replace h0 := h0.below hs
    replace h1 := h1.below hs
    replace hu := hu.below hs
    replace hv := hv.below hs
    replace hz := hz.below hs
    replace hx := hx.below hs
    replace hy := hy.below hs
    replace hA := hA.below hs
    replace hB := hB.below hs
    replace hX := hX.below hs
    replace hY := hY.below hs
    replace hb := hb.trans (hs.mono hb.size)
    clear hs
    rw [show eqBr N L M K = true by rw [← hN.out, ← hLe.out, ← hM.out, ← hKe.out]; exact hEq.out]
    have c_a0 := hA.cell 0 rfl
    have c_a1 := hA.cell 1 rfl
    have c_b0 := hB.cell 0 rfl
    have c_b1 := hB.cell 1 rfl
    have c_x0 := hX.cell 0 rfl
    have c_x1 := hX.cell 1 rfl
    have c_y0 := hY.cell 0 rfl
    have c_y1 := hY.cell 1 rfl
    go_wp2_with fail
    clear c_a0 c_a1 c_b0 c_b1 c_x0 c_x1 c_y0 c_y1
    refine (bp_spec n _ l _ hu).mono ?_
    rintro e w9 ⟨P, rfl, hP, hs⟩
    replace h0 := h0.below hs
    replace h1 := h1.below hs
    replace hu := hu.below hs
    replace hv := hv.below hs
    replace hz := hz.below hs
    replace hx := hx.below hs
    replace hy := hy.below hs
    replace hA := hA.below hs
    replace hB := hB.below hs
    replace hX := hX.below hs
    replace hY := hY.below hs
    replace hb := hb.trans (hs.mono hb.size)
    clear hs
    replace hP := hP.reads
    have hPl : (permB n l).length = n := by unfold permB; rw [if_pos (codeD_zero hc.out).1]; simp
    have hlz := hz.len (P := Try.prog) 32 3 ⟨_, sliceI⟩
    rw [length_ints, hzl] at hlz
    have hmk := make_run sliceI infoI rfl (P := Try.prog) n (by omega) (by omega) (by omega)
    simp only [Int.toNat_natCast] at hmk
    have hPr := hid (show ∀ i, i < n → 0 ≤ nth (permB n l) i ∧ nth (permB n l) i < n from fun i hi => permB_rng (codeD_zero hc.out).1 hi)
    have c_a0 := hA.cell 0 rfl
    have c_a1 := hA.cell 1 rfl
    have c_b0 := hB.cell 0 rfl
    have c_b1 := hB.cell 1 rfl
    have c_x0 := hX.cell 0 rfl
    have c_x1 := hX.cell 1 rfl
    have c_y0 := hY.cell 0 rfl
    have c_y1 := hY.cell 1 rfl
    go_wp2_with fail
    clear c_a0 c_a1 c_b0 c_b1 c_x0 c_x1 c_y0 c_y1
    go_loopw [16] (fun i wr => ∃ k : Nat, k ≤ n ∧ i = .int .i64 k ∧ Own wr w9.heap.size 2 (madeV w9 n) (ints (scat (permB n l) z k)) ∧ Below w9.heap.size w9 wr) (fun i _ => n - (intOf i).toNat)
    case atStart =>
      refine ⟨0, by omega, rfl, ?_, below_made _ _ _ _⟩
      have := own_made w9 2 n (.int .i64 0) (by omega) (Nat.le_refl _)
      rw [scat, hPl]
      simpa [ints] using this
    case round =>
    obtain ⟨k, hk, rfl, hown, hbr⟩ := hrel
    by_cases hlt : k < n
    case pos =>
      obtain ⟨r0, r1⟩ := hPr.out k hlt
      have hi := hP.idx (P := Try.prog) 32 sliceI sizeI .i64 (k : Int) (by omega) (by rw [length_ints, hPl]; omega)
      have hi2 := hz.idx (P := Try.prog) 32 sliceI sizeI .i64 (k : Int) (by omega) (by rw [length_ints, hzl]; omega)
      simp only [Int.toNat_natCast] at hi hi2
      have hc1 := (hP.below hbr).int (i := k) (by omega)
      have hc2 := (hz.below hbr).int (i := k) (by omega)
      have hi3 := hown.reads.idx (P := Try.prog) 32 sliceI sizeI .i64 (nth (permB n l) k) r0 (by rw [length_ints, length_scat]; omega)
      have hd3 := hown.reads.cell (nth (permB n l) k).toNat _ (ints_at (by rw [length_scat]; omega))
      have hf := hown.frozen (i := (nth (permB n l) k).toNat) (by rw [length_ints, length_scat]; omega)
      have hab := hid (hown.adr_blk (i := (nth (permB n l) k).toNat) (by rw [length_ints, length_scat]; omega)).2.1
      have hst := (hown.set (i := (nth (permB n l) k).toNat) (by rw [length_ints, length_scat]; omega) (.int .i64 (nth z k))).drew
      rw [ints_set] at hst
      have hst2 := hid (show Own _ _ _ _ (ints (scat (permB n l) z (k + 1))) from hst)
      have hbr2 := hid (hbr.setCell hab.out (.int .i64 (nth z k))).drew
      clear hst hown hbr
      generalize nth (permB n l) k = pk at *
      go_wp2_with fail
      go_region
      go_wp2_with fail
      go_roundw
      case rel => exact ⟨k + 1, by omega, by go_num, hst2.out, hbr2.out⟩
      case measure => simp [intOf] <;> omega
    case neg =>
    obtain rfl : n = k := by omega
    replace hown := hown.reads
    replace h0 := h0.below hbr
    replace h1 := h1.below hbr
    replace hu := hu.below hbr
    replace hv := hv.below hbr
    replace hz := hz.below hbr
    replace hx := hx.below hbr
    replace hy := hy.below hbr
    replace hP := hP.below hbr
    replace hA := hA.below hbr
    replace hB := hB.below hbr
    replace hX := hX.below hbr
    replace hY := hY.below hbr
    replace hb := hb.trans (hbr.mono hb.size)
    clear hbr
    clear hmk hPr
    obtain ⟨mv, hmv⟩ : ∃ mv, scat (permB n l) z n = mv := ⟨_, rfl⟩
    rw [hmv] at hown
    generalize madeV w9 n = ov at *
    go_wp2_with fail
    clear hlt hlz hk
    refine (e8braids a0 cs _ h0 hr (by omega)).mono ?_
    rintro e w10 ⟨n2, p2, q2, lp, l2, rfl, hn2, hp2, hq2, -, hWq, hs⟩
    replace h0 := h0.below hs
    replace h1 := h1.below hs
    replace hu := hu.below hs
    replace hv := hv.below hs
    replace hz := hz.below hs
    replace hx := hx.below hs
    replace hy := hy.below hs
    replace hP := hP.below hs
    replace hown := hown.below hs
    replace hA := hA.below hs
    replace hB := hB.below hs
    replace hX := hX.below hs
    replace hY := hY.below hs
    replace hb := hb.trans (hs.mono hb.size)
    clear hs
    replace hp2 := hp2.reads
    replace hq2 := hq2.reads
    obtain ⟨pa, pn, pc, rfl⟩ := hp2.lit
    obtain ⟨qa, qn, qc, rfl⟩ := hq2.lit
    clear hWq
    replace h0 := h0.alloc (.cells #[.int .i64 n2, .slice pa pn pc] 35)
    replace h1 := h1.alloc (.cells #[.int .i64 n2, .slice pa pn pc] 35)
    replace hu := hu.alloc (.cells #[.int .i64 n2, .slice pa pn pc] 35)
    replace hv := hv.alloc (.cells #[.int .i64 n2, .slice pa pn pc] 35)
    replace hz := hz.alloc (.cells #[.int .i64 n2, .slice pa pn pc] 35)
    replace hx := hx.alloc (.cells #[.int .i64 n2, .slice pa pn pc] 35)
    replace hy := hy.alloc (.cells #[.int .i64 n2, .slice pa pn pc] 35)
    replace hP := hP.alloc (.cells #[.int .i64 n2, .slice pa pn pc] 35)
    replace hown := hown.alloc (.cells #[.int .i64 n2, .slice pa pn pc] 35)
    replace hp2 := hp2.alloc (.cells #[.int .i64 n2, .slice pa pn pc] 35)
    replace hq2 := hq2.alloc (.cells #[.int .i64 n2, .slice pa pn pc] 35)
    replace hA := hA.alloc (.cells #[.int .i64 n2, .slice pa pn pc] 35)
    replace hB := hB.alloc (.cells #[.int .i64 n2, .slice pa pn pc] 35)
    replace hX := hX.alloc (.cells #[.int .i64 n2, .slice pa pn pc] 35)
    replace hY := hY.alloc (.cells #[.int .i64 n2, .slice pa pn pc] 35)
    have hP2 := Bx.new w10 #[.int .i64 n2, .slice pa pn pc] 35
    replace hb := hb.alloc hb.size (.cells #[.int .i64 n2, .slice pa pn pc] 35)
    replace h0 := h0.alloc (.cells #[.int .i64 n2, .slice qa qn qc] 35)
    replace h1 := h1.alloc (.cells #[.int .i64 n2, .slice qa qn qc] 35)
    replace hu := hu.alloc (.cells #[.int .i64 n2, .slice qa qn qc] 35)
    replace hv := hv.alloc (.cells #[.int .i64 n2, .slice qa qn qc] 35)
    replace hz := hz.alloc (.cells #[.int .i64 n2, .slice qa qn qc] 35)
    replace hx := hx.alloc (.cells #[.int .i64 n2, .slice qa qn qc] 35)
    replace hy := hy.alloc (.cells #[.int .i64 n2, .slice qa qn qc] 35)
    replace hP := hP.alloc (.cells #[.int .i64 n2, .slice qa qn qc] 35)
    replace hown := hown.alloc (.cells #[.int .i64 n2, .slice qa qn qc] 35)
    replace hp2 := hp2.alloc (.cells #[.int .i64 n2, .slice qa qn qc] 35)
    replace hq2 := hq2.alloc (.cells #[.int .i64 n2, .slice qa qn qc] 35)
    replace hA := hA.alloc (.cells #[.int .i64 n2, .slice qa qn qc] 35)
    replace hB := hB.alloc (.cells #[.int .i64 n2, .slice qa qn qc] 35)
    replace hX := hX.alloc (.cells #[.int .i64 n2, .slice qa qn qc] 35)
    replace hY := hY.alloc (.cells #[.int .i64 n2, .slice qa qn qc] 35)
    replace hP2 := hP2.alloc (.cells #[.int .i64 n2, .slice qa qn qc] 35)
    have hQ2 := Bx.new (w10.alloc (.cells #[.int .i64 n2, .slice pa pn pc] 35)) #[.int .i64 n2, .slice qa qn qc] 35
    simp only [World.size_alloc] at hQ2
    replace hb := hb.alloc hb.size (.cells #[.int .i64 n2, .slice qa qn qc] 35)
    have c_a0 := hA.cell 0 rfl
    have c_a1 := hA.cell 1 rfl
    have c_b0 := hB.cell 0 rfl
    have c_b1 := hB.cell 1 rfl
    have c_x0 := hX.cell 0 rfl
    have c_x1 := hX.cell 1 rfl
    have c_y0 := hY.cell 0 rfl
    have c_y1 := hY.cell 1 rfl
    have c_p20 := hP2.cell 0 rfl
    have c_p21 := hP2.cell 1 rfl
    have c_q20 := hQ2.cell 0 rfl
    have c_q21 := hQ2.cell 1 rfl
    go_wp2_with fail
    clear c_a0 c_a1 c_b0 c_b1 c_x0 c_x1 c_y0 c_y1 c_p20 c_p21 c_q20 c_q21
    generalize ((w10.alloc (.cells #[.int .i64 n2, .slice pa pn pc] 35)).alloc (.cells #[.int .i64 n2, .slice qa qn qc] 35)) = w11 at *
    refine (vjoin_spec n _ l n2 _ l2 _ hu hq2).mono ?_
    rintro e w12 ⟨j, rfl, hj, hs⟩
    replace h0 := h0.below hs
    replace h1 := h1.below hs
    replace hu := hu.below hs
    replace hv := hv.below hs
    replace hz := hz.below hs
    replace hx := hx.below hs
    replace hy := hy.below hs
    replace hP := hP.below hs
    replace hown := hown.below hs
    replace hp2 := hp2.below hs
    replace hq2 := hq2.below hs
    replace hA := hA.below hs
    replace hB := hB.below hs
    replace hX := hX.below hs
    replace hY := hY.below hs
    replace hP2 := hP2.below hs
    replace hQ2 := hQ2.below hs
    replace hb := hb.trans (hs.mono hb.size)
    clear hs
    replace hj := hj.reads
    obtain ⟨ja, jn, jc, rfl⟩ := hj.lit
    obtain ⟨e5, he5⟩ : ∃ e5, codeJ n l n2 l2 = e5 := ⟨_, rfl⟩
    obtain ⟨N3, hN3⟩ : ∃ N3, nJ n l n2 l2 = N3 := ⟨_, rfl⟩
    obtain ⟨L3, hL3⟩ : ∃ L3, lJ n l n2 l2 = L3 := ⟨_, rfl⟩
    rw [he5, hN3]
    rw [hL3] at hj
    replace he5 := hid he5
    replace hN3 := hid hN3
    replace hL3 := hid hL3
    replace h0 := h0.alloc (.cells #[.int .i64 N3, .slice ja jn jc] 35)
    replace h1 := h1.alloc (.cells #[.int .i64 N3, .slice ja jn jc] 35)
    replace hu := hu.alloc (.cells #[.int .i64 N3, .slice ja jn jc] 35)
    replace hv := hv.alloc (.cells #[.int .i64 N3, .slice ja jn jc] 35)
    replace hz := hz.alloc (.cells #[.int .i64 N3, .slice ja jn jc] 35)
    replace hx := hx.alloc (.cells #[.int .i64 N3, .slice ja jn jc] 35)
    replace hy := hy.alloc (.cells #[.int .i64 N3, .slice ja jn jc] 35)
    replace hP := hP.alloc (.cells #[.int .i64 N3, .slice ja jn jc] 35)
    replace hown := hown.alloc (.cells #[.int .i64 N3, .slice ja jn jc] 35)
    replace hp2 := hp2.alloc (.cells #[.int .i64 N3, .slice ja jn jc] 35)
    replace hq2 := hq2.alloc (.cells #[.int .i64 N3, .slice ja jn jc] 35)
    replace hj := hj.alloc (.cells #[.int .i64 N3, .slice ja jn jc] 35)
    replace hA := hA.alloc (.cells #[.int .i64 N3, .slice ja jn jc] 35)
    replace hB := hB.alloc (.cells #[.int .i64 N3, .slice ja jn jc] 35)
    replace hX := hX.alloc (.cells #[.int .i64 N3, .slice ja jn jc] 35)
    replace hY := hY.alloc (.cells #[.int .i64 N3, .slice ja jn jc] 35)
    replace hP2 := hP2.alloc (.cells #[.int .i64 N3, .slice ja jn jc] 35)
    replace hQ2 := hQ2.alloc (.cells #[.int .i64 N3, .slice ja jn jc] 35)
    have hJ := Bx.new w12 #[.int .i64 N3, .slice ja jn jc] 35
    replace hb := hb.alloc hb.size (.cells #[.int .i64 N3, .slice ja jn jc] 35)
    have c_a0 := hA.cell 0 rfl
    have c_a1 := hA.cell 1 rfl
    have c_b0 := hB.cell 0 rfl
    have c_b1 := hB.cell 1 rfl
    have c_x0 := hX.cell 0 rfl
    have c_x1 := hX.cell 1 rfl
    have c_y0 := hY.cell 0 rfl
    have c_y1 := hY.cell 1 rfl
    have c_p20 := hP2.cell 0 rfl
    have c_p21 := hP2.cell 1 rfl
    have c_q20 := hQ2.cell 0 rfl
    have c_q21 := hQ2.cell 1 rfl
    have c_j0 := hJ.cell 0 rfl
    have c_j1 := hJ.cell 1 rfl
    go_wp2_with fail
    clear c_a0 c_a1 c_b0 c_b1 c_x0 c_x1 c_y0 c_y1 c_p20 c_p21 c_q20 c_q21 c_j0 c_j1
    generalize (w12.alloc (.cells #[.int .i64 N3, .slice ja jn jc] 35)) = w13 at *
    refine (DoubleI n2 _ l2 _ mv _ hq2 hown).mono ?_
    rintro e w14 ⟨g, rfl, hg, hs⟩
    replace h0 := h0.below hs
    replace h1 := h1.below hs
    replace hu := hu.below hs
    replace hv := hv.below hs
    replace hz := hz.below hs
    replace hx := hx.below hs
    replace hy := hy.below hs
    replace hP := hP.below hs
    replace hown := hown.below hs
    replace hp2 := hp2.below hs
    replace hq2 := hq2.below hs
    replace hj := hj.below hs
    replace hA := hA.below hs
    replace hB := hB.below hs
    replace hX := hX.below hs
    replace hY := hY.below hs
    replace hP2 := hP2.below hs
    replace hQ2 := hQ2.below hs
    replace hJ := hJ.below hs
    replace hb := hb.trans (hs.mono hb.size)
    clear hs
    replace hg := hg.reads
    obtain ⟨ga, gn, gc, rfl⟩ := hg.lit
    obtain ⟨f5, hf5⟩ : ∃ f5, codeD n2 l2 mv = f5 := ⟨_, rfl⟩
    obtain ⟨N4, hN4⟩ : ∃ N4, nD n2 l2 mv = N4 := ⟨_, rfl⟩
    obtain ⟨L4, hL4⟩ : ∃ L4, lD n2 l2 mv = L4 := ⟨_, rfl⟩
    rw [hf5, hN4]
    rw [hL4] at hg
    replace hf5 := hid hf5
    replace hN4 := hid hN4
    replace hL4 := hid hL4
    replace h0 := h0.alloc (.cells #[.int .i64 N4, .slice ga gn gc] 35)
    replace h1 := h1.alloc (.cells #[.int .i64 N4, .slice ga gn gc] 35)
    replace hu := hu.alloc (.cells #[.int .i64 N4, .slice ga gn gc] 35)
    replace hv := hv.alloc (.cells #[.int .i64 N4, .slice ga gn gc] 35)
    replace hz := hz.alloc (.cells #[.int .i64 N4, .slice ga gn gc] 35)
    replace hx := hx.alloc (.cells #[.int .i64 N4, .slice ga gn gc] 35)
    replace hy := hy.alloc (.cells #[.int .i64 N4, .slice ga gn gc] 35)
    replace hP := hP.alloc (.cells #[.int .i64 N4, .slice ga gn gc] 35)
    replace hown := hown.alloc (.cells #[.int .i64 N4, .slice ga gn gc] 35)
    replace hp2 := hp2.alloc (.cells #[.int .i64 N4, .slice ga gn gc] 35)
    replace hq2 := hq2.alloc (.cells #[.int .i64 N4, .slice ga gn gc] 35)
    replace hj := hj.alloc (.cells #[.int .i64 N4, .slice ga gn gc] 35)
    replace hg := hg.alloc (.cells #[.int .i64 N4, .slice ga gn gc] 35)
    replace hA := hA.alloc (.cells #[.int .i64 N4, .slice ga gn gc] 35)
    replace hB := hB.alloc (.cells #[.int .i64 N4, .slice ga gn gc] 35)
    replace hX := hX.alloc (.cells #[.int .i64 N4, .slice ga gn gc] 35)
    replace hY := hY.alloc (.cells #[.int .i64 N4, .slice ga gn gc] 35)
    replace hP2 := hP2.alloc (.cells #[.int .i64 N4, .slice ga gn gc] 35)
    replace hQ2 := hQ2.alloc (.cells #[.int .i64 N4, .slice ga gn gc] 35)
    replace hJ := hJ.alloc (.cells #[.int .i64 N4, .slice ga gn gc] 35)
    have hG := Bx.new w14 #[.int .i64 N4, .slice ga gn gc] 35
    replace hb := hb.alloc hb.size (.cells #[.int .i64 N4, .slice ga gn gc] 35)
    have c_a0 := hA.cell 0 rfl
    have c_a1 := hA.cell 1 rfl
    have c_b0 := hB.cell 0 rfl
    have c_b1 := hB.cell 1 rfl
    have c_x0 := hX.cell 0 rfl
    have c_x1 := hX.cell 1 rfl
    have c_y0 := hY.cell 0 rfl
    have c_y1 := hY.cell 1 rfl
    have c_p20 := hP2.cell 0 rfl
    have c_p21 := hP2.cell 1 rfl
    have c_q20 := hQ2.cell 0 rfl
    have c_q21 := hQ2.cell 1 rfl
    have c_j0 := hJ.cell 0 rfl
    have c_j1 := hJ.cell 1 rfl
    have c_g0 := hG.cell 0 rfl
    have c_g1 := hG.cell 1 rfl
    go_wp2_with fail
    clear c_a0 c_a1 c_b0 c_b1 c_x0 c_x1 c_y0 c_y1 c_p20 c_p21 c_q20 c_q21 c_j0 c_j1 c_g0 c_g1
    generalize (w14.alloc (.cells #[.int .i64 N4, .slice ga gn gc] 35)) = w15 at *
    refine (DoubleI N3 _ L3 _ z _ hj hz).mono ?_
    rintro e w16 ⟨i, rfl, hi, hs⟩
    replace h0 := h0.below hs
    replace h1 := h1.below hs
    replace hu := hu.below hs
    replace hv := hv.below hs
    replace hz := hz.below hs
    replace hx := hx.below hs
    replace hy := hy.below hs
    replace hP := hP.below hs
    replace hown := hown.below hs
    replace hp2 := hp2.below hs
    replace hq2 := hq2.below hs
    replace hj := hj.below hs
    replace hg := hg.below hs
    replace hA := hA.below hs
    replace hB := hB.below hs
    replace hX := hX.below hs
    replace hY := hY.below hs
    replace hP2 := hP2.below hs
    replace hQ2 := hQ2.below hs
    replace hJ := hJ.below hs
    replace hG := hG.below hs
    replace hb := hb.trans (hs.mono hb.size)
    clear hs
    replace hi := hi.reads
    obtain ⟨ia, iN, ic, rfl⟩ := hi.lit
    obtain ⟨g5, hg5⟩ : ∃ g5, codeD N3 L3 z = g5 := ⟨_, rfl⟩
    obtain ⟨N5, hN5⟩ : ∃ N5, nD N3 L3 z = N5 := ⟨_, rfl⟩
    obtain ⟨L5, hL5⟩ : ∃ L5, lD N3 L3 z = L5 := ⟨_, rfl⟩
    rw [hg5, hN5]
    rw [hL5] at hi
    replace hg5 := hid hg5
    replace hN5 := hid hN5
    replace hL5 := hid hL5
    replace h0 := h0.alloc (.cells #[.int .i64 N5, .slice ia iN ic] 35)
    replace h1 := h1.alloc (.cells #[.int .i64 N5, .slice ia iN ic] 35)
    replace hu := hu.alloc (.cells #[.int .i64 N5, .slice ia iN ic] 35)
    replace hv := hv.alloc (.cells #[.int .i64 N5, .slice ia iN ic] 35)
    replace hz := hz.alloc (.cells #[.int .i64 N5, .slice ia iN ic] 35)
    replace hx := hx.alloc (.cells #[.int .i64 N5, .slice ia iN ic] 35)
    replace hy := hy.alloc (.cells #[.int .i64 N5, .slice ia iN ic] 35)
    replace hP := hP.alloc (.cells #[.int .i64 N5, .slice ia iN ic] 35)
    replace hown := hown.alloc (.cells #[.int .i64 N5, .slice ia iN ic] 35)
    replace hp2 := hp2.alloc (.cells #[.int .i64 N5, .slice ia iN ic] 35)
    replace hq2 := hq2.alloc (.cells #[.int .i64 N5, .slice ia iN ic] 35)
    replace hj := hj.alloc (.cells #[.int .i64 N5, .slice ia iN ic] 35)
    replace hg := hg.alloc (.cells #[.int .i64 N5, .slice ia iN ic] 35)
    replace hi := hi.alloc (.cells #[.int .i64 N5, .slice ia iN ic] 35)
    replace hA := hA.alloc (.cells #[.int .i64 N5, .slice ia iN ic] 35)
    replace hB := hB.alloc (.cells #[.int .i64 N5, .slice ia iN ic] 35)
    replace hX := hX.alloc (.cells #[.int .i64 N5, .slice ia iN ic] 35)
    replace hY := hY.alloc (.cells #[.int .i64 N5, .slice ia iN ic] 35)
    replace hP2 := hP2.alloc (.cells #[.int .i64 N5, .slice ia iN ic] 35)
    replace hQ2 := hQ2.alloc (.cells #[.int .i64 N5, .slice ia iN ic] 35)
    replace hJ := hJ.alloc (.cells #[.int .i64 N5, .slice ia iN ic] 35)
    replace hG := hG.alloc (.cells #[.int .i64 N5, .slice ia iN ic] 35)
    have hI := Bx.new w16 #[.int .i64 N5, .slice ia iN ic] 35
    replace hb := hb.alloc hb.size (.cells #[.int .i64 N5, .slice ia iN ic] 35)
    have c_a0 := hA.cell 0 rfl
    have c_a1 := hA.cell 1 rfl
    have c_b0 := hB.cell 0 rfl
    have c_b1 := hB.cell 1 rfl
    have c_x0 := hX.cell 0 rfl
    have c_x1 := hX.cell 1 rfl
    have c_y0 := hY.cell 0 rfl
    have c_y1 := hY.cell 1 rfl
    have c_p20 := hP2.cell 0 rfl
    have c_p21 := hP2.cell 1 rfl
    have c_q20 := hQ2.cell 0 rfl
    have c_q21 := hQ2.cell 1 rfl
    have c_j0 := hJ.cell 0 rfl
    have c_j1 := hJ.cell 1 rfl
    have c_g0 := hG.cell 0 rfl
    have c_g1 := hG.cell 1 rfl
    have c_i0 := hI.cell 0 rfl
    have c_i1 := hI.cell 1 rfl
    by_cases ke : e5 = 0
    case neg =>
      have k1 : (e5 != 0) = true := by simpa using ke
      clear ke
      go_wp2_with fail
      go_ret
      exact ⟨rfl, hb⟩
    case pos =>
    subst ke
    by_cases kf : f5 = 0
    case neg =>
      have k1 : (f5 != 0) = true := by simpa using kf
      clear kf
      go_wp2_with fail
      go_ret
      exact ⟨rfl, hb⟩
    case pos =>
    subst kf
    by_cases kg : g5 = 0
    case neg =>
      have k1 : (g5 != 0) = true := by simpa using kg
      clear kg
      go_wp2_with fail
      go_ret
      exact ⟨rfl, hb⟩
    case pos =>
    subst kg
    go_wp2_with fail
    clear c_a0 c_a1 c_b0 c_b1 c_x0 c_x1 c_y0 c_y1 c_p20 c_p21 c_q20 c_q21 c_j0 c_j1 c_g0 c_g1 c_i0 c_i1
    generalize (w16.alloc (.cells #[.int .i64 N5, .slice ia iN ic] 35)) = w17 at *
    have hfin : codeJ N L N4 L4 = 0 ∧ N5 = nJ N L N4 L4 ∧ L5 = lJ N L N4 L4 := by
      have hj1 := join_double (n := n) (n2 := n2) (l := l) (l2 := l2) (z := z) hc.out he5.out (by rw [hmv]; exact hf5.out) (by rw [hN3.out, hL3.out]; exact hg5.out)
      rw [hmv, hN.out, hLe.out, hN4.out, hL4.out, hN3.out, hL3.out, hN5.out, hL5.out] at hj1
      exact hj1
    refine (vjoin_spec N _ L N4 _ L4 _ hx hg).mono ?_
    rintro e w18 ⟨o, rfl, ho, hs⟩
    replace h0 := h0.below hs
    replace h1 := h1.below hs
    replace hu := hu.below hs
    replace hv := hv.below hs
    replace hz := hz.below hs
    replace hx := hx.below hs
    replace hy := hy.below hs
    replace hP := hP.below hs
    replace hown := hown.below hs
    replace hp2 := hp2.below hs
    replace hq2 := hq2.below hs
    replace hj := hj.below hs
    replace hg := hg.below hs
    replace hi := hi.below hs
    replace hA := hA.below hs
    replace hB := hB.below hs
    replace hX := hX.below hs
    replace hY := hY.below hs
    replace hP2 := hP2.below hs
    replace hQ2 := hQ2.below hs
    replace hJ := hJ.below hs
    replace hG := hG.below hs
    replace hI := hI.below hs
    replace hb := hb.trans (hs.mono hb.size)
    clear hs
    replace ho := ho.reads
    obtain ⟨oa, on, oc, rfl⟩ := ho.lit
    rw [hfin.1]
    rw [← hfin.2.2] at ho
    rw [← hfin.2.1]
    clear hfin
    replace h0 := h0.alloc (.cells #[.int .i64 N5, .slice oa on oc] 35)
    replace h1 := h1.alloc (.cells #[.int .i64 N5, .slice oa on oc] 35)
    replace hu := hu.alloc (.cells #[.int .i64 N5, .slice oa on oc] 35)
    replace hv := hv.alloc (.cells #[.int .i64 N5, .slice oa on oc] 35)
    replace hz := hz.alloc (.cells #[.int .i64 N5, .slice oa on oc] 35)
    replace hx := hx.alloc (.cells #[.int .i64 N5, .slice oa on oc] 35)
    replace hy := hy.alloc (.cells #[.int .i64 N5, .slice oa on oc] 35)
    replace hP := hP.alloc (.cells #[.int .i64 N5, .slice oa on oc] 35)
    replace hown := hown.alloc (.cells #[.int .i64 N5, .slice oa on oc] 35)
    replace hp2 := hp2.alloc (.cells #[.int .i64 N5, .slice oa on oc] 35)
    replace hq2 := hq2.alloc (.cells #[.int .i64 N5, .slice oa on oc] 35)
    replace hj := hj.alloc (.cells #[.int .i64 N5, .slice oa on oc] 35)
    replace hg := hg.alloc (.cells #[.int .i64 N5, .slice oa on oc] 35)
    replace hi := hi.alloc (.cells #[.int .i64 N5, .slice oa on oc] 35)
    replace ho := ho.alloc (.cells #[.int .i64 N5, .slice oa on oc] 35)
    replace hA := hA.alloc (.cells #[.int .i64 N5, .slice oa on oc] 35)
    replace hB := hB.alloc (.cells #[.int .i64 N5, .slice oa on oc] 35)
    replace hX := hX.alloc (.cells #[.int .i64 N5, .slice oa on oc] 35)
    replace hY := hY.alloc (.cells #[.int .i64 N5, .slice oa on oc] 35)
    replace hP2 := hP2.alloc (.cells #[.int .i64 N5, .slice oa on oc] 35)
    replace hQ2 := hQ2.alloc (.cells #[.int .i64 N5, .slice oa on oc] 35)
    replace hJ := hJ.alloc (.cells #[.int .i64 N5, .slice oa on oc] 35)
    replace hG := hG.alloc (.cells #[.int .i64 N5, .slice oa on oc] 35)
    replace hI := hI.alloc (.cells #[.int .i64 N5, .slice oa on oc] 35)
    have hO := Bx.new w18 #[.int .i64 N5, .slice oa on oc] 35
    replace hb := hb.alloc hb.size (.cells #[.int .i64 N5, .slice oa on oc] 35)
    have c_a0 := hA.cell 0 rfl
    have c_a1 := hA.cell 1 rfl
    have c_b0 := hB.cell 0 rfl
    have c_b1 := hB.cell 1 rfl
    have c_x0 := hX.cell 0 rfl
    have c_x1 := hX.cell 1 rfl
    have c_y0 := hY.cell 0 rfl
    have c_y1 := hY.cell 1 rfl
    have c_p20 := hP2.cell 0 rfl
    have c_p21 := hP2.cell 1 rfl
    have c_q20 := hQ2.cell 0 rfl
    have c_q21 := hQ2.cell 1 rfl
    have c_j0 := hJ.cell 0 rfl
    have c_j1 := hJ.cell 1 rfl
    have c_g0 := hG.cell 0 rfl
    have c_g1 := hG.cell 1 rfl
    have c_i0 := hI.cell 0 rfl
    have c_i1 := hI.cell 1 rfl
    have c_o0 := hO.cell 0 rfl
    have c_o1 := hO.cell 1 rfl
    go_wp2_with fail
    clear c_a0 c_a1 c_b0 c_b1 c_x0 c_x1 c_y0 c_y1 c_p20 c_p21 c_q20 c_q21 c_j0 c_j1 c_g0 c_g1 c_i0 c_i1 c_o0 c_o1
    generalize (w18.alloc (.cells #[.int .i64 N5, .slice oa on oc] 35)) = w19 at *
    refine (sb_spec N5 N5 _ _ L5 L5 _ hi ho).mono ?_
    rintro e w20 ⟨rfl, hs⟩
    replace h0 := h0.below hs
    replace h1 := h1.below hs
    replace hu := hu.below hs
    replace hv := hv.below hs
    replace hz := hz.below hs
    replace hx := hx.below hs
    replace hy := hy.below hs
    replace hP := hP.below hs
    replace hown := hown.below hs
    replace hp2 := hp2.below hs
    replace hq2 := hq2.below hs
    replace hj := hj.below hs
    replace hg := hg.below hs
    replace hi := hi.below hs
    replace ho := ho.below hs
    replace hA := hA.below hs
    replace hB := hB.below hs
    replace hX := hX.below hs
    replace hY := hY.below hs
    replace hP2 := hP2.below hs
    replace hQ2 := hQ2.below hs
    replace hJ := hJ.below hs
    replace hG := hG.below hs
    replace hI := hI.below hs
    replace hO := hO.below hs
    replace hb := hb.trans (hs.mono hb.size)
    clear hs
    rw [show (N5 == N5 && decide (L5 = L5)) = true by simp]
    have c_a0 := hA.cell 0 rfl
    have c_a1 := hA.cell 1 rfl
    have c_b0 := hB.cell 0 rfl
    have c_b1 := hB.cell 1 rfl
    have c_x0 := hX.cell 0 rfl
    have c_x1 := hX.cell 1 rfl
    have c_y0 := hY.cell 0 rfl
    have c_y1 := hY.cell 1 rfl
    have c_p20 := hP2.cell 0 rfl
    have c_p21 := hP2.cell 1 rfl
    have c_q20 := hQ2.cell 0 rfl
    have c_q21 := hQ2.cell 1 rfl
    have c_j0 := hJ.cell 0 rfl
    have c_j1 := hJ.cell 1 rfl
    have c_g0 := hG.cell 0 rfl
    have c_g1 := hG.cell 1 rfl
    have c_i0 := hI.cell 0 rfl
    have c_i1 := hI.cell 1 rfl
    have c_o0 := hO.cell 0 rfl
    have c_o1 := hO.cell 1 rfl
    go_wp2_with fail
    go_ret
    exact ⟨rfl, hb⟩
  case neg =>
    have hd1 : (d == 0) = false := by simpa using hd0
    clear hd0
    go_wp2_with fail
    clear c_a0 c_a1 c_b0 c_b1 c_x0 c_x1 c_y0 c_y1
    generalize (w6.alloc (.cells #[.int .i64 M, .slice ya yn yc] 35)) = w7 at *
    refine (bp_spec n _ l _ hu).mono ?_
    rintro e w8 ⟨P, rfl, hP, hs⟩
    replace h0 := h0.below hs
    replace h1 := h1.below hs
    replace hu := hu.below hs
    replace hv := hv.below hs
    replace hz := hz.below hs
    replace hx := hx.below hs
    replace hy := hy.below hs
    replace hA := hA.below hs
    replace hB := hB.below hs
    replace hX := hX.below hs
    replace hY := hY.below hs
    replace hb := hb.trans (hs.mono hb.size)
    clear hs
    replace hP := hP.reads
    have hPl : (permB n l).length = n := by unfold permB; rw [if_pos (codeD_zero hc.out).1]; simp
    have hlz := hz.len (P := Try.prog) 32 3 ⟨_, sliceI⟩
    rw [length_ints, hzl] at hlz
    have hmk := make_run sliceI infoI rfl (P := Try.prog) n (by omega) (by omega) (by omega)
    simp only [Int.toNat_natCast] at hmk
    have hPr := hid (show ∀ i, i < n → 0 ≤ nth (permB n l) i ∧ nth (permB n l) i < n from fun i hi => permB_rng (codeD_zero hc.out).1 hi)
    have c_a0 := hA.cell 0 rfl
    have c_a1 := hA.cell 1 rfl
    have c_b0 := hB.cell 0 rfl
    have c_b1 := hB.cell 1 rfl
    have c_x0 := hX.cell 0 rfl
    have c_x1 := hX.cell 1 rfl
    have c_y0 := hY.cell 0 rfl
    have c_y1 := hY.cell 1 rfl
    go_wp2_with fail
    clear c_a0 c_a1 c_b0 c_b1 c_x0 c_x1 c_y0 c_y1
    go_loopw [16] (fun i wr => ∃ k : Nat, k ≤ n ∧ i = .int .i64 k ∧ Own wr w8.heap.size 2 (madeV w8 n) (ints (scat (permB n l) z k)) ∧ Below w8.heap.size w8 wr) (fun i _ => n - (intOf i).toNat)
    case atStart =>
      refine ⟨0, by omega, rfl, ?_, below_made _ _ _ _⟩
      have := own_made w8 2 n (.int .i64 0) (by omega) (Nat.le_refl _)
      rw [scat, hPl]
      simpa [ints] using this
    case round =>
    obtain ⟨k, hk, rfl, hown, hbr⟩ := hrel
    by_cases hlt : k < n
    case pos =>
      obtain ⟨r0, r1⟩ := hPr.out k hlt
      have hi := hP.idx (P := Try.prog) 32 sliceI sizeI .i64 (k : Int) (by omega) (by rw [length_ints, hPl]; omega)
      have hi2 := hz.idx (P := Try.prog) 32 sliceI sizeI .i64 (k : Int) (by omega) (by rw [length_ints, hzl]; omega)
      simp only [Int.toNat_natCast] at hi hi2
      have hc1 := (hP.below hbr).int (i := k) (by omega)
      have hc2 := (hz.below hbr).int (i := k) (by omega)
      have hi3 := hown.reads.idx (P := Try.prog) 32 sliceI sizeI .i64 (nth (permB n l) k) r0 (by rw [length_ints, length_scat]; omega)
      have hd3 := hown.reads.cell (nth (permB n l) k).toNat _ (ints_at (by rw [length_scat]; omega))
      have hf := hown.frozen (i := (nth (permB n l) k).toNat) (by rw [length_ints, length_scat]; omega)
      have hab := hid (hown.adr_blk (i := (nth (permB n l) k).toNat) (by rw [length_ints, length_scat]; omega)).2.1
      have hst := (hown.set (i := (nth (permB n l) k).toNat) (by rw [length_ints, length_scat]; omega) (.int .i64 (nth z k))).drew
      rw [ints_set] at hst
      have hst2 := hid (show Own _ _ _ _ (ints (scat (permB n l) z (k + 1))) from hst)
      have hbr2 := hid (hbr.setCell hab.out (.int .i64 (nth z k))).drew
      clear hst hown hbr
      generalize nth (permB n l) k = pk at *
      go_wp2_with fail
      go_region
      go_wp2_with fail
      go_roundw
      case rel => exact ⟨k + 1, by omega, by go_num, hst2.out, hbr2.out⟩
      case measure => simp [intOf] <;> omega
    case neg =>
    obtain rfl : n = k := by omega
    replace hown := hown.reads
    replace h0 := h0.below hbr
    replace h1 := h1.below hbr
    replace hu := hu.below hbr
    replace hv := hv.below hbr
    replace hz := hz.below hbr
    replace hx := hx.below hbr
    replace hy := hy.below hbr
    replace hP := hP.below hbr
    replace hA := hA.below hbr
    replace hB := hB.below hbr
    replace hX := hX.below hbr
    replace hY := hY.below hbr
    replace hb := hb.trans (hbr.mono hb.size)
    clear hbr
    clear hmk hPr
    obtain ⟨mv, hmv⟩ : ∃ mv, scat (permB n l) z n = mv := ⟨_, rfl⟩
    rw [hmv] at hown
    generalize madeV w8 n = ov at *
    go_wp2_with fail
    clear hlt hlz hk
    refine (e8braids a0 cs _ h0 hr (by omega)).mono ?_
    rintro e w9 ⟨n2, p2, q2, lp, l2, rfl, hn2, hp2, hq2, -, hWq, hs⟩
    replace h0 := h0.below hs
    replace h1 := h1.below hs
    replace hu := hu.below hs
    replace hv := hv.below hs
    replace hz := hz.below hs
    replace hx := hx.below hs
    replace hy := hy.below hs
    replace hP := hP.below hs
    replace hown := hown.below hs
    replace hA := hA.below hs
    replace hB := hB.below hs
    replace hX := hX.below hs
    replace hY := hY.below hs
    replace hb := hb.trans (hs.mono hb.size)
    clear hs
    replace hp2 := hp2.reads
    replace hq2 := hq2.reads
    obtain ⟨pa, pn, pc, rfl⟩ := hp2.lit
    obtain ⟨qa, qn, qc, rfl⟩ := hq2.lit
    clear hWq
    replace h0 := h0.alloc (.cells #[.int .i64 n2, .slice pa pn pc] 35)
    replace h1 := h1.alloc (.cells #[.int .i64 n2, .slice pa pn pc] 35)
    replace hu := hu.alloc (.cells #[.int .i64 n2, .slice pa pn pc] 35)
    replace hv := hv.alloc (.cells #[.int .i64 n2, .slice pa pn pc] 35)
    replace hz := hz.alloc (.cells #[.int .i64 n2, .slice pa pn pc] 35)
    replace hx := hx.alloc (.cells #[.int .i64 n2, .slice pa pn pc] 35)
    replace hy := hy.alloc (.cells #[.int .i64 n2, .slice pa pn pc] 35)
    replace hP := hP.alloc (.cells #[.int .i64 n2, .slice pa pn pc] 35)
    replace hown := hown.alloc (.cells #[.int .i64 n2, .slice pa pn pc] 35)
    replace hp2 := hp2.alloc (.cells #[.int .i64 n2, .slice pa pn pc] 35)
    replace hq2 := hq2.alloc (.cells #[.int .i64 n2, .slice pa pn pc] 35)
    replace hA := hA.alloc (.cells #[.int .i64 n2, .slice pa pn pc] 35)
    replace hB := hB.alloc (.cells #[.int .i64 n2, .slice pa pn pc] 35)
    replace hX := hX.alloc (.cells #[.int .i64 n2, .slice pa pn pc] 35)
    replace hY := hY.alloc (.cells #[.int .i64 n2, .slice pa pn pc] 35)
    have hP2 := Bx.new w9 #[.int .i64 n2, .slice pa pn pc] 35
    replace hb := hb.alloc hb.size (.cells #[.int .i64 n2, .slice pa pn pc] 35)
    replace h0 := h0.alloc (.cells #[.int .i64 n2, .slice qa qn qc] 35)
    replace h1 := h1.alloc (.cells #[.int .i64 n2, .slice qa qn qc] 35)
    replace hu := hu.alloc (.cells #[.int .i64 n2, .slice qa qn qc] 35)
    replace hv := hv.alloc (.cells #[.int .i64 n2, .slice qa qn qc] 35)
    replace hz := hz.alloc (.cells #[.int .i64 n2, .slice qa qn qc] 35)
    replace hx := hx.alloc (.cells #[.int .i64 n2, .slice qa qn qc] 35)
    replace hy := hy.alloc (.cells #[.int .i64 n2, .slice qa qn qc] 35)
    replace hP := hP.alloc (.cells #[.int .i64 n2, .slice qa qn qc] 35)
    replace hown := hown.alloc (.cells #[.int .i64 n2, .slice qa qn qc] 35)
    replace hp2 := hp2.alloc (.cells #[.int .i64 n2, .slice qa qn qc] 35)
    replace hq2 := hq2.alloc (.cells #[.int .i64 n2, .slice qa qn qc] 35)
    replace hA := hA.alloc (.cells #[.int .i64 n2, .slice qa qn qc] 35)
    replace hB := hB.alloc (.cells #[.int .i64 n2, .slice qa qn qc] 35)
    replace hX := hX.alloc (.cells #[.int .i64 n2, .slice qa qn qc] 35)
    replace hY := hY.alloc (.cells #[.int .i64 n2, .slice qa qn qc] 35)
    replace hP2 := hP2.alloc (.cells #[.int .i64 n2, .slice qa qn qc] 35)
    have hQ2 := Bx.new (w9.alloc (.cells #[.int .i64 n2, .slice pa pn pc] 35)) #[.int .i64 n2, .slice qa qn qc] 35
    simp only [World.size_alloc] at hQ2
    replace hb := hb.alloc hb.size (.cells #[.int .i64 n2, .slice qa qn qc] 35)
    have c_a0 := hA.cell 0 rfl
    have c_a1 := hA.cell 1 rfl
    have c_b0 := hB.cell 0 rfl
    have c_b1 := hB.cell 1 rfl
    have c_x0 := hX.cell 0 rfl
    have c_x1 := hX.cell 1 rfl
    have c_y0 := hY.cell 0 rfl
    have c_y1 := hY.cell 1 rfl
    have c_p20 := hP2.cell 0 rfl
    have c_p21 := hP2.cell 1 rfl
    have c_q20 := hQ2.cell 0 rfl
    have c_q21 := hQ2.cell 1 rfl
    go_wp2_with fail
    clear c_a0 c_a1 c_b0 c_b1 c_x0 c_x1 c_y0 c_y1 c_p20 c_p21 c_q20 c_q21
    generalize ((w9.alloc (.cells #[.int .i64 n2, .slice pa pn pc] 35)).alloc (.cells #[.int .i64 n2, .slice qa qn qc] 35)) = w10 at *
    refine (vjoin_spec n _ l n2 _ l2 _ hu hq2).mono ?_
    rintro e w11 ⟨j, rfl, hj, hs⟩
    replace h0 := h0.below hs
    replace h1 := h1.below hs
    replace hu := hu.below hs
    replace hv := hv.below hs
    replace hz := hz.below hs
    replace hx := hx.below hs
    replace hy := hy.below hs
    replace hP := hP.below hs
    replace hown := hown.below hs
    replace hp2 := hp2.below hs
    replace hq2 := hq2.below hs
    replace hA := hA.below hs
    replace hB := hB.below hs
    replace hX := hX.below hs
    replace hY := hY.below hs
    replace hP2 := hP2.below hs
    replace hQ2 := hQ2.below hs
    replace hb := hb.trans (hs.mono hb.size)
    clear hs
    replace hj := hj.reads
    obtain ⟨ja, jn, jc, rfl⟩ := hj.lit
    obtain ⟨e5, he5⟩ : ∃ e5, codeJ n l n2 l2 = e5 := ⟨_, rfl⟩
    obtain ⟨N3, hN3⟩ : ∃ N3, nJ n l n2 l2 = N3 := ⟨_, rfl⟩
    obtain ⟨L3, hL3⟩ : ∃ L3, lJ n l n2 l2 = L3 := ⟨_, rfl⟩
    rw [he5, hN3]
    rw [hL3] at hj
    replace he5 := hid he5
    replace hN3 := hid hN3
    replace hL3 := hid hL3
    replace h0 := h0.alloc (.cells #[.int .i64 N3, .slice ja jn jc] 35)
    replace h1 := h1.alloc (.cells #[.int .i64 N3, .slice ja jn jc] 35)
    replace hu := hu.alloc (.cells #[.int .i64 N3, .slice ja jn jc] 35)
    replace hv := hv.alloc (.cells #[.int .i64 N3, .slice ja jn jc] 35)
    replace hz := hz.alloc (.cells #[.int .i64 N3, .slice ja jn jc] 35)
    replace hx := hx.alloc (.cells #[.int .i64 N3, .slice ja jn jc] 35)
    replace hy := hy.alloc (.cells #[.int .i64 N3, .slice ja jn jc] 35)
    replace hP := hP.alloc (.cells #[.int .i64 N3, .slice ja jn jc] 35)
    replace hown := hown.alloc (.cells #[.int .i64 N3, .slice ja jn jc] 35)
    replace hp2 := hp2.alloc (.cells #[.int .i64 N3, .slice ja jn jc] 35)
    replace hq2 := hq2.alloc (.cells #[.int .i64 N3, .slice ja jn jc] 35)
    replace hj := hj.alloc (.cells #[.int .i64 N3, .slice ja jn jc] 35)
    replace hA := hA.alloc (.cells #[.int .i64 N3, .slice ja jn jc] 35)
    replace hB := hB.alloc (.cells #[.int .i64 N3, .slice ja jn jc] 35)
    replace hX := hX.alloc (.cells #[.int .i64 N3, .slice ja jn jc] 35)
    replace hY := hY.alloc (.cells #[.int .i64 N3, .slice ja jn jc] 35)
    replace hP2 := hP2.alloc (.cells #[.int .i64 N3, .slice ja jn jc] 35)
    replace hQ2 := hQ2.alloc (.cells #[.int .i64 N3, .slice ja jn jc] 35)
    have hJ := Bx.new w11 #[.int .i64 N3, .slice ja jn jc] 35
    replace hb := hb.alloc hb.size (.cells #[.int .i64 N3, .slice ja jn jc] 35)
    have c_a0 := hA.cell 0 rfl
    have c_a1 := hA.cell 1 rfl
    have c_b0 := hB.cell 0 rfl
    have c_b1 := hB.cell 1 rfl
    have c_x0 := hX.cell 0 rfl
    have c_x1 := hX.cell 1 rfl
    have c_y0 := hY.cell 0 rfl
    have c_y1 := hY.cell 1 rfl
    have c_p20 := hP2.cell 0 rfl
    have c_p21 := hP2.cell 1 rfl
    have c_q20 := hQ2.cell 0 rfl
    have c_q21 := hQ2.cell 1 rfl
    have c_j0 := hJ.cell 0 rfl
    have c_j1 := hJ.cell 1 rfl
    go_wp2_with fail
    clear c_a0 c_a1 c_b0 c_b1 c_x0 c_x1 c_y0 c_y1 c_p20 c_p21 c_q20 c_q21 c_j0 c_j1
    generalize (w11.alloc (.cells #[.int .i64 N3, .slice ja jn jc] 35)) = w12 at *
    refine (DoubleI n2 _ l2 _ mv _ hq2 hown).mono ?_
    rintro e w13 ⟨g, rfl, hg, hs⟩
    replace h0 := h0.below hs
    replace h1 := h1.below hs
    replace hu := hu.below hs
    replace hv := hv.below hs
    replace hz := hz.below hs
    replace hx := hx.below hs
    replace hy := hy.below hs
    replace hP := hP.below hs
    replace hown := hown.below hs
    replace hp2 := hp2.below hs
    replace hq2 := hq2.below hs
    replace hj := hj.below hs
    replace hA := hA.below hs
    replace hB := hB.below hs
    replace hX := hX.below hs
    replace hY := hY.below hs
    replace hP2 := hP2.below hs
    replace hQ2 := hQ2.below hs
    replace hJ := hJ.below hs
    replace hb := hb.trans (hs.mono hb.size)
    clear hs
    replace hg := hg.reads
    obtain ⟨ga, gn, gc, rfl⟩ := hg.lit
    obtain ⟨f5, hf5⟩ : ∃ f5, codeD n2 l2 mv = f5 := ⟨_, rfl⟩
    obtain ⟨N4, hN4⟩ : ∃ N4, nD n2 l2 mv = N4 := ⟨_, rfl⟩
    obtain ⟨L4, hL4⟩ : ∃ L4, lD n2 l2 mv = L4 := ⟨_, rfl⟩
    rw [hf5, hN4]
    rw [hL4] at hg
    replace hf5 := hid hf5
    replace hN4 := hid hN4
    replace hL4 := hid hL4
    replace h0 := h0.alloc (.cells #[.int .i64 N4, .slice ga gn gc] 35)
    replace h1 := h1.alloc (.cells #[.int .i64 N4, .slice ga gn gc] 35)
    replace hu := hu.alloc (.cells #[.int .i64 N4, .slice ga gn gc] 35)
    replace hv := hv.alloc (.cells #[.int .i64 N4, .slice ga gn gc] 35)
    replace hz := hz.alloc (.cells #[.int .i64 N4, .slice ga gn gc] 35)
    replace hx := hx.alloc (.cells #[.int .i64 N4, .slice ga gn gc] 35)
    replace hy := hy.alloc (.cells #[.int .i64 N4, .slice ga gn gc] 35)
    replace hP := hP.alloc (.cells #[.int .i64 N4, .slice ga gn gc] 35)
    replace hown := hown.alloc (.cells #[.int .i64 N4, .slice ga gn gc] 35)
    replace hp2 := hp2.alloc (.cells #[.int .i64 N4, .slice ga gn gc] 35)
    replace hq2 := hq2.alloc (.cells #[.int .i64 N4, .slice ga gn gc] 35)
    replace hj := hj.alloc (.cells #[.int .i64 N4, .slice ga gn gc] 35)
    replace hg := hg.alloc (.cells #[.int .i64 N4, .slice ga gn gc] 35)
    replace hA := hA.alloc (.cells #[.int .i64 N4, .slice ga gn gc] 35)
    replace hB := hB.alloc (.cells #[.int .i64 N4, .slice ga gn gc] 35)
    replace hX := hX.alloc (.cells #[.int .i64 N4, .slice ga gn gc] 35)
    replace hY := hY.alloc (.cells #[.int .i64 N4, .slice ga gn gc] 35)
    replace hP2 := hP2.alloc (.cells #[.int .i64 N4, .slice ga gn gc] 35)
    replace hQ2 := hQ2.alloc (.cells #[.int .i64 N4, .slice ga gn gc] 35)
    replace hJ := hJ.alloc (.cells #[.int .i64 N4, .slice ga gn gc] 35)
    have hG := Bx.new w13 #[.int .i64 N4, .slice ga gn gc] 35
    replace hb := hb.alloc hb.size (.cells #[.int .i64 N4, .slice ga gn gc] 35)
    have c_a0 := hA.cell 0 rfl
    have c_a1 := hA.cell 1 rfl
    have c_b0 := hB.cell 0 rfl
    have c_b1 := hB.cell 1 rfl
    have c_x0 := hX.cell 0 rfl
    have c_x1 := hX.cell 1 rfl
    have c_y0 := hY.cell 0 rfl
    have c_y1 := hY.cell 1 rfl
    have c_p20 := hP2.cell 0 rfl
    have c_p21 := hP2.cell 1 rfl
    have c_q20 := hQ2.cell 0 rfl
    have c_q21 := hQ2.cell 1 rfl
    have c_j0 := hJ.cell 0 rfl
    have c_j1 := hJ.cell 1 rfl
    have c_g0 := hG.cell 0 rfl
    have c_g1 := hG.cell 1 rfl
    go_wp2_with fail
    clear c_a0 c_a1 c_b0 c_b1 c_x0 c_x1 c_y0 c_y1 c_p20 c_p21 c_q20 c_q21 c_j0 c_j1 c_g0 c_g1
    generalize (w13.alloc (.cells #[.int .i64 N4, .slice ga gn gc] 35)) = w14 at *
    refine (DoubleI N3 _ L3 _ z _ hj hz).mono ?_
    rintro e w15 ⟨i, rfl, hi, hs⟩
    replace h0 := h0.below hs
    replace h1 := h1.below hs
    replace hu := hu.below hs
    replace hv := hv.below hs
    replace hz := hz.below hs
    replace hx := hx.below hs
    replace hy := hy.below hs
    replace hP := hP.below hs
    replace hown := hown.below hs
    replace hp2 := hp2.below hs
    replace hq2 := hq2.below hs
    replace hj := hj.below hs
    replace hg := hg.below hs
    replace hA := hA.below hs
    replace hB := hB.below hs
    replace hX := hX.below hs
    replace hY := hY.below hs
    replace hP2 := hP2.below hs
    replace hQ2 := hQ2.below hs
    replace hJ := hJ.below hs
    replace hG := hG.below hs
    replace hb := hb.trans (hs.mono hb.size)
    clear hs
    replace hi := hi.reads
    obtain ⟨ia, iN, ic, rfl⟩ := hi.lit
    obtain ⟨g5, hg5⟩ : ∃ g5, codeD N3 L3 z = g5 := ⟨_, rfl⟩
    obtain ⟨N5, hN5⟩ : ∃ N5, nD N3 L3 z = N5 := ⟨_, rfl⟩
    obtain ⟨L5, hL5⟩ : ∃ L5, lD N3 L3 z = L5 := ⟨_, rfl⟩
    rw [hg5, hN5]
    rw [hL5] at hi
    replace hg5 := hid hg5
    replace hN5 := hid hN5
    replace hL5 := hid hL5
    replace h0 := h0.alloc (.cells #[.int .i64 N5, .slice ia iN ic] 35)
    replace h1 := h1.alloc (.cells #[.int .i64 N5, .slice ia iN ic] 35)
    replace hu := hu.alloc (.cells #[.int .i64 N5, .slice ia iN ic] 35)
    replace hv := hv.alloc (.cells #[.int .i64 N5, .slice ia iN ic] 35)
    replace hz := hz.alloc (.cells #[.int .i64 N5, .slice ia iN ic] 35)
    replace hx := hx.alloc (.cells #[.int .i64 N5, .slice ia iN ic] 35)
    replace hy := hy.alloc (.cells #[.int .i64 N5, .slice ia iN ic] 35)
    replace hP := hP.alloc (.cells #[.int .i64 N5, .slice ia iN ic] 35)
    replace hown := hown.alloc (.cells #[.int .i64 N5, .slice ia iN ic] 35)
    replace hp2 := hp2.alloc (.cells #[.int .i64 N5, .slice ia iN ic] 35)
    replace hq2 := hq2.alloc (.cells #[.int .i64 N5, .slice ia iN ic] 35)
    replace hj := hj.alloc (.cells #[.int .i64 N5, .slice ia iN ic] 35)
    replace hg := hg.alloc (.cells #[.int .i64 N5, .slice ia iN ic] 35)
    replace hi := hi.alloc (.cells #[.int .i64 N5, .slice ia iN ic] 35)
    replace hA := hA.alloc (.cells #[.int .i64 N5, .slice ia iN ic] 35)
    replace hB := hB.alloc (.cells #[.int .i64 N5, .slice ia iN ic] 35)
    replace hX := hX.alloc (.cells #[.int .i64 N5, .slice ia iN ic] 35)
    replace hY := hY.alloc (.cells #[.int .i64 N5, .slice ia iN ic] 35)
    replace hP2 := hP2.alloc (.cells #[.int .i64 N5, .slice ia iN ic] 35)
    replace hQ2 := hQ2.alloc (.cells #[.int .i64 N5, .slice ia iN ic] 35)
    replace hJ := hJ.alloc (.cells #[.int .i64 N5, .slice ia iN ic] 35)
    replace hG := hG.alloc (.cells #[.int .i64 N5, .slice ia iN ic] 35)
    have hI := Bx.new w15 #[.int .i64 N5, .slice ia iN ic] 35
    replace hb := hb.alloc hb.size (.cells #[.int .i64 N5, .slice ia iN ic] 35)
    have c_a0 := hA.cell 0 rfl
    have c_a1 := hA.cell 1 rfl
    have c_b0 := hB.cell 0 rfl
    have c_b1 := hB.cell 1 rfl
    have c_x0 := hX.cell 0 rfl
    have c_x1 := hX.cell 1 rfl
    have c_y0 := hY.cell 0 rfl
    have c_y1 := hY.cell 1 rfl
    have c_p20 := hP2.cell 0 rfl
    have c_p21 := hP2.cell 1 rfl
    have c_q20 := hQ2.cell 0 rfl
    have c_q21 := hQ2.cell 1 rfl
    have c_j0 := hJ.cell 0 rfl
    have c_j1 := hJ.cell 1 rfl
    have c_g0 := hG.cell 0 rfl
    have c_g1 := hG.cell 1 rfl
    have c_i0 := hI.cell 0 rfl
    have c_i1 := hI.cell 1 rfl
    by_cases ke : e5 = 0
    case neg =>
      have k1 : (e5 != 0) = true := by simpa using ke
      clear ke
      go_wp2_with fail
      go_ret
      exact ⟨rfl, hb⟩
    case pos =>
    subst ke
    by_cases kf : f5 = 0
    case neg =>
      have k1 : (f5 != 0) = true := by simpa using kf
      clear kf
      go_wp2_with fail
      go_ret
      exact ⟨rfl, hb⟩
    case pos =>
    subst kf
    by_cases kg : g5 = 0
    case neg =>
      have k1 : (g5 != 0) = true := by simpa using kg
      clear kg
      go_wp2_with fail
      go_ret
      exact ⟨rfl, hb⟩
    case pos =>
    subst kg
    go_wp2_with fail
    clear c_a0 c_a1 c_b0 c_b1 c_x0 c_x1 c_y0 c_y1 c_p20 c_p21 c_q20 c_q21 c_j0 c_j1 c_g0 c_g1 c_i0 c_i1
    generalize (w15.alloc (.cells #[.int .i64 N5, .slice ia iN ic] 35)) = w16 at *
    have hfin : codeJ N L N4 L4 = 0 ∧ N5 = nJ N L N4 L4 ∧ L5 = lJ N L N4 L4 := by
      have hj1 := join_double (n := n) (n2 := n2) (l := l) (l2 := l2) (z := z) hc.out he5.out (by rw [hmv]; exact hf5.out) (by rw [hN3.out, hL3.out]; exact hg5.out)
      rw [hmv, hN.out, hLe.out, hN4.out, hL4.out, hN3.out, hL3.out, hN5.out, hL5.out] at hj1
      exact hj1
    refine (vjoin_spec N _ L N4 _ L4 _ hx hg).mono ?_
    rintro e w17 ⟨o, rfl, ho, hs⟩
    replace h0 := h0.below hs
    replace h1 := h1.below hs
    replace hu := hu.below hs
    replace hv := hv.below hs
    replace hz := hz.below hs
    replace hx := hx.below hs
    replace hy := hy.below hs
    replace hP := hP.below hs
    replace hown := hown.below hs
    replace hp2 := hp2.below hs
    replace hq2 := hq2.below hs
    replace hj := hj.below hs
    replace hg := hg.below hs
    replace hi := hi.below hs
    replace hA := hA.below hs
    replace hB := hB.below hs
    replace hX := hX.below hs
    replace hY := hY.below hs
    replace hP2 := hP2.below hs
    replace hQ2 := hQ2.below hs
    replace hJ := hJ.below hs
    replace hG := hG.below hs
    replace hI := hI.below hs
    replace hb := hb.trans (hs.mono hb.size)
    clear hs
    replace ho := ho.reads
    obtain ⟨oa, on, oc, rfl⟩ := ho.lit
    rw [hfin.1]
    rw [← hfin.2.2] at ho
    rw [← hfin.2.1]
    clear hfin
    replace h0 := h0.alloc (.cells #[.int .i64 N5, .slice oa on oc] 35)
    replace h1 := h1.alloc (.cells #[.int .i64 N5, .slice oa on oc] 35)
    replace hu := hu.alloc (.cells #[.int .i64 N5, .slice oa on oc] 35)
    replace hv := hv.alloc (.cells #[.int .i64 N5, .slice oa on oc] 35)
    replace hz := hz.alloc (.cells #[.int .i64 N5, .slice oa on oc] 35)
    replace hx := hx.alloc (.cells #[.int .i64 N5, .slice oa on oc] 35)
    replace hy := hy.alloc (.cells #[.int .i64 N5, .slice oa on oc] 35)
    replace hP := hP.alloc (.cells #[.int .i64 N5, .slice oa on oc] 35)
    replace hown := hown.alloc (.cells #[.int .i64 N5, .slice oa on oc] 35)
    replace hp2 := hp2.alloc (.cells #[.int .i64 N5, .slice oa on oc] 35)
    replace hq2 := hq2.alloc (.cells #[.int .i64 N5, .slice oa on oc] 35)
    replace hj := hj.alloc (.cells #[.int .i64 N5, .slice oa on oc] 35)
    replace hg := hg.alloc (.cells #[.int .i64 N5, .slice oa on oc] 35)
    replace hi := hi.alloc (.cells #[.int .i64 N5, .slice oa on oc] 35)
    replace ho := ho.alloc (.cells #[.int .i64 N5, .slice oa on oc] 35)
    replace hA := hA.alloc (.cells #[.int .i64 N5, .slice oa on oc] 35)
    replace hB := hB.alloc (.cells #[.int .i64 N5, .slice oa on oc] 35)
    replace hX := hX.alloc (.cells #[.int .i64 N5, .slice oa on oc] 35)
    replace hY := hY.alloc (.cells #[.int .i64 N5, .slice oa on oc] 35)
    replace hP2 := hP2.alloc (.cells #[.int .i64 N5, .slice oa on oc] 35)
    replace hQ2 := hQ2.alloc (.cells #[.int .i64 N5, .slice oa on oc] 35)
    replace hJ := hJ.alloc (.cells #[.int .i64 N5, .slice oa on oc] 35)
    replace hG := hG.alloc (.cells #[.int .i64 N5, .slice oa on oc] 35)
    replace hI := hI.alloc (.cells #[.int .i64 N5, .slice oa on oc] 35)
    have hO := Bx.new w17 #[.int .i64 N5, .slice oa on oc] 35
    replace hb := hb.alloc hb.size (.cells #[.int .i64 N5, .slice oa on oc] 35)
    have c_a0 := hA.cell 0 rfl
    have c_a1 := hA.cell 1 rfl
    have c_b0 := hB.cell 0 rfl
    have c_b1 := hB.cell 1 rfl
    have c_x0 := hX.cell 0 rfl
    have c_x1 := hX.cell 1 rfl
    have c_y0 := hY.cell 0 rfl
    have c_y1 := hY.cell 1 rfl
    have c_p20 := hP2.cell 0 rfl
    have c_p21 := hP2.cell 1 rfl
    have c_q20 := hQ2.cell 0 rfl
    have c_q21 := hQ2.cell 1 rfl
    have c_j0 := hJ.cell 0 rfl
    have c_j1 := hJ.cell 1 rfl
    have c_g0 := hG.cell 0 rfl
    have c_g1 := hG.cell 1 rfl
    have c_i0 := hI.cell 0 rfl
    have c_i1 := hI.cell 1 rfl
    have c_o0 := hO.cell 0 rfl
    have c_o1 := hO.cell 1 rfl
    go_wp2_with fail
    clear c_a0 c_a1 c_b0 c_b1 c_x0 c_x1 c_y0 c_y1 c_p20 c_p21 c_q20 c_q21 c_j0 c_j1 c_g0 c_g1 c_i0 c_i1 c_o0 c_o1
    generalize (w17.alloc (.cells #[.int .i64 N5, .slice oa on oc] 35)) = w18 at *
    refine (sb_spec N5 N5 _ _ L5 L5 _ hi ho).mono ?_
    rintro e w19 ⟨rfl, hs⟩
    replace h0 := h0.below hs
    replace h1 := h1.below hs
    replace hu := hu.below hs
    replace hv := hv.below hs
    replace hz := hz.below hs
    replace hx := hx.below hs
    replace hy := hy.below hs
    replace hP := hP.below hs
    replace hown := hown.below hs
    replace hp2 := hp2.below hs
    replace hq2 := hq2.below hs
    replace hj := hj.below hs
    replace hg := hg.below hs
    replace hi := hi.below hs
    replace ho := ho.below hs
    replace hA := hA.below hs
    replace hB := hB.below hs
    replace hX := hX.below hs
    replace hY := hY.below hs
    replace hP2 := hP2.below hs
    replace hQ2 := hQ2.below hs
    replace hJ := hJ.below hs
    replace hG := hG.below hs
    replace hI := hI.below hs
    replace hO := hO.below hs
    replace hb := hb.trans (hs.mono hb.size)
    clear hs
    rw [show (N5 == N5 && decide (L5 = L5)) = true by simp]
    have c_a0 := hA.cell 0 rfl
    have c_a1 := hA.cell 1 rfl
    have c_b0 := hB.cell 0 rfl
    have c_b1 := hB.cell 1 rfl
    have c_x0 := hX.cell 0 rfl
    have c_x1 := hX.cell 1 rfl
    have c_y0 := hY.cell 0 rfl
    have c_y1 := hY.cell 1 rfl
    have c_p20 := hP2.cell 0 rfl
    have c_p21 := hP2.cell 1 rfl
    have c_q20 := hQ2.cell 0 rfl
    have c_q21 := hQ2.cell 1 rfl
    have c_j0 := hJ.cell 0 rfl
    have c_j1 := hJ.cell 1 rfl
    have c_g0 := hG.cell 0 rfl
    have c_g1 := hG.cell 1 rfl
    have c_i0 := hI.cell 0 rfl
    have c_i1 := hI.cell 1 rfl
    have c_o0 := hO.cell 0 rfl
    have c_o1 := hO.cell 1 rfl
    go_wp2_with fail
    go_ret
    exact ⟨rfl, hb⟩

end Go.Proofs.Ytmeccemnmkobbaa
