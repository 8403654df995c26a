/- Marks of a text: contracts. -/
import Derived.Test.YtkgdbobhppmaiaaDoorSpi
import Derived.Test.YtkgdbobhppmaiaaDoorLd2
import Derived.Deep.RegionHeld3
namespace Go.Proofs.YtkgdbobhppmaiaaDoor
open Go.RowKit Go.Lib

/-- the text of a mark -/
def mkt (k : Nat) : List UInt8 := 109 :: dgs k
set_option maxRecDepth 100000 in
set_option maxHeartbeats 2000000 in
theorem markT (k : Nat) (w : World) (h1 : 1 ≤ k) (h2 : k ≤ 9999999999) :
    Calls Tryd.prog 57 #[.int .i64 (k : Int)] w fun e w' => e = .returned (.string ⟨(mkt k).toArray⟩) ∧ Below w.heap.size w w' := by
  have hkp : ¬ (k : Int) ≤ 0 := by omega
  go_enter Tryd.func57, Tryd.ntmps57
  go_wp2_with fail
  go_loopw [0, 3] (fun c o wr => ∃ (K : Nat) (l : List UInt8), K ≤ k ∧ c = .int .i64 (K : Int) ∧ o = .string ⟨l.toArray⟩ ∧ Hid (dgs K ++ l = dgs k) ∧ Below w.heap.size w wr) (fun c _ _ => (intOf c).natAbs)
  case atStart => exact ⟨k, [], Nat.le_refl _, rfl, rfl, hid (by rw [List.append_nil]), Below.refl _ _⟩
  case round =>
  obtain ⟨K, l, hK, rfl, rfl, hl, hb⟩ := hrel
  have hll : l.length ≤ 30 := by
    have h3 := congrArg List.length hl.out
    rw [List.length_append] at h3
    have h4 := dgs_len k (by omega)
    omega
  by_cases hk : K = 0
  · subst hk
    have he := hid (str_app [109] l)
    have hl0 := hid (show l = dgs k by simpa [dgs] using hl.out)
    clear hl
    replace hb := hid hb
    go_wp2_with fail
    go_ret
    refine ⟨?_, hb.out⟩
    unfold mkt
    rw [← hl0.out]
    exact congrArg (fun x => Ending.returned (.string x)) he.out
  · obtain ⟨d, hd⟩ : ∃ d : Nat, d = K % 10 := ⟨_, rfl⟩
    have hd10 : d < 10 := by omega
    have hk' : ¬ (K : Int) = 0 := by omega
    have hkd : (K : Int) % 10 = (d : Int) := by omega
    have hnew := hid (show dgs (K / 10) ++ (UInt8.ofNat (48 + d) :: l) = dgs k by rw [← hl.out, dgs_step hk, ← hd]; simp)
    have hu8 := Go.IntWalk.u8_in (48 + (d : Int)) (by omega)
    have hch : ((UInt8.ofNat (48 + d)).toNat : Int) = 48 + (d : Int) := by rw [chr_nat hd10]; omega
    have hlit := own_arr wr 5 #[.int .u8 (48 + (d : Int))] 1 rfl (by omega) hb.size
    have hbA := (Below.refl wr.heap.size wr).alloc (Nat.le_refl _) (.cells #[.int .u8 (48 + (d : Int))] 5)
    have hbb := hid (hb.trans (hbA.mono hb.size))
    have hrd := hlit.reads
    rw [show (#[Value.int .u8 (48 + (d : Int))].toList : List Value) = ub [UInt8.ofNat (48 + d)] from by simp only [ub, List.map_cons, List.map_nil, hch]] at hrd
    have hcv := str_run _ [UInt8.ofNat (48 + d)] _ hrd
    unfold arrV at hcv
    have he := str_app [UInt8.ofNat (48 + d)] l
    generalize UInt8.ofNat (48 + d) = ch at *
    replace hb := hid hb
    replace hch := hid hch
    replace hd := hid hd
    clear hl hlit hbA hrd
    go_wp2_with fail
    go_roundw
    case rel => exact ⟨K / 10, _, by omega, by go_num, rfl, hnew, hbb.out⟩
    case measure => simp [intOf] <;> omega

theorem markTi (x : Int) (w : World) (h1 : 1 ≤ x) (h2 : x ≤ 9999999999) :
    Calls Tryd.prog 57 #[.int .i64 x] w fun e w' => e = .returned (.string ⟨(mkt x.toNat).toArray⟩) ∧ Below w.heap.size w w' := by
  obtain ⟨k, rfl⟩ := Int.eq_ofNat_of_zero_le (show 0 ≤ x by omega)
  exact markT k w (by omega) (by omega)
/-- the marks from q on -/
def mks (n : Nat) (q : Int) : List (List UInt8) := (List.range n).map fun i : Nat => mkt (q + (i : Int)).toNat
@[simp] theorem length_mks (n : Nat) (q : Int) : (mks n q).length = n := by simp [mks]
theorem lat_mks {n : Nat} {q : Int} {i : Nat} (h : i < n) : lat (mks n q) i = mkt (q + (i : Int)).toNat := by simp [lat, mks, h]
theorem ss_set (L : List (List UInt8)) (k : Nat) (x : List UInt8) : (ss L).set k (.string ⟨x.toArray⟩) = ss (L.set k x) := by
  unfold ss
  rw [List.map_set]
theorem mks_step (l : List (List UInt8)) (q : Int) (k : Nat) (hk : k < l.length) : (mks k q ++ l.drop k).set k (mkt (q + (k : Int)).toNat) = mks (k + 1) q ++ l.drop (k + 1) := by
  have e1 : l.drop k = l[k] :: l.drop (k + 1) := List.drop_eq_getElem_cons hk
  have e2 : mks (k + 1) q = mks k q ++ [mkt (q + (k : Int)).toNat] := by unfold mks; rw [List.range_succ, List.map_append]; rfl
  rw [e1, e2, List.set_append_right _ _ (by simp), length_mks, Nat.sub_self, List.set_cons_zero, List.append_assoc]
  rfl

set_option maxRecDepth 100000 in
set_option maxHeartbeats 2000000 in
theorem markSS (v : Value) (l : List (List UInt8)) (q : Int) (w : World) {B : Nat} (h : Own w B 9 v (ss l)) (hB : B ≤ w.heap.size) (hl : l.length ≤ 1048577) (q0 : 1 ≤ q) (q1 : q ≤ 1048577) :
    Calls Tryd.prog 20 #[v, .int .i64 q] w fun e w' => e = .returned (.int .i64 (q + l.length)) ∧ Own w' B 9 v (ss (mks l.length q)) ∧ Below B w w' := by
  have hlen := h.reads.len (P := Tryd.prog) 30 3 ⟨_, sliceW⟩
  simp only [length_ss] at hlen
  have h0 := hid h
  go_enter Tryd.func20, Tryd.ntmps20
  go_wp2_with fail
  go_loopw [1, 5] (fun q' i wr => ∃ k : Nat, k ≤ l.length ∧ i = .int .i64 k ∧ q' = .int .i64 (q + k) ∧ Own wr B 9 v (ss (mks k q ++ l.drop k)) ∧ Below B w wr) (fun _ i _ => l.length - (intOf i).toNat)
  case atStart =>
    exact ⟨0, by omega, rfl, by simp, by simpa [mks] using h0.out, Below.refl _ _⟩
  case round =>
    clear h
    obtain ⟨k, hk, rfl, rfl, hown, hg⟩ := hrel
    have hlk : (ss (mks k q ++ l.drop k)).length = l.length := by simp; omega
    by_cases hlt : k < l.length
    · have hi := hown.reads.idx (P := Tryd.prog) 30 sliceW sizeW .i64 (k : Int) (by omega) (by rw [hlk]; omega)
      simp only [Int.toNat_natCast] at hi
      have hst0 := hid (mks_step l q k hlt)
      replace hown := hid hown
      replace hg := hid hg
      replace hlk := hid hlk
      go_wp2_with fail
      refine (markTi (q + (k : Int)) wr (by omega) (by omega)).mono ?_
      rintro e w1 ⟨rfl, hs⟩
      have hown1 := hown.out.below hs
      have hlt2 : k < (ss (mks k q ++ l.drop k)).length := by rw [hlk.out]; exact hlt
      have hf := hown1.frozen (i := k) hlt2
      have hab := hown1.adr_blk (i := k) hlt2
      have hst := hown1.set (i := k) hlt2 (.string ⟨(mkt (q + (k : Int)).toNat).toArray⟩)
      rw [ss_set, hst0.out] at hst
      have hb2 := hid ((hg.out.trans (hs.mono (Nat.le_trans hB hg.out.size))).setCell hab.2.1 (.string ⟨(mkt (q + (k : Int)).toNat).toArray⟩))
      obtain ⟨c, hd⟩ : ∃ c, w1.cell? (adr v k) = some c := ⟨_, hown1.reads.cell k _ (List.getElem?_eq_getElem hlt2)⟩
      replace hst := hid hst
      clear hown1 hab hs hlt2 hst0
      go_wp2_with fail
      go_roundw
      case rel => exact ⟨k + 1, by omega, by go_num, by go_num, hst.out, hb2.out⟩
      case measure => simp [intOf] <;> omega
    · obtain rfl : k = l.length := by omega
      replace hown := hid hown
      replace hg := hid hg
      go_wp2_with fail
      go_ret
      refine ⟨rfl, by simpa using hown.out, hg.out⟩

theorem txt_ne {a b : List UInt8} (h : a ≠ b) : ((⟨a.toArray⟩ : ByteArray).toList == (⟨b.toArray⟩ : ByteArray).toList) = false := by
  rw [beq_eq_false_iff_ne, ByteArray.toList_eq, ByteArray.toList_eq]
  exact h
theorem ext_lat {l m : List (List UInt8)} (hl : l.length = m.length) (h : ∀ j, j < l.length → lat l j = lat m j) : l = m := by
  apply List.ext_getElem hl
  intro j h1 h2
  have := h j h1
  simpa [lat, h1, h2] using this

set_option maxRecDepth 100000 in
set_option maxHeartbeats 2000000 in
theorem eqSS (v u : Value) (l m : List (List UInt8)) (w : World) (h : Reads w v (ss l)) (h' : Reads w u (ss m)) (hl : l.length ≤ 1048577) :
    Calls Tryd.prog 19 #[v, u] w fun e w' => e = .returned (.bool (decide (l = m))) ∧ Below w.heap.size w w' := by
  have hlen := h.len (P := Tryd.prog) 30 3 ⟨_, sliceW⟩
  have hlen' := h'.len (P := Tryd.prog) 30 3 ⟨_, sliceW⟩
  simp only [length_ss] at hlen hlen'
  by_cases hne : l.length = m.length
  · have hb : ((l.length : Int) != (m.length : Int)) = false := by simp [hne]
    replace hne := hid hne
    go_enter Tryd.func19, Tryd.ntmps19
    go_wp2_with fail
    go_loopw [5] (fun i wr => ∃ k : Nat, k ≤ l.length ∧ i = .int .i64 k ∧ Hid (∀ j, j < k → lat l j = lat m j) ∧ Below w.heap.size w wr) (fun i _ => l.length - (intOf i).toNat)
    case atStart =>
      exact ⟨0, by omega, rfl, hid (by omega), Below.refl _ _⟩
    case round =>
      obtain ⟨k, hk, rfl, heq, hbw⟩ := hrel
      by_cases hlt : k < l.length
      · have hltm : k < m.length := by have := hne.out; omega
        have hi := h.idx (P := Tryd.prog) 30 sliceW sizeW .i64 (k : Int) (by omega) (by rw [length_ss]; omega)
        have hi2 := h'.idx (P := Tryd.prog) 30 sliceW sizeW .i64 (k : Int) (by omega) (by rw [length_ss]; omega)
        simp only [Int.toNat_natCast] at hi hi2
        have hc := (h.below hbw).cell k _ (ss_at hlt)
        have hc2 := (h'.below hbw).cell k _ (ss_at hltm)
        by_cases he : lat l k = lat m k
        · rw [← he] at hc2
          have hst := hid (show ∀ j, j < k + 1 → lat l j = lat m j by
            intro j hj
            rcases Nat.lt_or_ge j k with h1 | h1
            · exact heq.out j h1
            · obtain rfl : j = k := by omega
              exact he)
          generalize (⟨(lat l k).toArray⟩ : ByteArray) = P at *
          replace he := hid he
          replace hbw := hid hbw
          go_wp2_with fail
          go_quiet (fail)
          go_wp2_with fail
          go_roundw
          case rel => exact ⟨k + 1, by omega, by go_num, hst, below_drewN hbw.out _⟩
          case measure => simp [intOf] <;> omega
        · have hxe := txt_ne he
          have hx := hid (show l ≠ m from fun e => he (by rw [e]))
          generalize (⟨(lat l k).toArray⟩ : ByteArray) = P at *
          generalize (⟨(lat m k).toArray⟩ : ByteArray) = Q at *
          replace he := hid he
          replace hbw := hid hbw
          go_wp2_with fail
          go_quiet (fail)
          go_wp2_with fail
          go_ret
          exact ⟨by simp [hx.out], below_drewN hbw.out _⟩
      · obtain rfl : k = l.length := by omega
        have hx := hid (show l = m from ext_lat hne.out heq.out)
        replace hbw := hid hbw
        go_wp2_with fail
        go_ret
        exact ⟨by simp [hx.out], hbw.out⟩
  · have hx := hid (show l ≠ m from fun e => hne (by rw [e]))
    have hb : ((l.length : Int) != (m.length : Int)) = true := by rw [bne_iff_ne]; omega
    clear hne
    go_enter Tryd.func19, Tryd.ntmps19
    go_wp2_with fail
    go_ret
    exact ⟨by simp [hx.out], Below.refl _ _⟩

set_option maxRecDepth 100000 in
set_option maxHeartbeats 2000000 in
theorem heldSS (v : Value) (n : Nat) (q : Int) (w : World) (h : Reads w v (ss (mks n q))) (hl : n ≤ 1048577) (q0 : 1 ≤ q) (q1 : q ≤ 1048577) :
    Calls Tryd.prog 21 #[v, .int .i64 q] w fun e w' => e = .returned (.int .i64 (q + n)) ∧ Below w.heap.size w w' := by
  have hlen := h.len (P := Tryd.prog) 30 3 ⟨_, sliceW⟩
  simp only [length_ss, length_mks] at hlen
  go_enter Tryd.func21, Tryd.ntmps21
  go_wp2_with fail
  go_loopw [1, 5] (fun q' i wr => ∃ k : Nat, k ≤ n ∧ i = .int .i64 k ∧ q' = .int .i64 (q + k) ∧ Below w.heap.size w wr) (fun _ i _ => n - (intOf i).toNat)
  case atStart =>
    exact ⟨0, by omega, rfl, by simp, Below.refl _ _⟩
  case round =>
    obtain ⟨k, hk, rfl, rfl, hb⟩ := hrel
    by_cases hlt : k < n
    · have hi := h.idx (P := Tryd.prog) 30 sliceW sizeW .i64 (k : Int) (by omega) (by rw [length_ss, length_mks]; omega)
      simp only [Int.toNat_natCast] at hi
      have hK : ∀ ws, Below wr.heap.size wr ws → ws.cell? (adr v k) = some (.string ⟨(mkt (q + (k : Int)).toNat).toArray⟩) := fun ws hbs => by
        have := (h.below (hb.trans (hbs.mono hb.size))).cell k _ (ss_at (by rw [length_mks]; exact hlt))
        rw [lat_mks hlt] at this
        exact this
      have hC := fun w => markTi (q + (k : Int)) w (by omega) (by omega)
      generalize (⟨(mkt (q + (k : Int)).toNat).toArray⟩ : ByteArray) = P at *
      replace hC := hid hC
      replace hK := hid hK
      replace hb := hid hb
      go_wp2_with fail
      go_region_held3 (fun ws => Below wr.heap.size wr ws ∧ ws.cell? (adr v k) = some (.string P)) (first | exact ⟨(Below.refl _ _).drew, hK.out _ (Below.refl _ _).drew⟩ | exact ⟨hbT, hK.out _ hbT⟩) ((first | (go_at_call 57; refine (hC.out _).mono ?_; rintro e wz ⟨rfl, hsz⟩; have hbT := (Below.refl wr.heap.size wr).drew.trans (hsz.mono (by simp)))))
      go_wp2_with fail
      go_roundw
      case rel => exact ⟨k + 1, by omega, by go_num, by go_num, hb.out.trans (Below.mono (by assumption) hb.out.size)⟩
      case measure => simp [intOf] <;> omega
    · obtain rfl : k = n := by omega
      replace hb := hid hb
      go_wp2_with fail
      go_ret
      exact ⟨rfl, hb.out⟩

/-- the cell of a variable of the library that strings.Split reads -/
def Mx (w : World) : Prop := ∃ m : Int, w.cell? ⟨3, 0, none⟩ = some (.int .i64 m)
theorem mx_of {w : World} (h : w.ShapedOpen Tryd.prog) : Mx w := Tryd.laysM146.s1_3 w h
theorem Mx.below {w w' : World} (h : Mx w) (hb : Below w.heap.size w w') : Mx w' := by
  obtain ⟨m, hm⟩ := h
  have hlt : 3 < w.heap.size := by
    rcases Nat.lt_or_ge 3 w.heap.size with h' | h'
    · exact h'
    · simp [World.cell?, Array.getElem?_eq_none h'] at hm
  exact ⟨m, by rw [hb.cell hlt]; exact hm⟩


end Go.Proofs.YtkgdbobhppmaiaaDoor
