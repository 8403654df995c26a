/- Texts of braids: contracts. -/
import Derived.Test.YtkgdbobhppmaiaaDoorLd1
import Derived.Test.YtkgdbobhppmaiaaDoorBrb
import Derived.Test.YtkgdbobhppmaiaaDoorBx
import Derived.Lib.ItoaLen
namespace Go.Proofs.YtkgdbobhppmaiaaDoor
open Go.RowKit
open Go.Lib (itoa)

/-- the text of a braid, up to k letters -/
def btTo (n : Int) (l : List Int) : Nat → List UInt8
  | 0 => itoa n ++ [58]
  | k + 1 => btTo n l k ++ ([32] ++ itoa (nth l k))
def btF (n : Int) (l : List Int) : List UInt8 := if okB n l = true then btTo n l l.length else []
theorem itoa_short {n : Int} (h0 : -12 ≤ n) (h1 : n ≤ 12) : (itoa n).length ≤ 21 := Lib.itoa_length_le n (by omega) (by omega)
theorem btTo_len {n : Int} {l : List Int} (h0 : 0 ≤ n) (h1 : n ≤ 12) (hl : ∀ k, k < l.length → -12 ≤ nth l k ∧ nth l k ≤ 12) {k : Nat} (hk : k ≤ l.length) : (btTo n l k).length ≤ 22 + 22 * k := by
  induction k with
  | zero => have := itoa_short (n := n) (by omega) h1; unfold btTo; simp; omega
  | succ k ih =>
    have h2 := hl k (by omega)
    have h3 := itoa_short h2.1 h2.2
    have := ih (by omega)
    unfold btTo; simp; omega
theorem ba_size (l : List UInt8) : (⟨l.toArray⟩ : ByteArray).size = l.length := by simp [ByteArray.size]


set_option maxRecDepth 100000 in
set_option maxHeartbeats 4000000 in
theorem TxtI (n : Int) (v : Value) (l : List Int) (w : World) (h : Reads w v (ints l)) (hok : okB n l = true) (hT : Tb w) :
    Calls Tryd.prog 63 #[.agg #[.int .i64 n, v]] w fun e w' => e = .returned (.string ⟨(btTo n l l.length).toArray⟩) ∧ Below w.heap.size w w' := by
  have hlen := h.len (P := Tryd.prog) 35 3 ⟨_, sliceI⟩
  rw [length_ints] at hlen
  obtain ⟨hn0, hn12, hl40, hlt⟩ := okB_of hok
  have hlb := hid (show ∀ k, k < l.length → -12 ≤ nth l k ∧ nth l k ≤ 12 from fun k hk => by have := hlt k hk; omega)
  have hLb := hid (fun (k : Nat) (hk : k ≤ l.length) => btTo_len hn0 hn12 hlb.out hk)
  clear hlt hok
  have hX := Bx.new w #[.int .i64 n, v] 40
  have hb : Below w.heap.size w (w.alloc (.cells #[.int .i64 n, v] 40)) := (Below.refl _ _).alloc (Nat.le_refl _) _
  have c0 := hX.cell 0 rfl
  have c1 := hX.cell 1 rfl
  replace hX := hid hX
  replace hb := hid hb
  go_enter Tryd.func63, Tryd.ntmps63
  go_wp2_with fail
  refine (DecI n _ (by omega) (by omega) (hT.below hb.out)).mono ?_
  rintro e w1 ⟨rfl, hs⟩
  have hb1 := hid (hb.out.trans (hs.mono hb.out.size))
  have hX1 := hX.out.below hs
  clear c0 c1 hb hX hs
  have c1 := hX1.cell 1 rfl
  replace hX1 := hid hX1
  obtain ⟨D, hD, hDz⟩ : ∃ D : ByteArray, D = ⟨(itoa n).toArray⟩ ∧ D.size ≤ 21 := ⟨_, rfl, by rw [ba_size]; exact itoa_short (by omega) hn12⟩
  rw [← hD]
  have h58 : D ++ ⟨#[58]⟩ = (⟨(btTo n l 0).toArray⟩ : ByteArray) := by rw [hD]; exact str_app (itoa n) [58]
  replace hD := hid hD
  replace h58 := hid h58
  go_wp2_with fail
  rw [h58.out]
  go_loopw [3, 5, 13] (fun o _ i wr => ∃ (k : Nat), k ≤ l.length ∧ o = .string ⟨(btTo n l k).toArray⟩ ∧ i = .int .i64 (k : Int) ∧ Below w.heap.size w wr) (fun _ _ i _ => l.length - (intOf i).toNat)
  case atStart => exact ⟨0, Nat.zero_le _, rfl, rfl, hb1.out⟩
  case round =>
    clear hb1 hX1 c1 h58 hD hDz
    obtain ⟨k, hk, rfl, rfl, hb⟩ := hrel
    obtain ⟨S, hS, hSz⟩ : ∃ S : ByteArray, S = ⟨(btTo n l k).toArray⟩ ∧ S.size ≤ 1000 := ⟨_, rfl, by rw [ba_size]; have := hLb.out k hk; omega⟩
    rw [← hS]
    replace hS := hid hS
    by_cases hlt : k < l.length
    · have hi := h.idx (P := Tryd.prog) 35 sliceI sizeI .i64 (k : Int) (by omega) (by rw [length_ints]; omega)
      simp only [Int.toNat_natCast] at hi
      have hc := (h.below hb).cell k _ (ints_at hlt)
      have hx := hlb.out k hlt
      have hnx := hid (fun D : ByteArray => fun (hD : D = ⟨(itoa (nth l k)).toArray⟩) => (show S ++ ((⟨#[32]⟩ : ByteArray) ++ D) = ⟨(btTo n l (k + 1)).toArray⟩ by
        rw [hS.out, hD, show (⟨#[32]⟩ : ByteArray) = ⟨[32].toArray⟩ from rfl, str_app, str_app]; rfl))
      generalize nth l k = x at *
      replace hb := hid hb
      go_wp2_with fail
      refine (DecI x _ (by omega) (by omega) (hT.below hb.out)).mono ?_
      rintro e w2 ⟨rfl, hs⟩
      have hb2 := hid (hb.out.trans (hs.mono hb.out.size))
      obtain ⟨D, hD, hDz⟩ : ∃ D : ByteArray, D = ⟨(itoa x).toArray⟩ ∧ D.size ≤ 21 := ⟨_, rfl, by rw [ba_size]; exact itoa_short hx.1 hx.2⟩
      rw [← hD]
      have hfin := hid (hnx.out D hD)
      replace hD := hid hD
      clear hs hb hc hi hnx
      go_wp2_with fail
      rw [hfin.out]
      go_roundw
      case rel => exact ⟨k + 1, by omega, rfl, by go_num, hb2.out⟩
      case measure => simp [intOf] <;> omega
    · obtain rfl : k = l.length := by omega
      replace hb := hid hb
      go_wp2_with fail
      go_ret
      exact ⟨by rw [hS.out]; rfl, hb.out⟩


set_option maxRecDepth 100000 in
set_option maxHeartbeats 4000000 in
theorem TxtS (g : Nat) (n : Int) (v : Value) (l : List Int) (w : World) (hX : Bx w g [.int .i64 n, v]) (h : Reads w v (ints l)) (hok : okB n l = true) :
    Calls Tryd.prog 60 #[.pointer (some ⟨g, 0, none⟩)] w fun e w' => e = .returned (.string ⟨(btTo n l l.length).toArray⟩) ∧ Below w.heap.size w w' := by
  have hlen := h.len (P := Tryd.prog) 35 3 ⟨_, sliceI⟩
  rw [length_ints] at hlen
  obtain ⟨hn0, hn12, hl40, hlt⟩ := okB_of hok
  have hlb := hid (show ∀ k, k < l.length → -12 ≤ nth l k ∧ nth l k ≤ 12 from fun k hk => by have := hlt k hk; omega)
  have hLb := hid (fun (k : Nat) (hk : k ≤ l.length) => btTo_len hn0 hn12 hlb.out hk)
  clear hlt hok
  have c0 := hX.cell 0 rfl
  have hX0 := hid hX
  clear hX
  go_enter Tryd.func60, Tryd.ntmps60
  go_wp2_with fail
  refine (DecS n _ (by omega) (by omega)).mono ?_
  rintro e w1 ⟨rfl, hs⟩
  have hb1 := hid hs
  clear c0 hs
  obtain ⟨D, hD, hDz⟩ : ∃ D : ByteArray, D = ⟨(itoa n).toArray⟩ ∧ D.size ≤ 21 := ⟨_, rfl, by rw [ba_size]; exact itoa_short (by omega) hn12⟩
  rw [← hD]
  have h58 : D ++ ⟨#[58]⟩ = (⟨(btTo n l 0).toArray⟩ : ByteArray) := by rw [hD]; exact str_app (itoa n) [58]
  replace hD := hid hD
  replace h58 := hid h58
  go_wp2_with fail
  rw [h58.out]
  go_loopw [3, 4] (fun o i wr => ∃ (k : Nat), k ≤ l.length ∧ o = .string ⟨(btTo n l k).toArray⟩ ∧ i = .int .i64 (k : Int) ∧ Below w.heap.size w wr) (fun _ i _ => l.length - (intOf i).toNat)
  case atStart => exact ⟨0, Nat.zero_le _, rfl, rfl, hb1.out⟩
  case round =>
    clear hb1 h58 hD hDz
    obtain ⟨k, hk, rfl, rfl, hb⟩ := hrel
    have c1 := (hX0.out.below hb).cell 1 rfl
    obtain ⟨S, hS, hSz⟩ : ∃ S : ByteArray, S = ⟨(btTo n l k).toArray⟩ ∧ S.size ≤ 1000 := ⟨_, rfl, by rw [ba_size]; have := hLb.out k hk; omega⟩
    rw [← hS]
    replace hS := hid hS
    by_cases hlt : k < l.length
    · have hi := h.idx (P := Tryd.prog) 35 sliceI sizeI .i64 (k : Int) (by omega) (by rw [length_ints]; omega)
      simp only [Int.toNat_natCast] at hi
      have hc := (h.below hb).cell k _ (ints_at hlt)
      have hx := hlb.out k hlt
      have hnx := hid (fun D : ByteArray => fun (hD : D = ⟨(itoa (nth l k)).toArray⟩) => (show S ++ ((⟨#[32]⟩ : ByteArray) ++ D) = ⟨(btTo n l (k + 1)).toArray⟩ by
        rw [hS.out, hD, show (⟨#[32]⟩ : ByteArray) = ⟨[32].toArray⟩ from rfl, str_app, str_app]; rfl))
      generalize nth l k = x at *
      replace hb := hid hb
      go_wp2_with fail
      refine (DecS x _ (by omega) (by omega)).mono ?_
      rintro e w2 ⟨rfl, hs⟩
      have hb2 := hid (hb.out.trans (hs.mono hb.out.size))
      obtain ⟨D, hD, hDz⟩ : ∃ D : ByteArray, D = ⟨(itoa x).toArray⟩ ∧ D.size ≤ 21 := ⟨_, rfl, by rw [ba_size]; exact itoa_short hx.1 hx.2⟩
      rw [← hD]
      have hfin := hid (hnx.out D hD)
      replace hD := hid hD
      clear hs hb hc hi hnx c1
      go_wp2_with fail
      rw [hfin.out]
      go_roundw
      case rel => exact ⟨k + 1, by omega, rfl, by go_num, hb2.out⟩
      case measure => simp [intOf] <;> omega
    · obtain rfl : k = l.length := by omega
      replace hb := hid hb
      go_wp2_with fail
      go_ret
      exact ⟨by rw [hS.out]; rfl, hb.out⟩


set_option maxRecDepth 100000 in
set_option maxHeartbeats 4000000 in
theorem BraidTextI (n : Int) (v : Value) (l : List Int) (w : World) (h : Reads w v (ints l)) (hT : Tb w) :
    Calls Tryd.prog 25 #[.agg #[.int .i64 n, v]] w fun e w' => e = .returned (.string ⟨(btF n l).toArray⟩) ∧ Below w.heap.size w w' := by
  have hX := Bx.new w #[.int .i64 n, v] 40
  have hb : Below w.heap.size w (w.alloc (.cells #[.int .i64 n, v] 40)) := (Below.refl _ _).alloc (Nat.le_refl _) _
  have c0 := hX.cell 0 rfl
  have c1 := hX.cell 1 rfl
  replace hX := hid hX
  replace hb := hid hb
  go_enter Tryd.func25, Tryd.ntmps25
  go_wp2_with fail
  refine (vb_impl n v l _ (h.below hb.out)).mono ?_
  rintro e w1 ⟨rfl, hs⟩
  have hb1 := hid (hb.out.trans (hs.mono hb.out.size))
  have hX1 := hX.out.below hs
  clear c0 c1 hb hX hs
  have c0 := hX1.cell 0 rfl
  have c1 := hX1.cell 1 rfl
  cases e1 : okB n l with
  | false =>
    have hres := hid (show btF n l = [] by unfold btF; rw [e1]; rfl)
    replace hX1 := hid hX1
    clear e1
    go_wp2_with fail
    go_ret
    exact ⟨by rw [hres.out]; rfl, hb1.out⟩
  | true =>
    have hres := hid (show btF n l = btTo n l l.length by unfold btF; rw [e1]; rfl)
    have hC := hid (TxtI n v l w1 (h.below hb1.out) e1 (hT.below hb1.out))
    replace hX1 := hid hX1
    clear e1
    go_wp2_with fail
    refine hC.out.mono ?_
    rintro e w2 ⟨rfl, hs⟩
    have hb2 := hid (hb1.out.trans (hs.mono hb1.out.size))
    clear hs hb1 c0 c1 hX1 hC
    go_wp2_with fail
    go_ret
    exact ⟨by rw [hres.out]; rfl, hb2.out⟩


set_option maxRecDepth 100000 in
set_option maxHeartbeats 4000000 in
theorem BraidTextS (n : Int) (v : Value) (l : List Int) (w : World) (h : Reads w v (ints l)) :
    Calls Tryd.prog 23 #[.agg #[.int .i64 n, v]] w fun e w' => e = .returned (.string ⟨(btF n l).toArray⟩) ∧ Below w.heap.size w w' := by
  have hX := Bx.new w #[.int .i64 n, v] 40
  have hb : Below w.heap.size w (w.alloc (.cells #[.int .i64 n, v] 40)) := (Below.refl _ _).alloc (Nat.le_refl _) _
  have c0 := hX.cell 0 rfl
  have c1 := hX.cell 1 rfl
  replace hX := hid hX
  replace hb := hid hb
  go_enter Tryd.func23, Tryd.ntmps23
  go_wp2_with fail
  refine (bok_spec w.heap.size 0 n v l _ c0 c1 (h.below hb.out)).mono ?_
  rintro e w1 ⟨rfl, hs⟩
  have hb1 := hid (hb.out.trans (hs.mono hb.out.size))
  have hX1 := hX.out.below hs
  clear c0 c1 hb hX hs
  have c0 := hX1.cell 0 rfl
  have c1 := hX1.cell 1 rfl
  cases e1 : okB n l with
  | false =>
    have hres := hid (show btF n l = [] by unfold btF; rw [e1]; rfl)
    replace hX1 := hid hX1
    clear e1
    go_wp2_with fail
    go_ret
    exact ⟨by rw [hres.out]; rfl, hb1.out⟩
  | true =>
    have hres := hid (show btF n l = btTo n l l.length by unfold btF; rw [e1]; rfl)
    have hC := hid (TxtS w.heap.size n v l w1 hX1 (h.below hb1.out) e1)
    replace hX1 := hid hX1
    clear e1
    go_wp2_with fail
    refine hC.out.mono ?_
    rintro e w2 ⟨rfl, hs⟩
    have hb2 := hid (hb1.out.trans (hs.mono hb1.out.size))
    clear hs hb1 c0 c1 hX1 hC
    go_wp2_with fail
    go_ret
    exact ⟨by rw [hres.out]; rfl, hb2.out⟩


end Go.Proofs.YtkgdbobhppmaiaaDoor
