/- SplitWords of the program: the contract. -/
import Derived.Test.YtkgdbobhppmaiaaDoorSpl
import Derived.Test.YtkgdbobhppmaiaaDoorShelf
import Derived.Lib.SplitLaws
import Derived.Sort.OwnSorted
namespace Go.Proofs.YtkgdbobhppmaiaaDoor
open Go.RowKit Go.Sort Go.Lib

theorem blank_cl (x : ByteArray) (w : World) : Calls Tryd.prog 56 #[.string x] w fun e w' => e = .returned (.bool x.toList.isEmpty) ∧ w' = w := by
  go_enter Tryd.func56, Tryd.ntmps56
  go_wp2_with fail
  go_ret
  exact ⟨rfl, rfl⟩
theorem blank_gives (x : ByteArray) (W : World) : FnGives Tryd.prog 56 #[] #[.string x] (.bool x.toList.isEmpty) W :=
  (blank_cl x W).mono fun _ _ ⟨h, h'⟩ => ⟨h, 0, by rw [h']; rfl⟩

/-- pieces as parts -/
theorem pieces (s : ByteArray) : ((splitB ⟨#[32]⟩ 0 (countB s ⟨#[32]⟩) s).map (·.data.toList)) = parts s.data.toList := by
  rw [splitB_data, show countB s ⟨#[32]⟩ = count s.data.toList [32] from rfl]
  exact split_parts _
theorem bytes_back (L : List ByteArray) : L.map Value.string = ss (L.map (·.data.toList)) := by
  unfold ss
  rw [List.map_map]
  apply List.map_congr_left
  intro x _
  rfl

theorem heap_put {w : World} {g n : Nat} {cur : Array Value} {e : TypeId} {fr : Nat × Nat} (d : Array ByteArray) (hb : w.heap[g]? = some (.cells cur e fr)) :
    (putRow Value.string (Sort.ahead w n) g 0 d).heap[g]? = some (.cells (putCells Value.string 0 d cur) e fr) := by
  simp [putRow, mapBlock, Sort.ahead, Array.getElem?_modify, hb, onCells]
theorem below_put {w : World} {g n B : Nat} (d : Array ByteArray) (hB : B ≤ g) : Below B w (putRow Value.string (Sort.ahead w n) g 0 d) := by
  refine ⟨rfl, rfl, rfl, by simp [putRow, mapBlock, Sort.ahead], fun k hk => ?_⟩
  have : g ≠ k := by omega
  simp [putRow, mapBlock, Sort.ahead, Array.getElem?_modify, this]
theorem take_put (cur : Array Value) (ts us : List ByteArray) (h : ts.length ≤ cur.size) : (putCells Value.string 0 (ts ++ us).toArray cur).toList.take ts.length = ts.map Value.string := by
  apply List.ext_getElem?
  intro j
  by_cases hj : j < ts.length
  · rw [List.getElem?_take_of_lt hj, Array.getElem?_toList]
    simp [putCells, hj, show j < cur.size by omega, show j < ts.length + us.length by omega]
  · rw [List.getElem?_take_eq_none (by omega), List.getElem?_eq_none (by simp; omega)]
theorem own_put {w : World} {g n B : Nat} {cur : Array Value} {e : TypeId} (ts us : List ByteArray) (hb : w.heap[g]? = some (.cells cur e (0, 0))) (hB : B ≤ g) (h : ts.length ≤ cur.size) (hc : cur.size ≤ 9223372036854775807) :
    Own (putRow Value.string (Sort.ahead w n) g 0 (ts ++ us).toArray) B e (.slice (some ⟨g, 0, none⟩) ts.length cur.size) (ts.map Value.string) :=
  .inr ⟨g, 0, cur.size, _, by rw [List.length_map], hB, heap_put _ hb, by rw [List.length_map]; exact h, hc, by simp [putCells], by rw [List.drop_zero, List.length_map]; exact take_put cur ts us h⟩

theorem words_back (L : List ByteArray) (l : List UInt8) (h : L.map (·.data.toList) = parts l) : (L.filter fun x => !x.toList.isEmpty).map Value.string = ss (wordsOf l) := by
  rw [bytes_back]
  congr 1
  unfold wordsOf
  rw [← h, List.filter_map]
  congr 1
  apply List.filter_congr
  intro x _
  simp [ByteArray.toList_eq]

theorem new_block (w : World) (cs : Array Value) (e : TypeId) : (w.alloc (.cells cs e)).heap[w.heap.size]? = some (.cells cs e (0, 0)) := by
  show (w.heap.push _)[w.heap.size]? = _
  rw [Array.getElem?_push_size]
theorem hold_new (w : World) (L : List ByteArray) (e : TypeId) : Holds Value.string (w.alloc (.cells (L.map Value.string).toArray e)) w.heap.size 0 L.toArray := by
  intro j hj
  have hj' : j < L.length := by simpa using hj
  rw [Nat.zero_add]
  refine ⟨?_, World.frozen?_alloc_new ..⟩
  rw [World.cell?_alloc_new]
  simp [hj']
theorem enters_cl (args : Array Value) (w : World) : (callFunc 56 args).run Tryd.prog w = .ok (.enter 56 args) w := enters_of Tryd.func56 (by kernel_rfl) rfl args w
theorem zero_str (w : World) : (zeroValue 9).run Tryd.prog w = .ok (Value.string ByteArray.empty) w := by kernel_rfl

theorem del_words (L : List ByteArray) (w : World) (hL : L.length ≤ 1048577) :
    Calls Tryd.prog 54 #[.slice (some ⟨w.heap.size, 0, none⟩) L.length L.length, .func (.func 56) #[] #[]] (w.alloc (.cells (L.map Value.string).toArray 9)) fun e w' =>
      ∃ v, e = .returned v ∧ Own w' w.heap.size 9 v ((L.filter fun x => !x.toList.isEmpty).map Value.string) ∧ Below w.heap.size w w' := by
  have hA := (Below.refl w.heap.size w).alloc (Nat.le_refl _) (.cells (L.map Value.string).toArray 9)
  have hz : L.toArray.size = L.length := List.size_toArray
  have hH := hold_new w L 9
  have hblk := new_block w (L.map Value.string).toArray 9
  generalize w.alloc (.cells (L.map Value.string).toArray 9) = w1 at *
  have hD := Tryd.slices_DeleteFunc Value.string (fun _ => rfl) (fun x => x.toList.isEmpty) 56 #[] enters_cl ByteArray.empty zero_str w.heap.size 0 L.length L.toArray w1 (fun W x _ => blank_gives x W) (fun _ _ _ x _ => blank_gives x _) hH (by omega) (by omega)
  rw [hz] at hD
  refine hD.mono ?_
  rintro e w2 ⟨rfl, q, rfl⟩
  have hfl : (L.filter fun x => !x.toList.isEmpty).length ≤ L.length := List.length_filter_le _ _
  have hcs : (L.map Value.string).toArray.size = L.length := by rw [List.size_toArray, List.length_map]
  have ho := own_put (n := q) (L.filter fun x => !x.toList.isEmpty) (List.replicate (L.length - (L.filter fun x => !x.toList.isEmpty).length) ByteArray.empty) hblk (Nat.le_refl _) (by omega) (by omega)
  rw [hcs] at ho
  exact ⟨_, rfl, ho, hA.trans (below_put _ (Nat.le_refl _))⟩

set_option maxRecDepth 100000 in
set_option maxHeartbeats 1000000 in
theorem SplitWordsI (s : ByteArray) (m : Int) (w : World) (hm : w.cell? ⟨3, 0, none⟩ = some (.int .i64 m)) (hs : s.size ≤ 1048576) :
    Calls Tryd.prog 18 #[.string s] w fun e w' => ∃ v, e = .returned v ∧ Own w' w.heap.size 9 v (ss (wordsOf s.data.toList)) ∧ Below w.heap.size w w' := by
  have hp := pieces s
  have hlen : (splitB ⟨#[32]⟩ 0 (countB s ⟨#[32]⟩) s).length = countB s ⟨#[32]⟩ + 1 := splitB_all ⟨#[32]⟩ (by decide) 0 _ s rfl
  have hpl := parts_len s.data.toList
  have hln : s.data.toList.length = s.size := rfl
  rw [← hp, List.length_map, hlen] at hpl
  have hwb := words_back _ _ hp
  have hC := hid (Tryd.strings_Split s ⟨#[32]⟩ m w (by omega) hm (by decide))
  rw [← hlen] at hC
  generalize splitB ⟨#[32]⟩ 0 (countB s ⟨#[32]⟩) s = L at *
  have hD := hid (del_words L w (by omega))
  rw [← hwb]
  clear hwb hp hlen hpl hln hm
  go_enter Tryd.func18, Tryd.ntmps18
  go_wp2_with (go_at_call 55; refine hC.out.mono ?_; rintro e w2 ⟨rfl, rfl⟩)
  go_wp2_with (go_at_call 54; refine hD.out.mono ?_; rintro e w2 ⟨v, rfl, ho, hb⟩)
  go_ret
  exact ⟨_, rfl, ho, hb⟩


end Go.Proofs.YtkgdbobhppmaiaaDoor
