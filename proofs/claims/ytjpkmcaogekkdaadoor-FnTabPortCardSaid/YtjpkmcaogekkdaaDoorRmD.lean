/- Marks of numbers in the law, walked. -/
import Derived.Test.YtjpkmcaogekkdaaDoorRmC
import Derived.Laws.BytesArg
namespace Go.Proofs.YtjpkmcaogekkdaaDoor.Rm
open Go.RowKit
set_option linter.unusedVariables false
set_option linter.unusedSimpArgs false

/-- the digits of n, none at nought -/
def dig (n : Nat) : List UInt8 := if h : n = 0 then [] else dig (n / 10) ++ [UInt8.ofNat (48 + n % 10)]
termination_by n
decreasing_by omega

theorem dig_step {n : Nat} (h : 0 < n) : dig n = dig (n / 10) ++ [UInt8.ofNat (48 + n % 10)] := by
  rw [dig, dif_neg (by omega)]
theorem dig_zero : dig 0 = [] := by rw [dig, dif_pos rfl]
theorem dig_len (n : Nat) : (dig n).length ≤ n := by
  induction n using Nat.strongRecOn with
  | ind n ih =>
    by_cases h : n = 0
    · subst h; rw [dig_zero]; simp
    · rw [dig_step (by omega)]
      have := ih (n / 10) (by omega)
      simp; omega

/-- the text of a mark -/
def mt (n : Nat) : ByteArray := ⟨(109 :: dig n).toArray⟩
theorem mt_size (n : Nat) : (mt n).size ≤ n + 1 := by
  have := dig_len n
  show (109 :: dig n).toArray.size ≤ _
  simp; omega

theorem conv_one (w : World) (x : Int) : (convert 44 9 (.slice (some ⟨w.heap.size, 0, none⟩) 1 1)).run Tryd.prog (w.alloc (.cells #[.int .u8 x] 5)) = .ok (.string (strOfNums [x])) (w.alloc (.cells #[.int .u8 x] 5)) :=
  run_convert_bytes_arg _ 44 5 Tryd.underlying44 Tryd.underlying5 w.heap.size 0 1 1 [x] rfl (fun i hi => by
    obtain rfl : i = 0 := by omega
    rw [Nat.zero_add, (Blk.new w _ _).cell]
    rfl) 9 Tryd.underlying9

theorem dig_round (m : Nat) (o : ByteArray) (h : 0 < m) : dig (m / 10) ++ (strOfNums [48 + (m : Int) % 10] ++ o).data.toList = dig m ++ o.data.toList := by
  rw [dig_step h, List.append_assoc]
  congr 1

set_option maxRecDepth 100000 in
theorem markText_any (n : Nat) (w : World) (h0 : 0 < n) (h1 : n ≤ 100000000000000) :
    Calls Tryd.prog 57 #[.int .i64 n] w fun e w' => e = .returned (.string (mt n)) ∧ Below w.heap.size w w' := by
  go_enter Tryd.func57, Tryd.ntmps57
  go_wp2
  go_loopw [0, 3] (fun x s wr => ∃ (m : Nat) (o : ByteArray), x = .int .i64 m ∧ s = .string o ∧ m ≤ n ∧ o.size ≤ n ∧ Below w.heap.size w wr ∧ Hid (dig m ++ o.data.toList = dig n)) (fun x s wr => (intOf x).toNat)
  case atStart => exact ⟨n, ⟨#[]⟩, rfl, rfl, Nat.le_refl _, Nat.zero_le _, Below.refl _ _, by simp [Hid]⟩
  case round =>
    obtain ⟨m, o, rfl, rfl, hm, hos, hbel, hd⟩ := hrel
    by_cases hlt : 0 < m
    · have hm0 : (0 : Int) < m := by omega
      have HCV := conv_one wr (48 + (m : Int) % 10)
      have hsz1 : (strOfNums [48 + (m : Int) % 10]).size = 1 := strOfNums_size _
      have hR := dig_round m o hlt
      go_wp2
      have hd' : dig (m / 10) ++ (strOfNums [48 + (m : Int) % 10] ++ o).data.toList = dig n := hR.trans hd.out
      refine ⟨⟨m / 10, _, by go_num, rfl, by omega, ?_, hbel.trans ((below1 _ _).mono hbel.size), hd'⟩, by simp [intOf]; omega⟩
      have h2 := congrArg List.length hd'
      have h3 := dig_len n
      simp only [List.length_append] at h2
      have h4 : (strOfNums [48 + (m : Int) % 10] ++ o).data.toList.length = (strOfNums [48 + (m : Int) % 10] ++ o).size := rfl
      omega
    · obtain rfl : m = 0 := by omega
      have hd2 := hd.out
      rw [dig_zero, List.nil_append] at hd2
      go_wp2
      go_ret
      refine ⟨?_, hbel⟩
      have : (⟨#[109]⟩ ++ o : ByteArray) = mt n := by
        unfold mt
        rw [← hd2]
        ext1
        simp
      rw [this]
      rfl

/-- n marks from k on -/
def marks (k n : Nat) : List Int := (List.range n).map fun i => ((k + i : Nat) : Int)
theorem marks_len (k n : Nat) : (marks k n).length = n := by simp [marks]
theorem marks_at (k n i : Nat) (h : i < n) : (marks k n)[i]? = some ((k + i : Nat) : Int) := by simp [marks, h]
theorem marks_some {k n i : Nat} {x : Int} (h : (marks k n)[i]? = some x) : i < n ∧ x = ((k + i : Nat) : Int) := by
  have hi : i < n := by have := (List.getElem?_eq_some_iff.1 h).1; rwa [marks_len] at this
  rw [marks_at k n i hi] at h
  exact ⟨hi, (Option.some.inj h).symm⟩

/-- Only block g is written, none is new. -/
def Only (g : Nat) (w w' : World) : Prop := Below g w w' ∧ w'.heap.size = w.heap.size ∧ ∀ b, b ≠ g → w'.heap[b]? = w.heap[b]?
theorem Only.refl (g : Nat) (w : World) : Only g w w := ⟨Below.refl _ _, rfl, fun b h => rfl⟩
theorem Only.set {g : Nat} {w w' : World} (h : Only g w w') (o : Nat) (v : Value) : Only g w (w'.setCell ⟨g, o, none⟩ v) :=
  ⟨h.1.setCell (by simp) _, by rw [World.size_setCell]; exact h.2.1, fun b hb => (Below.heap_setCell _ _ _ _ hb).trans (h.2.2 b hb)⟩

theorem markInts_any (w : World) (g n cap k : Nat) (C : Array Value) (hB : Blk w g C 3) (hn : n ≤ C.size) (hsz : n * 8 ≤ 140737488351232) (hk : k + n ≤ 100000000000000) :
    Calls Tryd.prog 41 #[.slice (some ⟨g, 0, none⟩) n cap, .int .i64 k] w fun e w' => e = .returned (.int .i64 (k + n : Nat)) ∧ Only g w w' ∧ ∃ C', Blk w' g C' 3 ∧ Hid (C'.size = C.size ∧ ∀ i, i < n → C'[i]? = some (.int .i64 (k + i : Nat))) := by
  go_enter Tryd.func41, Tryd.ntmps41
  go_wp2
  go_loopw [1, 5] (fun x i wr => ∃ j : Nat, j ≤ n ∧ x = .int .i64 (k + j : Nat) ∧ i = .int .i64 j ∧ Only g w wr ∧ ∃ C', Blk wr g C' 3 ∧ Hid (C'.size = C.size ∧ ∀ i, i < j → C'[i]? = some (.int .i64 (k + i : Nat)))) (fun x i wr => n - (intOf i).toNat)
  case atStart => exact ⟨0, by omega, by simp, rfl, Only.refl _ _, C, hB, rfl, fun i hi => by omega⟩
  case round =>
    obtain ⟨j, hj, rfl, rfl, hO, D, hD, hC⟩ := hrel
    by_cases hlt : j < n
    · obtain ⟨old, ho⟩ := getAt (C := D) (i := j) (by rw [hC.out.1]; omega)
      have c0 := hD.cell0 ho
      have f0 := hD.free j
      clear ho
      have hj0 : (0 : Int) ≤ j := by omega
      have hkj : ((k + j : Nat) : Int) < 100000000000000 := by omega
      go_wp2
      refine ⟨⟨j + 1, by omega, by go_num, by go_num, hO.set _ _, _, hD.set j _, ?_, ?_⟩, by simp [intOf]; omega⟩
      · rw [Array.size_setIfInBounds]; exact hC.out.1
      · intro i hi
        by_cases h : i = j
        · subst h
          rw [Array.getElem?_setIfInBounds_self_of_lt (by rw [hC.out.1]; omega)]
          push_cast
          rfl
        · rw [Array.getElem?_setIfInBounds_ne (by omega)]
          exact hC.out.2 i (by omega)
    · obtain rfl : j = n := by omega
      go_wp2
      go_ret
      exact ⟨rfl, hO, D, hD, hC⟩

theorem markInts_nil (w : World) (a : Option Addr) (cap k : Nat) (hk : k ≤ 100000000000000) :
    Calls Tryd.prog 41 #[.slice a 0 cap, .int .i64 k] w fun e w' => e = .returned (.int .i64 k) ∧ w = w' := by
  go_enter Tryd.func41, Tryd.ntmps41
  go_wp2
  go_loopw [1, 5] (fun x i wr => x = .int .i64 k ∧ i = .int .i64 0 ∧ wr = w) (fun x i wr => 0)
  case atStart => exact ⟨rfl, rfl, rfl⟩
  case round =>
    obtain ⟨rfl, rfl, rfl⟩ := hrel
    go_wp2
    go_ret
    exact ⟨rfl, rfl⟩

/-- how many marks these nodes take -/
def tot (ns : List Nd) : Nat := (ns.map fun d => 2 + d.kids.length).sum
def kAt (k : Nat) (ns : List Nd) (i : Nat) : Nat := k + tot (ns.take i)
theorem kAt_zero (k : Nat) (ns : List Nd) : kAt k ns 0 = k := by simp [kAt, tot]
theorem kAt_succ (k : Nat) (ns : List Nd) (i : Nat) (d : Nd) (h : ns[i]? = some d) : kAt k ns (i + 1) = kAt k ns i + 2 + d.kids.length := by
  unfold kAt tot
  rw [take_snoc' ns i d h]
  simp
  omega
theorem kAt_le (k : Nat) (ns : List Nd) (i : Nat) : kAt k ns i ≤ k + tot ns := by
  have h : tot ns = tot (ns.take i) + tot (ns.drop i) := by
    unfold tot
    rw [← List.sum_append, ← List.map_append, List.take_append_drop]
  unfold kAt
  omega
theorem kAt_all (k : Nat) (ns : List Nd) (i : Nat) (h : ns.length ≤ i) : kAt k ns i = k + tot ns := by
  rw [kAt, List.take_of_length_le h]
def markNd (k : Nat) (d : Nd) : Nd := ⟨k, mt (k + 1), marks (k + 2) d.kids.length⟩
def markNds (k : Nat) (ns : List Nd) : List Nd := ns.mapIdx fun i d => markNd (kAt k ns i) d
theorem markNds_len (k : Nat) (ns : List Nd) : (markNds k ns).length = ns.length := by simp [markNds]
theorem markNds_at (k : Nat) (ns : List Nd) (i : Nat) (d : Nd) (h : ns[i]? = some d) : (markNds k ns)[i]? = some (markNd (kAt k ns i) d) := by
  simp [markNds, h]

/-- Node i is turned; the others stay. -/
theorem NodeCells.turn {w w' : World} {C C' : Array Value} {gs : List Nat} {ns : List Nd} (h : NodeCells w C gs ns) (hnd : gs.Nodup) {i g : Nat} (hg : gs[i]? = some g) {d' : Nd}
    (hw : ∀ x ∈ gs, x ≠ g → w'.heap[x]? = w.heap[x]?) (hc : ∀ j, j ≠ i * 3 → j ≠ i * 3 + 1 → C'[j]? = C[j]?) (ht : d'.text.size ≤ 140737488351232)
    (e1 : C'[i * 3]? = some (.int .i64 d'.sort)) (e2 : C'[i * 3 + 1]? = some (.string d'.text)) (hk : ∃ kv, C[i * 3 + 2]? = some kv ∧ OwnInts w' g kv d'.kids) : NodeCells w' C' gs (ns.set i d') := by
  refine ⟨by rw [List.length_set]; exact h.1, fun j d x h1 h2 => ?_⟩
  have hil : i < ns.length := by rw [← h.1]; exact (List.getElem?_eq_some_iff.1 hg).1
  by_cases hji : j = i
  · subst hji
    rw [hg] at h2
    cases h2
    rw [List.getElem?_set_self hil] at h1
    cases h1
    obtain ⟨kv, k1, k2⟩ := hk
    exact ⟨ht, e1, e2, kv, by rw [hc _ (by omega) (by omega)]; exact k1, k2⟩
  · rw [List.getElem?_set_ne (by omega)] at h1
    obtain ⟨a0, a1, a2, kv, a3, a4⟩ := h.2 j d x h1 h2
    have hxg : x ≠ g := by
      rintro rfl
      have hj := (List.getElem?_eq_some_iff.1 h2)
      have hi := (List.getElem?_eq_some_iff.1 hg)
      exact hji ((List.getElem_inj hnd).1 (hj.2.trans hi.2.symm))
    exact ⟨a0, by rw [hc _ (by omega) (by omega)]; exact a1, by rw [hc _ (by omega) (by omega)]; exact a2, kv, by rw [hc _ (by omega) (by omega)]; exact a3, a4.carry (hw x (List.mem_of_getElem? h2) hxg)⟩

theorem NodeCells.bound {w : World} {C : Array Value} {gs : List Nat} {ns : List Nd} (h : NodeCells w C gs ns) {i : Nat} (hi : i < ns.length) : i * 3 + 2 < C.size := by
  obtain ⟨_, _, _, kv, e, _⟩ := h.2 i ns[i] (gs[i]'(by rw [h.1]; exact hi)) (List.getElem?_eq_getElem hi) (List.getElem?_eq_getElem _)
  exact (Array.getElem?_eq_some_iff.1 e).1
end Go.Proofs.YtjpkmcaogekkdaaDoor.Rm
