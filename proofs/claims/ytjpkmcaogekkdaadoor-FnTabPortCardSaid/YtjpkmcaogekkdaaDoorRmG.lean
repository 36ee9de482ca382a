/- Small functions of the reference, walked. -/
import Derived.Test.YtjpkmcaogekkdaaDoorRmF
namespace Go.Proofs.YtjpkmcaogekkdaaDoor.Rm
open Go.RowKit
set_option linter.unusedVariables false
set_option linter.unusedSimpArgs false

/-- k is one of n places -/
def inR (n : Nat) (k : Int) : Bool := decide (0 ≤ k) && decide (k < n)

theorem l1In_any (k : Int) (n : Nat) (w : World) (hn : n ≤ 140737488351232) :
    Calls Tryd.prog 29 #[.int .i64 k, .int .i64 0, .int .i64 ((n : Int) - 1)] w fun e w' => e = .returned (.bool (inR n k)) ∧ w = w' := by
  by_cases h0 : 0 ≤ k
  · by_cases h1 : k < n
    · have : inR n k = true := by simp [inR, h0, h1]
      rw [this]
      have h2 : k ≤ (n : Int) - 1 := by omega
      clear this h1
      go_enter Tryd.func29, Tryd.ntmps29
      go_wp2
      go_ret
      exact ⟨rfl, rfl⟩
    · have : inR n k = false := by simp [inR, h0, h1]
      rw [this]
      have h2 : ¬ k ≤ (n : Int) - 1 := by omega
      clear this h1
      go_enter Tryd.func29, Tryd.ntmps29
      go_wp2
      go_ret
      exact ⟨rfl, rfl⟩
  · have : inR n k = false := by simp [inR, h0]
    rw [this]
    clear this
    go_enter Tryd.func29, Tryd.ntmps29
    go_wp2
    go_ret
    exact ⟨rfl, rfl⟩

/-- how many parts a node may have -/
def cntOk (s : Int) (n : Nat) : Bool := if s = 7 then decide (n = 2) else if s = 8 then decide (n ≤ 40) else decide (n = 0)
def kidsOk (n : Nat) (d : Nd) : Bool := cntOk d.sort d.kids.length && d.kids.all (inR n)

theorem kidsOk_no (s : Int) (t : ByteArray) (a : Option Addr) (m c n : Nat) (w : World) (h : cntOk s m = false) (hn : n ≤ 140737488351232) (hm : m * 8 ≤ 140737488351232) :
    Calls Tryd.prog 27 #[.agg #[.int .i64 s, .string t, .slice a m c], .int .i64 n] w fun e w' => e = .returned (.bool false) ∧ Below w.heap.size w w' := by
  by_cases h7 : s = 7
  · subst h7
    have h2 : ¬ m = 2 := by simpa [cntOk] using h
    go_enter Tryd.func27, Tryd.ntmps27
    go_wp2
    go_ret
    exact ⟨rfl, below1 _ _⟩
  · by_cases h8 : s = 8
    · subst h8
      have h2 : ¬ m ≤ 40 := by simpa [cntOk] using h
      have h3 : (40 : Int) < m := by omega
      go_enter Tryd.func27, Tryd.ntmps27
      go_wp2
      go_ret
      exact ⟨rfl, below1 _ _⟩
    · have h2 : ¬ m = 0 := by simpa [cntOk, h7, h8] using h
      have h3 : (0 : Int) < m := by omega
      go_enter Tryd.func27, Tryd.ntmps27
      go_wp2
      go_ret
      exact ⟨rfl, below1 _ _⟩

theorem kidsOk_7 (t : ByteArray) (b o c n : Nat) (xs : List Int) (w : World) (hn : n ≤ 140737488351232) (hxs : xs.length = 2) (hb : b < w.heap.size)
    (hx : ∀ i x, xs[i]? = some x → w.cell? ⟨b, o + i, none⟩ = some (.int .i64 x)) :
    Calls Tryd.prog 27 #[.agg #[.int .i64 7, .string t, .slice (some ⟨b, o, none⟩) 2 c], .int .i64 n] w fun e w' => e = .returned (.bool (xs.all (inR n))) ∧ Below w.heap.size w w' := by
  have HX := Lib.hid hx
  have HN := Lib.hid hxs
  have HIN := Lib.hid (fun k w => l1In_any k n w hn)
  have hn1 : (0 : Int) ≤ n := by omega
  clear hx hxs
  go_enter Tryd.func27, Tryd.ntmps27
  go_wp2
  go_loopw [5] (fun i wr => ∃ k : Nat, k ≤ 2 ∧ i = .int .i64 k ∧ Below w.heap.size w wr ∧ Blk wr w.heap.size #[.int .i64 7, .string t, .slice (some ⟨b, o, none⟩) 2 c] 58 ∧ Hid ((xs.take k).all (inR n) = true)) (fun i wr => 2 - (intOf i).toNat)
  case atStart => exact ⟨0, by omega, rfl, below1 _ _, Blk.new _ _ _, by simp [Hid]⟩
  case round =>
    obtain ⟨k, hk, rfl, hbel, hB, ha⟩ := hrel
    have c2 := hB.cell0 (o := 2) rfl
    by_cases hlt : k < 2
    · obtain ⟨x, hxk⟩ := getSome xs k (by rw [HN.out]; exact hlt)
      have cx := (hbel.cell (p := ⟨b, o + k, none⟩) hb).trans (HX.out k x hxk)
      have HK := Lib.hid hxk
      clear hxk
      have hk0 : (0 : Int) ≤ k := by omega
      cases hin : inR n x
      · go_wp2_with fail
        refine (HIN.out x _).mono ?_
        rw [hin]
        rintro e w1 ⟨rfl, rfl⟩
        go_wp2
        go_ret
        have hf : xs.all (inR n) = false := by
          rw [List.all_eq_false]
          exact ⟨x, List.mem_of_getElem? HK.out, by simp [hin]⟩
        rw [hf]
        exact ⟨rfl, hbel⟩
      · go_wp2_with fail
        refine (HIN.out x _).mono ?_
        rw [hin]
        rintro e w1 ⟨rfl, rfl⟩
        go_wp2
        refine ⟨⟨k + 1, by omega, by go_num, hbel, hB, ?_⟩, by simp [intOf]; omega⟩
        show _ = _
        rw [take_snoc' xs k x HK.out, List.all_append, ha.out]
        simp [hin]
    · go_wp2
      go_ret
      have e : xs.take k = xs := List.take_of_length_le (by rw [HN.out]; omega)
      rw [e] at ha
      rw [ha.out]
      exact ⟨rfl, hbel⟩

theorem kidsOk_8 (t : ByteArray) (b o m c n : Nat) (xs : List Int) (w : World) (h8 : m ≤ 40) (hn : n ≤ 140737488351232) (hxs : xs.length = m) (hb : b < w.heap.size)
    (hx : ∀ i x, xs[i]? = some x → w.cell? ⟨b, o + i, none⟩ = some (.int .i64 x)) :
    Calls Tryd.prog 27 #[.agg #[.int .i64 8, .string t, .slice (some ⟨b, o, none⟩) m c], .int .i64 n] w fun e w' => e = .returned (.bool (xs.all (inR n))) ∧ Below w.heap.size w w' := by
  have HX := Lib.hid hx
  have HN := Lib.hid hxs
  have HIN := Lib.hid (fun k w => l1In_any k n w hn)
  have hn1 : (0 : Int) ≤ n := by omega
  clear hx hxs
  go_enter Tryd.func27, Tryd.ntmps27
  go_wp2
  go_loopw [5] (fun i wr => ∃ k : Nat, k ≤ m ∧ i = .int .i64 k ∧ Below w.heap.size w wr ∧ Blk wr w.heap.size #[.int .i64 8, .string t, .slice (some ⟨b, o, none⟩) m c] 58 ∧ Hid ((xs.take k).all (inR n) = true)) (fun i wr => m - (intOf i).toNat)
  case atStart => exact ⟨0, by omega, rfl, below1 _ _, Blk.new _ _ _, by simp [Hid]⟩
  case round =>
    obtain ⟨k, hk, rfl, hbel, hB, ha⟩ := hrel
    have c2 := hB.cell0 (o := 2) rfl
    by_cases hlt : k < m
    · obtain ⟨x, hxk⟩ := getSome xs k (by rw [HN.out]; exact hlt)
      have cx := (hbel.cell (p := ⟨b, o + k, none⟩) hb).trans (HX.out k x hxk)
      have HK := Lib.hid hxk
      clear hxk
      have hk0 : (0 : Int) ≤ k := by omega
      cases hin : inR n x
      · go_wp2_with fail
        refine (HIN.out x _).mono ?_
        rw [hin]
        rintro e w1 ⟨rfl, rfl⟩
        go_wp2
        go_ret
        have hf : xs.all (inR n) = false := by
          rw [List.all_eq_false]
          exact ⟨x, List.mem_of_getElem? HK.out, by simp [hin]⟩
        rw [hf]
        exact ⟨rfl, hbel⟩
      · go_wp2_with fail
        refine (HIN.out x _).mono ?_
        rw [hin]
        rintro e w1 ⟨rfl, rfl⟩
        go_wp2
        refine ⟨⟨k + 1, by omega, by go_num, hbel, hB, ?_⟩, by simp [intOf]; omega⟩
        show _ = _
        rw [take_snoc' xs k x HK.out, List.all_append, ha.out]
        simp [hin]
    · go_wp2
      go_ret
      have e : xs.take k = xs := List.take_of_length_le (by rw [HN.out]; omega)
      rw [e] at ha
      rw [ha.out]
      exact ⟨rfl, hbel⟩

theorem kidsOk_nil (s : Int) (t : ByteArray) (a : Option Addr) (c n : Nat) (w : World) (h : cntOk s 0 = true) (hn : n ≤ 140737488351232) :
    Calls Tryd.prog 27 #[.agg #[.int .i64 s, .string t, .slice a 0 c], .int .i64 n] w fun e w' => e = .returned (.bool true) ∧ Below w.heap.size w w' := by
  have hn1 : (0 : Int) ≤ n := by omega
  have h7 : ¬ s = 7 := by rintro rfl; simp [cntOk] at h
  clear h
  by_cases h8 : s = 8
  · subst h8
    go_enter Tryd.func27, Tryd.ntmps27
    go_wp2
    go_loopw [5] (fun i wr => i = .int .i64 0 ∧ Below w.heap.size w wr ∧ Blk wr w.heap.size #[.int .i64 8, .string t, .slice a 0 c] 58) (fun i wr => 0)
    case atStart => exact ⟨rfl, below1 _ _, Blk.new _ _ _⟩
    case round =>
      obtain ⟨rfl, hbel, hB⟩ := hrel
      have c2 := hB.cell0 (o := 2) rfl
      go_wp2
      go_ret
      exact ⟨rfl, hbel⟩
  · go_enter Tryd.func27, Tryd.ntmps27
    go_wp2
    go_loopw [5] (fun i wr => i = .int .i64 0 ∧ Below w.heap.size w wr ∧ Blk wr w.heap.size #[.int .i64 s, .string t, .slice a 0 c] 58) (fun i wr => 0)
    case atStart => exact ⟨rfl, below1 _ _, Blk.new _ _ _⟩
    case round =>
      obtain ⟨rfl, hbel, hB⟩ := hrel
      have c2 := hB.cell0 (o := 2) rfl
      go_wp2
      go_ret
      exact ⟨rfl, hbel⟩

theorem kidsOk_any (w : World) (P : Nat → Prop) (s : Int) (t : ByteArray) (kv : Value) (ks : List Int) (n : Nat) (hv : Ints w P kv ks) (hP : ∀ b, P b → b < w.heap.size) (hn : n ≤ 140737488351232) :
    Calls Tryd.prog 27 #[.agg #[.int .i64 s, .string t, kv], .int .i64 n] w fun e w' => e = .returned (.bool (kidsOk n ⟨s, t, ks⟩)) ∧ Below w.heap.size w w' := by
  unfold kidsOk
  cases h : cntOk s ks.length
  · obtain ⟨a, c, rfl⟩ := hv.shape
    exact kidsOk_no s t a _ c n w h hn hv.1
  · rw [Bool.true_and]
    obtain ⟨h0, ⟨b, o, c, rfl, hb, hc⟩ | ⟨rfl, a, c, rfl⟩⟩ := hv
    · unfold cntOk at h
      by_cases h7 : s = 7
      · rw [if_pos h7] at h
        have := of_decide_eq_true h
        rw [this, h7]
        exact kidsOk_7 t b o c n ks w hn this (hP b hb) hc
      · rw [if_neg h7] at h
        by_cases h8 : s = 8
        · rw [if_pos h8] at h
          rw [h8]
          exact kidsOk_8 t b o _ c n ks w (of_decide_eq_true h) hn rfl (hP b hb) hc
        · rw [if_neg h8] at h
          have h0 := of_decide_eq_true h
          have := List.length_eq_zero_iff.1 h0
          subst this
          exact kidsOk_nil s t _ c n w (by simp [cntOk, h7, h8]) hn
    · exact kidsOk_nil s t a c n w h hn

theorem idxOf_le {α : Type} [DecidableEq α] : ∀ (xs : List α) (k : Nat) (h : k < xs.length), xs.idxOf xs[k] ≤ k
  | [], k, h => by simp at h
  | x :: xs, 0, h => by simp
  | x :: xs, k + 1, h => by
    rw [List.idxOf_cons]
    have := idxOf_le xs k (by simpa using h)
    simp only [List.getElem_cons_succ]
    cases h2 : (x == xs[k]'(by simpa using h)) <;> simp <;> omega

/-- l14Place: where g stands, -1 where it does not. -/
theorem place_go (w : World) (b o n c : Nat) (xs : List Int) (g : Int) (hn : xs.length = n) (hsz : n * 8 ≤ 140737488351232) (hg : g ∈ xs)
    (hx : ∀ i x, xs[i]? = some x → w.cell? ⟨b, o + i, none⟩ = some (.int .i64 x)) :
    Calls Tryd.prog 31 #[.slice (some ⟨b, o, none⟩) n c, .int .i64 g] w fun e w' => e = .returned (.int .i64 (xs.idxOf g : Nat)) ∧ w = w' := by
  have HX := Lib.hid hx
  have HN := Lib.hid hn
  have HG := Lib.hid hg
  clear hx hn hg
  go_enter Tryd.func31, Tryd.ntmps31
  go_wp2
  go_loopw [5] (fun i wr => ∃ k : Nat, k ≤ n ∧ i = .int .i64 k ∧ wr = w ∧ Hid (k ≤ xs.idxOf g)) (fun i wr => n - (intOf i).toNat)
  case atStart => exact ⟨0, by omega, rfl, rfl, Nat.zero_le _⟩
  case round =>
    obtain ⟨k, hk, rfl, rfl, ha⟩ := hrel
    have hlt : k < n := by
      have := ha.out
      have h2 := List.idxOf_lt_length_of_mem HG.out
      rw [HN.out] at h2
      omega
    obtain ⟨x, hxk⟩ := getSome xs k (by rw [HN.out]; exact hlt)
    have cx := HX.out k x hxk
    have HK := Lib.hid hxk
    clear hxk
    have hk0 : (0 : Int) ≤ k := by omega
    by_cases he : x = g
    · go_wp2
      go_ret
      have : xs.idxOf g = k := by
        have h1 := ha.out
        obtain ⟨hl, h2⟩ := List.getElem?_eq_some_iff.1 HK.out
        have h3 : xs.idxOf g ≤ k := by
          subst he
          rw [← h2]
          exact idxOf_le xs k hl
        omega
      rw [this]
      exact ⟨rfl, rfl⟩
    · go_wp2
      refine ⟨⟨k + 1, by omega, by go_num, by trivial, ?_⟩, by simp [intOf]; omega⟩
      show _ ≤ _
      rcases Nat.lt_or_ge k (xs.idxOf g) with h3 | h3
      · exact h3
      · exfalso
        have h1 := ha.out
        have h4 : xs.idxOf g = k := by omega
        obtain ⟨hl, h2⟩ := List.getElem?_eq_some_iff.1 HK.out
        have h5 := List.getElem_idxOf (x := g) (xs := xs) (by rw [h4]; exact hl)
        simp only [h4] at h5
        exact he (h2.symm.trans h5)
end Go.Proofs.YtjpkmcaogekkdaaDoor.Rm
