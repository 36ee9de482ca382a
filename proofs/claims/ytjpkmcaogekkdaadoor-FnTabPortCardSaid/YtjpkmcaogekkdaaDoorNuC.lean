/- Adding and taking away decimals in the reference, walked. -/
import Derived.Test.YtjpkmcaogekkdaaDoorNuB
import Derived.Laws.OwnMore
namespace Go.Proofs.YtjpkmcaogekkdaaDoor.Nu
open Go.RowKit Go.Proofs.YtjpkmcaogekkdaaDoor.Rm
set_option linter.unusedVariables false
set_option linter.unusedSimpArgs false

theorem OwnRow.fresh (w : World) {lo : Nat} (h : lo ≤ w.heap.size) : OwnRow (w.alloc (.cells #[] 3)) lo (.slice (some ⟨w.heap.size, 0, none⟩) 0 0) [] :=
  World.ownsRow_lit w #[] 0 h (by simp) rfl

/-- a decimal's text comes back, the memory below kept -/
def DecPost (w : World) (e : Ending) (w' : World) (p : ByteArray → Prop) : Prop := ∃ r : ByteArray, e = .returned (.string r) ∧ Dec r.data.toList ∧ p r ∧ Below w.heap.size w w'

set_option maxHeartbeats 2000000 in
set_option maxRecDepth 100000 in
theorem l1Add_any (a b : ByteArray) (w : World) (ha : a.size ≤ 1000000000) (hb : b.size ≤ 1000000000) :
    Calls Tryd.prog 128 #[.string a, .string b] w fun e w' => DecPost w e w' fun r => r.size ≤ max a.size b.size + 4 := by
  go_enter Tryd.func128, Tryd.ntmps128
  go_wp2
  go_loopw [5, 6, 7] (fun v c i wr => ∃ (k cn : Nat) (xs : List Int), i = .int .i64 k ∧ c = .int .i64 cn ∧ Below w.heap.size w wr ∧ OwnRow wr w.heap.size v xs ∧ Hid (xs.length = k ∧ Ds xs ∧ k ≤ max a.size b.size + 2 ∧ (k ≤ max a.size b.size → cn ≤ 60) ∧ (k = max a.size b.size + 1 → cn ≤ 6) ∧ (k = max a.size b.size + 2 → cn = 0))) (fun v c i wr => max a.size b.size + 3 - (intOf i).toNat)
  case atStart => exact ⟨0, 0, [], rfl, rfl, below1 _ _, OwnRow.fresh w (Nat.le_refl _), rfl, Ds.nil, by omega, fun _ => by omega, fun _ => by omega, fun _ => by omega⟩
  case round =>
    obtain ⟨k, cn, xs, rfl, rfl, hbel, hown, hx⟩ := hrel
    have hk := hx.out.2.2.1
    have hk0 : (0 : Int) ≤ k := by omega
    have hlen := hx.out.1
    have hA := atI_in a.data.toList k
    have hB := atI_in b.data.toList k
    have hA0 : a.size ≤ k → atI a.data.toList k = 0 := fun h => if_neg (by show ¬ k < a.size; omega)
    have hB0 : b.size ≤ k → atI b.data.toList k = 0 := fun h => if_neg (by show ¬ k < b.size; omega)
    have HA := Lib.hid hA
    have HB := Lib.hid hB
    have HA0 := Lib.hid hA0
    have HB0 := Lib.hid hB0
    have hc60 : cn ≤ 60 := by
      have := hx.out.2.2.2
      omega
    by_cases hc : k < a.size ∨ k < b.size ∨ 0 < cn
    · have hx2 : Hid (k < max a.size b.size + 2) := Lib.hid (by have := hx.out.2.2.2; omega)
      have hcases : k < a.size ∨ (¬ k < a.size ∧ k < b.size) ∨ (¬ k < a.size ∧ ¬ k < b.size ∧ 0 < cn) := by omega
      clear hc hA0 hB0
      have hn0 : 0 ≤ atI a.data.toList k + atI b.data.toList k + cn := by omega
      obtain ⟨g2, cap2, w6, happ, hown6, hgr6, hgo6, hgl6⟩ := append_int wr w.heap.size u5 xs ((atI a.data.toList k + atI b.data.toList k + cn) % 10) hown hbel.size (by omega)
      have H6 := Lib.hid hown6
      have HB6 := Lib.hid (grown_below hgr6 hown.above hbel.size)
      have hsh := hown.shape
      clear hown6 hgr6 hgo6 hgl6
      rcases hcases with h1 | ⟨h1, h2⟩ | ⟨h1, h2, h3⟩
      all_goals
        go_wp2_with (first | (go_at_call 131; refine (l1At_any _ k _ ?_ ?_).mono ?_; omega; omega; rintro e w' ⟨rfl, rfl⟩) | (at_builtin; refine wpList_append_run rfl _ _ 32 rfl rfl rfl happ ?_))
        have hO := H6.out
        rw [hlen] at hO
        refine ⟨⟨k + 1, ((atI a.data.toList k + atI b.data.toList k + cn) / 10).toNat, _, by go_num, by rw [Int.toNat_of_nonneg (by omega)], hbel.trans (HB6.out.mono (Nat.le_refl _)), hO, by simp [hlen], hx.out.2.1.snoc (by omega) (by omega), ?_, ?_, ?_, ?_⟩, ?_⟩
        · have := hx2.out
          omega
        · intro _
          omega
        · intro h
          have := HA0.out (by omega)
          have := HB0.out (by omega)
          have := hx.out.2.2.2
          omega
        · intro h
          have := HA0.out (by omega)
          have := HB0.out (by omega)
          have := hx.out.2.2.2
          omega
        · have := hx2.out
          simp [intOf]
          omega
    · have hT := Lib.hid (fun w' (h : OwnRow w' w.heap.size u5 xs) => l1Text_own u5 xs w.heap.size w' h (by omega))
      have hsh := hown.shape
      have HOW := Lib.hid hown
      have h1 : ¬ k < a.size := by omega
      have h2 : ¬ k < b.size := by omega
      have h3 : cn = 0 := by omega
      subst h3
      clear hown hA0 hB0 hA hB
      go_wp2_with (go_at_call 132; refine (hT.out _ HOW.out).mono ?_; rintro e w' ⟨r, rfl, hr, hb1⟩)
      go_ret
      refine ⟨r, rfl, by rw [hr]; exact textL_dec hx.out.2.1, ?_, below_then hbel hb1 hbel.size⟩
      have h4 := textL_len xs
      rw [← hr] at h4
      have h5 : r.size ≤ xs.length + 1 := h4
      omega

theorem sub_step {V LB LA l l' p A B n : Int} (h : V + LB = LA + p * l) (hn : n = A - B - l + 10 * l') : (V + p * n) + (LB + p * B) = (LA + p * A) + (p * 10) * l' := by
  subst hn
  rw [Int.mul_add, Int.mul_sub, Int.mul_sub, Int.mul_assoc p 10 l']
  omega
/-- what the difference's digits are so far -/
def SubI (a b : List UInt8) (k : Nat) (l : Int) (xs : List Int) : Prop :=
  xs.length = k ∧ Ds xs ∧ rvI xs + (lowv b k : Nat) = (lowv a k : Nat) + (10 ^ k : Nat) * l
theorem SubI.step {a b : List UInt8} {k : Nat} {l l' n : Int} {xs : List Int} (h : SubI a b k l xs) (h0 : 0 ≤ n) (h9 : n ≤ 9) (hn : n = (atN a k : Nat) - (atN b k : Nat) - l + 10 * l') : SubI a b (k + 1) l' (xs ++ [n]) := by
  obtain ⟨h1, h2, h3⟩ := h
  refine ⟨by simp [h1], h2.snoc h0 h9, ?_⟩
  rw [rvI_snoc, h1, lowv_succ, lowv_succ, Int.natCast_add, Int.natCast_add, Int.natCast_mul, Int.natCast_mul, Nat.pow_succ, Int.natCast_mul]
  exact sub_step h3 hn
theorem SubI.fin {a b : List UInt8} {l : Int} {xs : List Int} (h : SubI a b a.length l xs) (hl : l = 0 ∨ l = 1) (ha : Digs a) (hba : b.length ≤ a.length) (hv : vl b ≤ vl a) : ((vl (textL xs) : Nat) : Int) = vl a - vl b := by
  obtain ⟨h1, h2, h3⟩ := h
  rw [lowv_full _ _ hba, lowv_full _ _ (Nat.le_refl _)] at h3
  have h4 := rvI_lt h2
  rw [h1] at h4
  rw [textL_vl h2]
  rcases hl with rfl | rfl
  · omega
  · omega
theorem SubI.zero (a b : List UInt8) : SubI a b 0 0 [] := ⟨rfl, Ds.nil, by simp [rvI, lowv_zero]⟩

set_option maxHeartbeats 2000000 in
set_option maxRecDepth 100000 in
theorem l1Sub_any (a b : ByteArray) (w : World) (ha : a.size ≤ 1000000000) (hb : b.size ≤ 1000000000) (ka : Dec a.data.toList) (kb : Dec b.data.toList) (hv : vl b.data.toList ≤ vl a.data.toList) :
    Calls Tryd.prog 126 #[.string a, .string b] w fun e w' => DecPost w e w' fun r => vl r.data.toList = vl a.data.toList - vl b.data.toList := by
  have hba : b.size ≤ a.size := kb.len_le ka hv
  have KA := Lib.hid ka
  have KB := Lib.hid kb
  have HV := Lib.hid hv
  clear ka kb hv
  go_enter Tryd.func126, Tryd.ntmps126
  go_wp2
  go_loopw [5, 6, 7] (fun v c i wr => ∃ (k : Nat) (l : Int) (xs : List Int), i = .int .i64 k ∧ c = .int .i64 l ∧ Below w.heap.size w wr ∧ OwnRow wr w.heap.size v xs ∧ k ≤ a.size ∧ (l = 0 ∨ l = 1) ∧ Hid (SubI a.data.toList b.data.toList k l xs)) (fun v c i wr => a.size - (intOf i).toNat)
  case atStart => exact ⟨0, 0, [], rfl, rfl, below1 _ _, OwnRow.fresh w (Nat.le_refl _), by omega, .inl rfl, SubI.zero _ _⟩
  case round =>
    obtain ⟨k, l, xs, rfl, rfl, hbel, hown, hk, hl, hx⟩ := hrel
    have hk0 : (0 : Int) ≤ k := by omega
    have hlen := hx.out.1
    by_cases hc : k < a.size
    · have hA := atN_le KA.out.1 k
      have hB := atN_le KB.out.1 k
      have EA := atI_atN KA.out.1 k
      have EB := atI_atN KB.out.1 k
      have hA2 : 0 ≤ atI a.data.toList k ∧ atI a.data.toList k ≤ 9 := by omega
      have hB2 : 0 ≤ atI b.data.toList k ∧ atI b.data.toList k ≤ 9 := by omega
      have HEA := Lib.hid EA
      have HEB := Lib.hid EB
      have hl2 : 0 ≤ l ∧ l ≤ 1 := by omega
      have HL := Lib.hid hl
      have hsh := hown.shape
      clear EA EB hA hB hl
      by_cases hneg : atI a.data.toList k - atI b.data.toList k - l < 0
      · obtain ⟨g2, cap2, w6, happ, hown6, hgr6, hgo6, hgl6⟩ := append_int wr w.heap.size u5 xs (atI a.data.toList k - atI b.data.toList k - l + 10) hown hbel.size (by omega)
        have H6 := Lib.hid hown6
        have HB6 := Lib.hid (grown_below hgr6 hown.above hbel.size)
        clear hown6 hgr6 hgo6 hgl6
        go_wp2_with (first | (go_at_call 131; refine (l1At_any _ k _ ?_ ?_).mono ?_; omega; omega; rintro e w' ⟨rfl, rfl⟩) | (at_builtin; refine wpList_append_run rfl _ _ 32 rfl rfl rfl happ ?_))
        have hO := H6.out
        rw [hlen] at hO
        refine ⟨⟨k + 1, 1, _, by go_num, rfl, hbel.trans (HB6.out.mono (Nat.le_refl _)), hO, by omega, .inr rfl, hx.out.step (by omega) (by omega) ?_⟩, by simp [intOf]; omega⟩
        rw [← HEA.out, ← HEB.out]
        omega
      · obtain ⟨g2, cap2, w6, happ, hown6, hgr6, hgo6, hgl6⟩ := append_int wr w.heap.size u5 xs (atI a.data.toList k - atI b.data.toList k - l) hown hbel.size (by omega)
        have H6 := Lib.hid hown6
        have HB6 := Lib.hid (grown_below hgr6 hown.above hbel.size)
        clear hown6 hgr6 hgo6 hgl6
        go_wp2_with (first | (go_at_call 131; refine (l1At_any _ k _ ?_ ?_).mono ?_; omega; omega; rintro e w' ⟨rfl, rfl⟩) | (at_builtin; refine wpList_append_run rfl _ _ 32 rfl rfl rfl happ ?_))
        have hO := H6.out
        rw [hlen] at hO
        refine ⟨⟨k + 1, 0, _, by go_num, rfl, hbel.trans (HB6.out.mono (Nat.le_refl _)), hO, by omega, .inl rfl, hx.out.step (by omega) (by omega) ?_⟩, by simp [intOf]; omega⟩
        rw [← HEA.out, ← HEB.out]
        omega
    · have hT := Lib.hid (fun w' (h : OwnRow w' w.heap.size u5 xs) => l1Text_own u5 xs w.heap.size w' h (by omega))
      have hsh := hown.shape
      have HOW := Lib.hid hown
      obtain rfl : k = a.size := by omega
      clear hown
      go_wp2_with (go_at_call 132; refine (hT.out _ HOW.out).mono ?_; rintro e w' ⟨r, rfl, hr, hb1⟩)
      go_ret
      have h5 := hx.out.fin hl KA.out.1 hba HV.out
      have h6 := HV.out
      exact ⟨r, rfl, by rw [hr]; exact textL_dec hx.out.2.1, by dsimp only; rw [hr]; omega, below_then hbel hb1 hbel.size⟩
end Go.Proofs.YtjpkmcaogekkdaaDoor.Nu
