/- The small functions that the port laws reach: the sizes of a port, the bounds of a place, the copy and the comparison of ports, and the size of the first character of a text (reference). -/
import Derived.Test.YtjpkmcaogekkdaaDoorProg
import Derived.WalkKit
import Derived.WalkLawsBesides
import Derived.WalkSpells
import Derived.Below
import Derived.LoopTactic
import Derived.RegionTactic
import Derived.ChangeAlike
import Derived.Lib.Hide
import Derived.Outline
import Derived.KernelRfl
import Derived.Deep.QuietTactic
import Derived.BigQuiet
import Derived.BigRegion
import Derived.Lib.Bytealg
import Derived.Laws.IdiomStrings
import Derived.Shelf.Unicode.DecodeAny
import Derived.Test.YtjpkmcaogekkdaaDoorUtf
import Derived.Test.YtjpkmcaogekkdaaDoorMem
namespace Go.Proofs.YtjpkmcaogekkdaaDoor.Port
open Go.RowKit
set_option linter.unusedVariables false
set_option linter.unusedSimpArgs false

theorem l1In_any (a b c : Int) (w : World) :
    Calls Tryd.prog 29 #[.int .i64 a, .int .i64 b, .int .i64 c] w fun e w' => e = .returned (.bool (decide (b ≤ a) && decide (a ≤ c))) ∧ w = w' := by
  by_cases h : b ≤ a
  · go_enter Tryd.func29, Tryd.ntmps29
    go_wp2
    go_ret
    exact ⟨by simp [h], rfl⟩
  · go_enter Tryd.func29, Tryd.ntmps29
    go_wp2
    go_ret
    exact ⟨by simp; omega, rfl⟩

theorem l23Ok_any (s : ByteArray) (a : Int) (w : World) :
    Calls Tryd.prog 21 #[.agg #[.string s, .int .i64 a]] w fun e w' => e = .returned (.bool (decide (0 ≤ a) && decide (a ≤ s.size))) ∧ Below w.heap.size w w' := by
  go_enter Tryd.func21, Tryd.ntmps21
  go_wp2_with (go_at_call 29; refine (l1In_any _ _ _ _).mono ?_; rintro e w' ⟨rfl, rfl⟩)
  go_ret
  exact ⟨rfl, (Below.refl _ _).alloc (Nat.le_refl _) _⟩

theorem ok_any (s : ByteArray) (a : Int) (w : World) :
    Calls Tryd.prog 23 #[.agg #[.string s, .int .i64 a]] w fun e w' => e = .returned (.bool (decide (0 ≤ a) && decide (a ≤ s.size))) ∧ Below w.heap.size w w' := by
  by_cases h : 0 ≤ a
  all_goals
    go_enter Tryd.func23, Tryd.ntmps23
    go_wp2
    go_ret
    exact ⟨by simp [h] <;> omega, (Below.refl _ _).alloc (Nat.le_refl _) _⟩

theorem sz_any (s : ByteArray) (a l : Int) (w : World) (h0 : 0 ≤ l) (h1 : l ≤ 1048576) (hs : s.size ≤ 140737488351232) :
    Calls Tryd.prog 6 #[.agg #[.string s, .int .i64 a], .int .i64 l] w fun e w' => e = .returned (.int .i64 (if l < s.size then -1 else l - s.size)) ∧ Below w.heap.size w w' := by
  by_cases h : l < (s.size : Int)
  · rw [if_pos h]
    go_enter Tryd.func6, Tryd.ntmps6
    go_wp2
    go_ret
    exact ⟨rfl, (Below.refl _ _).alloc (Nat.le_refl _) _⟩
  · rw [if_neg h]
    go_enter Tryd.func6, Tryd.ntmps6
    go_wp2
    go_ret
    exact ⟨rfl, (Below.refl _ _).alloc (Nat.le_refl _) _⟩

theorem toPort_any (s : ByteArray) (a : Int) (w : World) :
    Calls Tryd.prog 8 #[.agg #[.string s, .int .i64 a]] w fun e w' => e = .returned (.agg #[.string s, .int .i64 a]) ∧ Below w.heap.size w w' := by
  go_enter Tryd.func8, Tryd.ntmps8
  go_wp2
  refine bodyPost_ret (v := .agg #[.string s, .int .i64 a]) (by simp [results, Tryd.results8, go_sem]) rfl ⟨rfl, ?_⟩
  exact (((Below.refl _ _).alloc (Nat.le_refl _) _).alloc (by simp) _).alloc (by simp; omega) _

theorem eqPort_any (s : ByteArray) (a : Int) (s' : ByteArray) (a' : Int) (w : World) :
    Calls Tryd.prog 10 #[.agg #[.string s, .int .i64 a], .agg #[.string s', .int .i64 a']] w fun e w' => e = .returned (.bool (s.toList == s'.toList && a == a')) ∧ Below w.heap.size w w' := by
  go_enter Tryd.func10, Tryd.ntmps10
  go_wp2
  all_goals
    go_ret
    exact ⟨by simp_all, ((Below.refl _ _).alloc (Nat.le_refl _) _).alloc (by simp) _⟩


theorem extract_head (s : ByteArray) (a k : Nat) (h : k ≤ s.size - a) : (s.extract a s.size).extract 0 k = s.extract a (a + k) := by
  rw [Lib.extract_eq, Lib.extract_eq s a (a + k), Lib.extract_data, List.drop_zero, List.take_take]
  congr 3
  omega

set_option maxRecDepth 100000 in
theorem size_walk1 (s : ByteArray) (n cap : Nat) (r : Int) (b : Nat) (w w1 : World) (hs : ((s.size : Int) == 0) = false) (hn : 0 < n) (hr : (r == 65533) = false)
    (hconv : (convert 9 78 (.string s)).run Tryd.prog w = .ok (.slice (some ⟨b, 0, none⟩) n cap) w1)
    (hc : w1.cell? ⟨b, 0, none⟩ = some (.int .i32 r)) :
    Calls Tryd.prog 22 #[.string s] w fun e w' => e = .returned (.int .i64 (Utf8.encode r).size) ∧ w1 = w' := by
  go_enter Tryd.func22, Tryd.ntmps22
  go_wp2
  go_ret
  exact ⟨rfl, rfl⟩

set_option maxRecDepth 100000 in
theorem size_walk2 (s : ByteArray) (n cap : Nat) (b : Nat) (w w1 : World) (hs : ((s.size : Int) == 0) = false) (hs3 : decide ((s.size : Int) < 3) = false) (hs4 : 3 ≤ s.size) (hn : 0 < n)
    (h3 : ((s.extract 0 3).toList == [239, 191, 189]) = true)
    (hconv : (convert 9 78 (.string s)).run Tryd.prog w = .ok (.slice (some ⟨b, 0, none⟩) n cap) w1)
    (hc : w1.cell? ⟨b, 0, none⟩ = some (.int .i32 65533)) :
    Calls Tryd.prog 22 #[.string s] w fun e w' => e = .returned (.int .i64 3) ∧ w1 = w' := by
  go_enter Tryd.func22, Tryd.ntmps22
  go_wp2
  go_ret
  exact ⟨rfl, rfl⟩

set_option maxRecDepth 100000 in
theorem size_walk3 (s : ByteArray) (n cap : Nat) (b : Nat) (w w1 : World) (hs : ((s.size : Int) == 0) = false) (hs3 : decide ((s.size : Int) < 3) = true) (hn : 0 < n)
    (hconv : (convert 9 78 (.string s)).run Tryd.prog w = .ok (.slice (some ⟨b, 0, none⟩) n cap) w1)
    (hc : w1.cell? ⟨b, 0, none⟩ = some (.int .i32 65533)) :
    Calls Tryd.prog 22 #[.string s] w fun e w' => e = .returned (.int .i64 0) ∧ w1 = w' := by
  go_enter Tryd.func22, Tryd.ntmps22
  go_wp2
  go_ret
  exact ⟨rfl, rfl⟩

set_option maxRecDepth 100000 in
theorem size_walk4 (s : ByteArray) (n cap : Nat) (b : Nat) (w w1 : World) (hs : ((s.size : Int) == 0) = false) (hs3 : decide ((s.size : Int) < 3) = false) (hs4 : 3 ≤ s.size) (hn : 0 < n)
    (h3 : ((s.extract 0 3).toList == [239, 191, 189]) = false)
    (hconv : (convert 9 78 (.string s)).run Tryd.prog w = .ok (.slice (some ⟨b, 0, none⟩) n cap) w1)
    (hc : w1.cell? ⟨b, 0, none⟩ = some (.int .i32 65533)) :
    Calls Tryd.prog 22 #[.string s] w fun e w' => e = .returned (.int .i64 0) ∧ w1 = w' := by
  go_enter Tryd.func22, Tryd.ntmps22
  go_wp2
  go_ret
  exact ⟨rfl, rfl⟩

theorem runesFrom_head (s : ByteArray) : ∀ (b i : Nat) (acc : Array Value), 0 < acc.size → acc.size ≤ (Conv.runesFrom s b i acc).size ∧ (Conv.runesFrom s b i acc)[0]? = acc[0]?
  | 0, _, acc, _ => by simp [Conv.runesFrom]
  | b + 1, i, acc, h => by
    unfold Conv.runesFrom
    split
    · have ih := runesFrom_head s b (i + (Utf8.decode s i).2) (acc.push (.int .i32 (Int.ofNat (Utf8.decode s i).1))) (by simp)
      refine ⟨?_, ?_⟩
      · have := ih.1
        simp at this ⊢
        omega
      · have := ih.2
        simp only [] at this ⊢
        rw [this, Array.getElem?_push, if_neg (by omega)]
    · exact ⟨Nat.le_refl _, rfl⟩

theorem runesFrom_first (s : ByteArray) (hs : 0 < s.size) :
    0 < (Conv.runesFrom s s.size 0 #[]).size ∧ (Conv.runesFrom s s.size 0 #[])[0]? = some (.int .i32 ((Utf8.decode s 0).1 : Int)) := by
  obtain ⟨b, hb⟩ : ∃ b, s.size = b + 1 := ⟨s.size - 1, by omega⟩
  have h := runesFrom_head s b (0 + (Utf8.decode s 0).2) (#[].push (.int .i32 (Int.ofNat (Utf8.decode s 0).1))) (by simp)
  have e : Conv.runesFrom s s.size 0 #[] = Conv.runesFrom s b (0 + (Utf8.decode s 0).2) (#[].push (.int .i32 (Int.ofNat (Utf8.decode s 0).1))) := by
    conv => lhs; rw [hb]
    rw [Conv.runesFrom, if_pos hs]
  rw [e]
  refine ⟨?_, ?_⟩
  · have := h.1
    simp at this ⊢
    omega
  · rw [h.2]; rfl

/-- how many bytes the first character has; 0 if there is none -/
def szOf (s : ByteArray) : Nat := if (Utf8.decode s 0).1 = 65533 ∧ (Utf8.decode s 0).2 = 1 then 0 else (Utf8.decode s 0).2

theorem drewAlloc (w : World) (C : Array Value) (t : TypeId) (v : Value) (h : C[0]? = some v) :
    (w.drew.alloc (.cells C t)).cell? ⟨w.heap.size, 0, none⟩ = some v := by
  have := World.cell?_alloc_mark w.drew C t (0, 0) 0
  rw [h] at this
  exact this

theorem head3 (s : ByteArray) (h : 3 ≤ s.size) : (s.extract 0 3).toList = [s.get! 0, s.get! 1, s.get! 2] := by
  rw [Lib.extract_toList]
  obtain ⟨⟨l⟩⟩ := s
  match l, h with
  | x0 :: x1 :: x2 :: r, _ => rfl
  | [x0, x1], h => simp [ByteArray.size] at h
  | [x0], h => simp [ByteArray.size] at h
  | [], h => simp [ByteArray.size] at h

theorem size_any (s : ByteArray) (w : World) (hs : 0 < s.size) (h2 : s.size ≤ 70368744177664) :
    Calls Tryd.prog 22 #[.string s] w fun e w' => e = .returned (.int .i64 (szOf s)) ∧ Below w.heap.size w w' := by
  have hcv := run_runes_of_string (P := Tryd.prog) w 9 78 21 s Tryd.underlying9 Tryd.underlying78 Tryd.underlying21 (by have := size_runesFrom s s.size 0 #[]; simp at this; omega)
  obtain ⟨f1, f2⟩ := runesFrom_first s hs
  have hne : ((s.size : Int) == 0) = false := by rw [beq_eq_false_iff_ne]; omega
  have hB : ∀ C : Array Value, Below w.heap.size w (w.drew.alloc (.cells C 21)) := fun C => ((Below.refl _ _).drew).alloc (Nat.le_refl _) _
  obtain ⟨r, n, hd⟩ : ∃ r n, Utf8.decode s 0 = (r, n) := ⟨_, _, rfl⟩
  obtain ⟨g1, g2, g3, g4, g5, g6, g7⟩ := Dec.dec_facts s hs r n hd
  have hcell := drewAlloc w (Conv.runesFrom s s.size 0 #[] ++ Array.replicate (grownCap w (Conv.runesFrom s s.size 0 #[]).size 0 21 - (Conv.runesFrom s s.size 0 #[]).size) (.int .i32 0)) 21 (.int .i32 ((Utf8.decode s 0).1 : Int)) (by
    rw [Array.getElem?_append_left f1, f2])
  unfold szOf
  rw [hd] at hcell ⊢
  simp only [] at hcell ⊢
  by_cases hr : r = 65533
  · subst hr
    by_cases h3 : s.size < 3
    · refine (size_walk3 s _ _ _ w _ hne (by simp; omega) f1 hcv hcell).mono ?_
      rintro e w' ⟨rfl, rfl⟩
      refine ⟨?_, hB _⟩
      by_cases hn : n = 1
      · rw [if_pos ⟨rfl, hn⟩]; rfl
      · have := g6 rfl hn
        omega
    · have hl := head3 s (by omega)
      by_cases hx : s.get! 0 = 239 ∧ s.get! 1 = 191 ∧ s.get! 2 = 189
      · obtain ⟨x0, x1, x2⟩ := hx
        rw [x0, x1, x2] at hl
        obtain ⟨_, hn⟩ := g7 (by omega) x0 x1 x2
        refine (size_walk2 s _ _ _ w _ hne (by simp; omega) (by omega) f1 (by rw [hl]; rfl) hcv hcell).mono ?_
        rintro e w' ⟨rfl, rfl⟩
        refine ⟨?_, hB _⟩
        rw [if_neg (by omega), hn]; rfl
      · have hl' : ((s.extract 0 3).toList == [239, 191, 189]) = false := by
          rw [hl, beq_eq_false_iff_ne]
          intro h
          simp only [List.cons.injEq] at h
          exact hx ⟨h.1, h.2.1, h.2.2.1⟩
        refine (size_walk4 s _ _ _ w _ hne (by simp; omega) (by omega) f1 hl' hcv hcell).mono ?_
        rintro e w' ⟨rfl, rfl⟩
        refine ⟨?_, hB _⟩
        by_cases hn : n = 1
        · rw [if_pos ⟨rfl, hn⟩]; rfl
        · obtain ⟨_, _, x0, x1, x2⟩ := g6 rfl hn
          exact absurd ⟨x0, x1, x2⟩ hx
  · have hr' : (((r : Nat) : Int) == 65533) = false := by rw [beq_eq_false_iff_ne]; omega
    refine (size_walk1 s _ _ r _ w _ hne f1 hr' hcv hcell).mono ?_
    rintro e w' ⟨rfl, rfl⟩
    refine ⟨?_, hB _⟩
    rcases g5 with g5 | g5
    · exact absurd g5.1 hr
    · rw [g5.1, if_neg g5.2]
end Go.Proofs.YtjpkmcaogekkdaaDoor.Port
