/- Small numbers written, whatever they are; the ways above looked at and left, walked. -/
import Derived.Test.YtjpkmcaogekkdaaDoorWrB
import Derived.Deep.RegionLaw
namespace Go.Proofs.YtjpkmcaogekkdaaDoor.Wr
open Go.RowKit Go.Proofs.YtjpkmcaogekkdaaDoor.Rm Go.Proofs.YtjpkmcaogekkdaaDoor.Nu Go.Proofs.YtjpkmcaogekkdaaDoor.Gr
set_option linter.unusedVariables false
set_option linter.unusedSimpArgs false

set_option maxHeartbeats 2000000 in
set_option maxRecDepth 100000 in
theorem l1Small_nat (n : Nat) : ∀ (w : World), n ≤ 9223372036854775807 → Calls Tryd.prog 113 #[.int .i64 n] w (SmallPost n w) := by
  induction n using Nat.strongRecOn with
  | _ n ih =>
    intro w hn
    by_cases h : n < 10
    · exact l1Small_any n w (by omega)
    · have HI := Lib.hid (fun w => ih (n / 10) (by omega) w (by omega))
      have hs := spell1 ((n % 10 : Nat) : Int) (by omega) (by omega)
      have HC := Lib.hid (spell0 ((n % 10 : Nat) : Int) (by omega) (by omega))
      have hz := smallL_len 18 (n / 10) (by omega)
      have HZ : Hid (∀ r : ByteArray, r.data.toList = smallL (n / 10) → r.size ≤ 19) := fun r hr => by
        have : r.data.toList.length ≤ 19 := by rw [hr]; exact hz
        exact this
      have e1 : IntKind.i64.wrap ((n : Int) / 10) = ((n / 10 : Nat) : Int) := by rw [i64_w]; unfold wrap64; omega
      have eV : IntKind.u8.wrap (IntKind.i64.wrap (48 + (n : Int).tmod 10)) = 48 + ((n % 10 : Nat) : Int) := by
        rw [i64_w, Int.tmod_eq_emod_of_nonneg (by omega)]
        have : wrap64 (48 + (n : Int) % 10) = 48 + ((n % 10 : Nat) : Int) := by unfold wrap64; omega
        rw [this]
        show (48 + ((n % 10 : Nat) : Int)) % 256 = _
        omega
      have hs2 : ∀ w : World, (convert 44 9 (.slice (some ⟨w.heap.size, 0, none⟩) 1 1)).run Tryd.prog (w.alloc (.cells #[.int .u8 (48 + ((n % 10 : Nat) : Int))] 5)).drew = .ok (.string ⟨#[dch ((n % 10 : Nat) : Int)]⟩) (w.alloc (.cells #[.int .u8 (48 + ((n % 10 : Nat) : Int))] 5)).drew :=
        fun w => HC.out w _ (Below.refl _ _).drew
      rw [← eV] at hs
      rw [← eV] at hs2
      rw [← eV] at HC
      rw [← e1] at HI
      clear ih hz e1 eV
      go_enter Tryd.func113, Tryd.ntmps113
      go_wp2_with fail
      go_region_with (go_at_call 113; refine (HI.out _).mono ?_; rintro e w1 ⟨r, rfl, hr, hb1⟩; have hrs := HZ.out r hr; (try have hcv : (convert 44 9 (.slice (some ⟨w.heap.size, 0, none⟩) 1 1)).run Tryd.prog w1 = .ok (.string ⟨#[dch ((n % 10 : Nat) : Int)]⟩) w1 := HC.out w.drew w1 hb1); dsimp only)
      all_goals go_wp2
      all_goals go_ret
      all_goals
        refine ⟨_, rfl, ?_, ?_⟩
        · rw [bapp, hr, smallL.eq_def n, if_neg h]
          rfl
        · first | exact ((Below.refl _ w).drew.trans hb1).alloc hb1.size _ | exact below_then (below1 w _).drew hb1 (by simp)

theorem spellN (x : Int) (w : World) : (convert 44 9 (.slice (some ⟨w.heap.size, 0, none⟩) 1 1)).run Tryd.prog (w.alloc (.cells #[.int .u8 ((48 + x) % 256)] 5)) = .ok (.string ⟨#[dch x]⟩) (w.alloc (.cells #[.int .u8 ((48 + x) % 256)] 5)) := by
  have h := spellB (dch x) w
  rwa [dch_toNat] at h

set_option maxHeartbeats 2000000 in
set_option maxRecDepth 100000 in
theorem l1Small_all (x : Int) (w : World) (h : I64 x) : Calls Tryd.prog 113 #[.int .i64 x] w (OutPost 20 w) := by
  by_cases h0 : 0 ≤ x
  · obtain ⟨n, rfl⟩ : ∃ n : Nat, x = n := ⟨x.toNat, by omega⟩
    refine (l1Small_nat n w (by have := h.2; omega)).mono ?_
    rintro e w' ⟨r, rfl, hr, hb⟩
    have h1 := smallL_len 18 n (by have := h.2; omega)
    rw [← hr] at h1
    exact ⟨r, rfl, Nat.le_trans h1 (by omega), hb⟩
  · have hs := spellN x
    obtain ⟨h1, h2⟩ := h
    go_enter Tryd.func113, Tryd.ntmps113
    go_wp2
    go_ret
    exact ⟨_, rfl, (show 1 ≤ 20 by omega), below1 _ _⟩

theorem Wt.below {w w' : World} {b : Nat} {nv : Value} {A M : List Int} {cnt : Int} {out : ByteArray} {ov : Bool} (h : Wt w b nv A M cnt out ov) (hb : Below w.heap.size w w') : Wt w' b nv A M cnt out ov := by
  obtain ⟨av, mv, hB, hA, hM, rest⟩ := h
  exact ⟨av, mv, hB.below hb, hA.below hb, hM.below hb, rest⟩
theorem Wt.lt {w : World} {b : Nat} {nv : Value} {A M : List Int} {cnt : Int} {out : ByteArray} {ov : Bool} (h : Wt w b nv A M cnt out ov) : b < w.heap.size := by
  obtain ⟨av, mv, hB, _⟩ := h
  exact hB.lt

def LabelPost (x : Int) (A : List Int) (w : World) (e : Ending) (w' : World) : Prop := ∃ (name : ByteArray) (first : Bool), e = .returned (.tuple #[.string name, .bool first]) ∧ (first = true ↔ x ∉ A) ∧ name.size ≤ 20 ∧ Below w.heap.size w w'

set_option maxHeartbeats 2000000 in
set_option maxRecDepth 100000 in
theorem label_any (w : World) (b : Nat) (nv : Value) (A M : List Int) (cnt : Int) (out : ByteArray) (ov : Bool) (x : Int) (h : Wt w b nv A M cnt out ov) :
    Calls Tryd.prog 95 #[.pointer (some ⟨b, 0, none⟩), .int .i64 x] w (LabelPost x A w) := by
  obtain ⟨av, mv, hB, hA, hM, hne, hl, ho, hc, hm, hA1⟩ := h
  obtain ⟨aa, ac, rfl, ha⟩ := hA.shape
  obtain ⟨ma, mc, rfl, hmm⟩ := hM.shape
  rw [hl] at hB
  have c2 := hB.cell0 (o := 2) (v := .slice aa A.length ac) rfl
  have c3 := hB.cell0 (o := 3) (v := .slice ma A.length mc) rfl
  have HA := Lib.hid ha
  have HMM := Lib.hid hmm
  have HM := Lib.hid hm
  clear ha hmm hm hA hM hne hB
  go_enter Tryd.func95, Tryd.ntmps95
  go_wp2
  go_loopw [6] (fun i wr => ∃ k : Nat, i = .int .i64 k ∧ k ≤ A.length ∧ w = wr ∧ Hid (x ∉ A.take k)) (fun i wr => A.length - (intOf i).toNat)
  case atStart => exact ⟨0, rfl, by omega, rfl, by simp [Hid]⟩
  case round =>
    obtain ⟨k, rfl, hk, rfl, hnot⟩ := hrel
    have hk0 : (0 : Int) ≤ k := by omega
    by_cases hlt : k < A.length
    · obtain ⟨ga, rfl, hga1, hga2, hgc⟩ := HA.out (by intro e; rw [e] at hlt; simp at hlt)
      obtain ⟨gm, rfl, hgm1, hgm2, hgmc⟩ := HMM.out (by intro e; rw [e] at hl; simp at hl; omega)
      obtain ⟨y, hy⟩ := getSome A k hlt
      obtain ⟨m, hmk⟩ := getSome M k (by omega)
      have cy := hgc k y hy
      have cm := hgmc k m hmk
      have HS := Lib.hid (fun w => l1Small_all m w (HM.out m (List.mem_of_getElem? hmk)))
      have HY := Lib.hid hy
      clear hgc hgmc hy hmk
      by_cases hxy : y = x
      · subst hxy
        have hb2 : (y == y) = true := by simp
        go_wp2_with (go_at_call 113; refine (HS.out _).mono ?_; rintro e w1 ⟨r, rfl, hr, hb1⟩)
        refine bodyPost_ret (v := .tuple #[.string r, .bool false]) (by simp [results, Tryd.results95, go_sem]) rfl ?_
        exact ⟨r, false, rfl, by simp; exact List.mem_of_getElem? HY.out, hr, hb1⟩
      · have hb2 : (y == x) = false := by rw [beq_eq_false_iff_ne]; exact hxy
        go_wp2
        refine ⟨⟨k + 1, by go_num, by omega, trivial, ?_⟩, by simp [intOf]; omega⟩
        show x ∉ A.take (k + 1)
        rw [List.take_add_one, HY.out]
        intro hx
        rcases List.mem_append.1 hx with hx | hx
        · exact hnot.out hx
        · simp at hx
          exact hxy hx.symm
    · have hx := hnot.out
      rw [List.take_of_length_le (by omega)] at hx
      go_wp2
      refine bodyPost_ret (v := .tuple #[.string ⟨#[]⟩, .bool true]) (by simp [results, Tryd.results95, go_sem]) rfl ?_
      exact ⟨_, true, rfl, by simpa using hx, by simp [ByteArray.size], Below.refl _ _⟩
end Go.Proofs.YtjpkmcaogekkdaaDoor.Wr
