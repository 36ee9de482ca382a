/- Held marks in the law, walked. -/
import Derived.Test.YtjpkmcaogekkdaaDoorRmE
namespace Go.Proofs.YtjpkmcaogekkdaaDoor.Rm
open Go.RowKit
set_option linter.unusedVariables false
set_option linter.unusedSimpArgs false

theorem heldInts_go (w : World) (b off n cap k : Nat) (h : ∀ i x, (marks k n)[i]? = some x → w.cell? ⟨b, off + i, none⟩ = some (.int .i64 x)) (hsz : n * 8 ≤ 140737488351232) (hk : k + n ≤ 100000000000000) :
    Calls Tryd.prog 43 #[.slice (some ⟨b, off, none⟩) n cap, .int .i64 k] w fun e w' => e = .returned (.int .i64 (k + n : Nat)) ∧ w = w' := by
  have HX := Lib.hid h
  clear h
  go_enter Tryd.func43, Tryd.ntmps43
  go_wp2
  go_loopw [1, 5] (fun x i wr => ∃ j : Nat, j ≤ n ∧ x = .int .i64 (k + j : Nat) ∧ i = .int .i64 j ∧ wr = w) (fun x i wr => n - (intOf i).toNat)
  case atStart => exact ⟨0, by omega, by simp, rfl, rfl⟩
  case round =>
    obtain ⟨j, hj, rfl, rfl, rfl⟩ := hrel
    by_cases hlt : j < n
    · have c0 := HX.out j _ (marks_at k n j hlt)
      have hj0 : (0 : Int) ≤ j := by omega
      have hkj : ((k + j : Nat) : Int) < 100000000000000 := by omega
      go_wp2
      refine ⟨⟨j + 1, by omega, by go_num, by go_num, by trivial⟩, by simp [intOf]; omega⟩
    · obtain rfl : j = n := by omega
      go_wp2
      go_ret
      exact ⟨rfl, rfl⟩

theorem heldInts_nil (w : World) (a : Option Addr) (cap k : Nat) (hk : k ≤ 100000000000000) :
    Calls Tryd.prog 43 #[.slice a 0 cap, .int .i64 k] w fun e w' => e = .returned (.int .i64 k) ∧ w = w' := by
  go_enter Tryd.func43, Tryd.ntmps43
  go_wp2
  go_loopw [1, 5] (fun x i wr => x = .int .i64 k ∧ i = .int .i64 0 ∧ wr = w) (fun x i wr => 0)
  case atStart => exact ⟨rfl, rfl, rfl⟩
  case round =>
    obtain ⟨rfl, rfl, rfl⟩ := hrel
    go_wp2
    go_ret
    exact ⟨rfl, rfl⟩

theorem heldInts_any (w : World) (P : Nat → Prop) (v : Value) (n k : Nat) (h : Ints w P v (marks k n)) (hk : k + n ≤ 100000000000000) :
    Calls Tryd.prog 43 #[v, .int .i64 k] w fun e w' => e = .returned (.int .i64 (k + n : Nat)) ∧ w = w' := by
  obtain ⟨h0, ⟨b, off, cap, rfl, hb, hc⟩ | ⟨hn, a, cap, rfl⟩⟩ := h
  · rw [marks_len] at h0
    have := heldInts_go w b off n cap k hc h0 hk
    rwa [marks_len]
  · have : n = 0 := by rw [← marks_len k n, hn]; rfl
    subst this
    exact heldInts_nil w a cap k (by omega)

set_option maxRecDepth 100000 in
theorem heldNodes_go (w : World) (P : Nat → Prop) (b off n cap k : Nat) (ns : List Nd) (hb : b < w.heap.size) (hP : ∀ b, P b → b < w.heap.size) (hn : ns.length = n) (hsz : n * 48 ≤ 140737488351232) (hk : k + tot ns ≤ 100000000000000)
    (hx : ∀ i d, (markNds k ns)[i]? = some d → w.cell? ⟨b, off + i * 3, none⟩ = some (.int .i64 d.sort) ∧ w.cell? ⟨b, off + i * 3 + 1, none⟩ = some (.string d.text) ∧ d.text.size ≤ 140737488351232 ∧ ∃ kv, w.cell? ⟨b, off + i * 3 + 2, none⟩ = some kv ∧ Ints w P kv d.kids) :
    Calls Tryd.prog 42 #[.slice (some ⟨b, off, none⟩) n cap, .int .i64 k] w fun e w' => e = .returned (.int .i64 (k + tot ns : Nat)) ∧ Below w.heap.size w w' := by
  have HX := Lib.hid hx
  have HN := Lib.hid hn
  have HK := Lib.hid hk
  have HP := Lib.hid hP
  clear hx hn hk hP
  go_enter Tryd.func42, Tryd.ntmps42
  go_wp2
  go_loopw [1, 5] (fun x i wr => ∃ j : Nat, j ≤ n ∧ x = .int .i64 (kAt k ns j : Nat) ∧ i = .int .i64 j ∧ Below w.heap.size w wr) (fun x i wr => n - (intOf i).toNat)
  case atStart => exact ⟨0, by omega, by rw [kAt_zero], rfl, Below.refl _ _⟩
  case round =>
    obtain ⟨j, hj, rfl, rfl, hbel⟩ := hrel
    by_cases hlt : j < n
    · obtain ⟨d, hd⟩ := getSome ns j (by rw [HN.out]; exact hlt)
      have hks : kAt k ns (j + 1) = kAt k ns j + 2 + d.kids.length := kAt_succ k ns j d hd
      have hkl : kAt k ns (j + 1) ≤ 100000000000000 := Nat.le_trans (kAt_le k ns (j + 1)) HK.out
      have HKS := Lib.hid hks
      obtain ⟨a0, a1, a2, kv, a3, a4⟩ := HX.out j _ (markNds_at k ns j d hd)
      have hj0 : (0 : Int) ≤ j := by omega
      have hj1 : (j : Int) < n := by omega
      generalize hL : d.kids.length = L at *
      simp only [markNd] at a0 a1 a3 a4 a2
      rw [hL] at a4
      generalize hkj : kAt k ns j = kj at *
      have HKJ := Lib.hid hkj
      have HLL := Lib.hid hL
      have hk1 : kj + 2 + L ≤ 100000000000000 := by omega
      have HM := Lib.hid (fun w => markText_any (kj + 1) w (by omega) (by omega))
      have c0 := (hbel.cell (p := ⟨b, off + j * 3, none⟩) hb).trans a0
      have c1 := (hbel.cell (p := ⟨b, off + j * 3 + 1, none⟩) hb).trans a1
      have c2 := (hbel.cell (p := ⟨b, off + j * 3 + 2, none⟩) hb).trans a3
      have hbr : b < wr.heap.size := Nat.lt_of_lt_of_le hb hbel.size
      have HI := Lib.hid (fun wx (hx : Below wr.heap.size wr wx) => heldInts_any wx P kv L (kj + 2) ((a4.same fun g hg => hbel.block g (HP.out g hg)).same fun g hg => hx.block g (Nat.lt_of_lt_of_le (HP.out g hg) hbel.size)) (by omega))
      clear a0 a1 a2 a3 a4 hks hkl hd hL hkj
      go_wp2_with fail
      go_region_held3 (fun w' => w'.cell? ⟨b, off + j * 3, none⟩ = some (.int .i64 kj) ∧ w'.cell? ⟨b, off + j * 3 + 1, none⟩ = some (.string (mt (kj + 1))) ∧ w'.cell? ⟨b, off + j * 3 + 2, none⟩ = some kv)
          (first | go_keep | (refine ⟨?_, ?_, ?_⟩ <;> first | exact (hb1.cell hbr).trans (by assumption)))
          ((go_at_call 57; refine (HM.out _).mono ?_; rintro e w1 ⟨rfl, hb1⟩))
      have hb2 : Below wr.heap.size wr w1 := below_then (Below.refl _ wr).drew hb1 (Nat.le_refl _)
      go_wp2_with fail
      refine (HI.out w1 hb2).mono ?_
      rintro e w2 ⟨rfl, rfl⟩
      go_wp2
      refine ⟨⟨j + 1, by omega, ?_, by go_num, below_then hbel hb2 hbel.size⟩, by simp [intOf]; omega⟩
      rw [HKS.out]
      go_num
    · obtain rfl : j = n := by omega
      go_wp2
      go_ret
      rw [kAt_all k ns j (by rw [HN.out]; omega)]
      exact ⟨rfl, hbel⟩

theorem heldNodes_nil (w : World) (a : Option Addr) (cap k : Nat) (hk : k ≤ 100000000000000) :
    Calls Tryd.prog 42 #[.slice a 0 cap, .int .i64 k] w fun e w' => e = .returned (.int .i64 k) ∧ w = w' := by
  go_enter Tryd.func42, Tryd.ntmps42
  go_wp2
  go_loopw [1, 5] (fun x i wr => x = .int .i64 k ∧ i = .int .i64 0 ∧ wr = w) (fun x i wr => 0)
  case atStart => exact ⟨rfl, rfl, rfl⟩
  case round =>
    obtain ⟨rfl, rfl, rfl⟩ := hrel
    go_wp2
    go_ret
    exact ⟨rfl, rfl⟩

theorem heldNodes_any (w : World) (P : Nat → Prop) (v : Value) (k : Nat) (ns : List Nd) (h : Nodes w P v (markNds k ns)) (hP : ∀ b, P b → b < w.heap.size) (hk : k + tot ns ≤ 100000000000000) :
    Calls Tryd.prog 42 #[v, .int .i64 k] w fun e w' => e = .returned (.int .i64 (k + tot ns : Nat)) ∧ Below w.heap.size w w' := by
  obtain ⟨h0, ⟨b, off, cap, rfl, hb, hc⟩ | ⟨hn, a, cap, rfl⟩⟩ := h
  · have := heldNodes_go w P b off ns.length cap k ns (hP b hb) hP rfl (by rwa [markNds_len] at h0) hk hc
    rwa [markNds_len]
  · have : ns = [] := by
      have := congrArg List.length hn
      rw [markNds_len] at this
      exact List.length_eq_zero_iff.1 this
    subst this
    refine (heldNodes_nil w a cap k (by omega)).mono ?_
    rintro e w' ⟨rfl, rfl⟩
    exact ⟨rfl, Below.refl _ _⟩

theorem heldData_any (w : World) (P : Nat → Prop) (v : Value) (k : Nat) (ns : List Nd) (n : Nat) (h : Dat w P v (markNds k ns) (marks (k + tot ns) n)) (hP : ∀ b, P b → b < w.heap.size) (hk : k + tot ns + n ≤ 100000000000000) :
    Calls Tryd.prog 17 #[v, .int .i64 k] w fun e w' => e = .returned (.int .i64 (k + tot ns + n : Nat)) ∧ Below w.heap.size w w' := by
  obtain ⟨nv, rv, rfl, hN, hR⟩ := h
  have hB := below1 w (.cells #[nv, rv] 38)
  have HN := Lib.hid (heldNodes_any (w.alloc (.cells #[nv, rv] 38)) P nv k ns (hN.same fun b hb => hB.block b (hP b hb)) (fun b h => Nat.lt_of_lt_of_le (hP b h) hB.size) (by omega))
  have HR := Lib.hid (fun wx (hx : Below w.heap.size w wx) => heldInts_any wx P rv n (k + tot ns) (hR.same fun g hg => hx.block g (hP g hg)) hk)
  clear hB hN hR hP
  generalize tot ns = t at *
  go_enter Tryd.func17, Tryd.ntmps17
  go_wp2_with fail
  refine HN.out.mono ?_
  rintro e w1 ⟨rfl, hb1⟩
  have c1 := ((Blk.new w _ _).below hb1).cell0 (o := 1) rfl
  have E := below1b hb1
  have hk2 : ((k + t : Nat) : Int) ≤ 100000000000000 := by omega
  go_wp2_with fail
  refine (HR.out w1 E).mono ?_
  rintro e w2 ⟨rfl, rfl⟩
  go_wp2
  go_ret
  exact ⟨rfl, E⟩
end Go.Proofs.YtjpkmcaogekkdaaDoor.Rm
