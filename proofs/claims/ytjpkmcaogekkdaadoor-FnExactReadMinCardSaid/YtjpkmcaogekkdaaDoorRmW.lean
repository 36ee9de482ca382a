/- The law, walked. -/
import Derived.Test.YtjpkmcaogekkdaaDoorRmW0
import Derived.Deep.RegionHeld3
namespace Go.Proofs.YtjpkmcaogekkdaaDoor.Rm
open Go.RowKit Go.Maps
set_option linter.unusedVariables false
set_option linter.unusedSimpArgs false
set_option linter.unusedSectionVars false
set_option linter.unnecessarySimpa false

def LawPost (w : World) (e : Ending) (w' : World) : Prop := e = .returned (.bool true) ∧ Below w.heap.size w w'

theorem eq_true_any (w : World) (P Q : Nat → Prop) (v u : Value) (xs : List Nd) (rs : List Int) (hv : Dat w P v xs rs) (hu : Dat w Q u xs rs) (hP : ∀ b, P b → b < w.heap.size) (hQ : ∀ b, Q b → b < w.heap.size) :
    Calls Tryd.prog 15 #[v, u] w fun e w' => e = .returned (.bool true) ∧ Below w.heap.size w w' :=
  (eqData_any w P Q v u xs xs rs rs hv hu hP hQ).mono fun e w' h => ⟨by rw [h.1]; simp, h.2⟩

theorem OwnData.shape {w : World} {lo hi : Nat} {v : Value} {ns : List Nd} {rs : List Int} (h : OwnData w lo hi v ns rs) : ∃ a n c a' n' c', v = .agg #[.slice a n c, .slice a' n' c'] := by
  obtain ⟨nv, rv, rfl, h1, h2⟩ := h.dat
  obtain ⟨a, c, rfl⟩ := h1.shape
  obtain ⟨a', c', rfl⟩ := h2.shape
  exact ⟨_, _, _, _, _, _, rfl⟩
theorem Dat.shape {w : World} {P : Nat → Prop} {v : Value} {ns : List Nd} {rs : List Int} (h : Dat w P v ns rs) : ∃ a n c a' n' c', v = .agg #[.slice a n c, .slice a' n' c'] := by
  obtain ⟨nv, rv, rfl, h1, h2⟩ := h
  obtain ⟨a, c, rfl⟩ := h1.shape
  obtain ⟨a', c', rfl⟩ := h2.shape
  exact ⟨_, _, _, _, _, _, rfl⟩
theorem Dat.below {w w' : World} {P : Nat → Prop} {v : Value} {ns : List Nd} {rs : List Int} (h : Dat w P v ns rs) (hb : Below w.heap.size w w') (hP : ∀ b, P b → b < w.heap.size) : Dat w' P v ns rs := h.same fun b hp => hb.block b (hP b hp)
theorem OwnDataA.below {w w' : World} {lo hi : Nat} {v : Value} {ns : List Nd} {rs : List Int} (h : OwnDataA w lo hi v ns rs) (hb : Below w.heap.size w w') (hhi : hi ≤ w.heap.size) : OwnDataA w' lo hi v ns rs := by
  obtain ⟨G, r, gs, cap, cap', C, h1, h0, h2, h3, h4, h5, h6⟩ := h
  exact ⟨G, r, gs, cap, cap', C, h1, h0, h2.below hb, h3.carry (fun g hg => hb.block g (Nat.lt_of_lt_of_le (h6 g (by simp [hg])).2 hhi)), h4.below hb, h5, h6⟩
theorem OwnData.below {w w' : World} {lo hi : Nat} {v : Value} {ns : List Nd} {rs : List Int} (h : OwnData w lo hi v ns rs) (hb : Below w.heap.size w w') (hhi : hi ≤ w.heap.size) : OwnData w' lo hi v ns rs := h.carry fun g _ h2 => hb.block g (by omega)

/-- What the law's variables hold, and where: the argument (ba), the reference's answer (b4), the copy handed in (b5), the answer (b6). -/
structure LKept (wk : World) (ba : Nat) (pa qa : Value) (b4 : Nat) (p4 q4 : Value) (P4 : Nat → Prop) (n4 : List Nd) (r4 : List Int) (b5 : Nat) (p5 q5 : Value) (lo5 hi5 : Nat) (n5 : List Nd) (r5 : List Int) (b6 : Nat) (p6 q6 : Value) (lo6 hi6 : Nat) (n6 : List Nd) (r6 : List Int) : Prop where
  A : Blk wk ba #[pa, qa] 34
  B4 : Blk wk b4 #[p4, q4] 38
  D4 : Dat wk P4 (.agg #[p4, q4]) n4 r4
  P4lt : ∀ b, P4 b → b < lo5
  balt : ba < lo5
  b4lt : b4 < lo5
  l5 : lo5 ≤ hi5
  h5 : hi5 ≤ b5
  l56 : b5 < lo6
  l6 : lo6 ≤ hi6
  h6 : hi6 ≤ b6
  sz : b6 < wk.heap.size
  B5 : Blk wk b5 #[p5, q5] 38
  O5 : OwnData wk lo5 hi5 (.agg #[p5, q5]) n5 r5
  B6 : Blk wk b6 #[p6, q6] 38
  O6 : OwnData wk lo6 hi6 (.agg #[p6, q6]) n6 r6

section
variable {wk wk' : World} {ba b4 b5 b6 lo5 hi5 lo6 hi6 : Nat} {pa qa p4 q4 p5 q5 p6 q6 : Value} {P4 : Nat → Prop} {n4 n5 n6 : List Nd} {r4 r5 r6 : List Int}
theorem LKept.below (h : LKept wk ba pa qa b4 p4 q4 P4 n4 r4 b5 p5 q5 lo5 hi5 n5 r5 b6 p6 q6 lo6 hi6 n6 r6) (hb : Below wk.heap.size wk wk') : LKept wk' ba pa qa b4 p4 q4 P4 n4 r4 b5 p5 q5 lo5 hi5 n5 r5 b6 p6 q6 lo6 hi6 n6 r6 := by
  have := h.l5; have := h.h5; have := h.l56; have := h.l6; have := h.h6; have := h.sz
  exact { h with
    A := h.A.below hb, B4 := h.B4.below hb, D4 := h.D4.below hb (fun b hp => by have := h.P4lt b hp; omega), sz := Nat.lt_of_lt_of_le h.sz hb.size
    B5 := h.B5.below hb, O5 := h.O5.below hb (by omega), B6 := h.B6.below hb, O6 := h.O6.below hb (by omega) }
theorem LKept.mark5 (h : LKept wk ba pa qa b4 p4 q4 P4 n4 r4 b5 p5 q5 lo5 hi5 n5 r5 b6 p6 q6 lo6 hi6 n6 r6) {k : Nat} {e : Ending} (hm : Marked k n5 r5 lo5 hi5 (.agg #[p5, q5]) wk e wk') :
    LKept wk' ba pa qa b4 p4 q4 P4 n4 r4 b5 p5 q5 lo5 hi5 (markNds k n5) (marks (k + tot n5) r5.length) b6 p6 q6 lo6 hi6 n6 r6 := by
  obtain ⟨_, m2, m3, m4⟩ := hm
  have := h.l5; have := h.h5; have := h.l56; have := h.l6; have := h.h6; have := h.sz; have := h.balt; have := h.b4lt
  exact { h with
    A := (m3 ba (by omega) (by omega)).trans h.A, B4 := (m3 b4 (by omega) (by omega)).trans h.B4
    D4 := h.D4.same (fun b hp => by have := h.P4lt b hp; exact m3 b (by omega) (by omega)), sz := Nat.lt_of_lt_of_le h.sz m2.size
    B5 := (m3 b5 (by omega) (by omega)).trans h.B5, O5 := m4, B6 := (m3 b6 (by omega) (by omega)).trans h.B6
    O6 := h.O6.carry (fun g h1 h2 => m3 g (by omega) (by omega)) }
theorem LKept.mark6 (h : LKept wk ba pa qa b4 p4 q4 P4 n4 r4 b5 p5 q5 lo5 hi5 n5 r5 b6 p6 q6 lo6 hi6 n6 r6) {k : Nat} {e : Ending} (hm : Marked k n6 r6 lo6 hi6 (.agg #[p6, q6]) wk e wk') :
    LKept wk' ba pa qa b4 p4 q4 P4 n4 r4 b5 p5 q5 lo5 hi5 n5 r5 b6 p6 q6 lo6 hi6 (markNds k n6) (marks (k + tot n6) r6.length) := by
  obtain ⟨_, m2, m3, m4⟩ := hm
  have := h.l5; have := h.h5; have := h.l56; have := h.l6; have := h.h6; have := h.sz; have := h.balt; have := h.b4lt
  exact { h with
    A := (m3 ba (by omega) (by omega)).trans h.A, B4 := (m3 b4 (by omega) (by omega)).trans h.B4
    D4 := h.D4.same (fun b hp => by have := h.P4lt b hp; exact m3 b (by omega) (by omega)), sz := Nat.lt_of_lt_of_le h.sz m2.size
    B5 := (m3 b5 (by omega) (by omega)).trans h.B5, O5 := h.O5.carry (fun g h1 h2 => m3 g (by omega) (by omega)), B6 := (m3 b6 (by omega) (by omega)).trans h.B6
    O6 := m4 }
theorem LKept.eq (h : LKept wk ba pa qa b4 p4 q4 P4 n4 r4 b5 p5 q5 lo5 hi5 n5 r5 b6 p6 q6 lo6 hi6 n4 r4) : Calls Tryd.prog 15 #[.agg #[p6, q6], .agg #[p4, q4]] wk fun e w' => e = .returned (.bool true) ∧ Below wk.heap.size wk w' := by
  have := h.l5; have := h.h5; have := h.l56; have := h.l6; have := h.h6; have := h.sz
  exact eq_true_any wk _ _ _ _ _ _ h.O6.dat h.D4 (fun b hb => by omega) (fun b hb => by have := h.P4lt b hb; omega)
theorem LKept.held {k N : Nat} {ns : List Nd} {n : Nat} (h : LKept wk ba pa qa b4 p4 q4 P4 n4 r4 b5 p5 q5 lo5 hi5 n5 r5 b6 p6 q6 lo6 hi6 (markNds k ns) (marks (k + tot ns) n)) (hN : k + tot ns + n = N) (hk : N ≤ 100000000000000) : Calls Tryd.prog 17 #[.agg #[p6, q6], .int .i64 k] wk fun e w' => e = .returned (.int .i64 N) ∧ Below wk.heap.size wk w' := by
  have := h.l5; have := h.h5; have := h.l56; have := h.l6; have := h.h6; have := h.sz
  have h2 := heldData_any wk _ _ k ns n h.O6.dat (fun b hb => by omega) (by omega)
  rw [hN] at h2
  exact h2
end

set_option maxHeartbeats 4000000 in
set_option maxRecDepth 100000 in
theorem law_go (w : World) (P : Nat → Prop) (nv rv : Value) (ns : List Nd) (rs : List Int) (h1 : Nodes w P nv ns) (h2 : Ints w P rv rs) (hP : ∀ b, P b → b < w.heap.size) (ht : Tab w) (hso : ∀ d ∈ ns, -9223372036854775808 ≤ d.sort ∧ d.sort ≤ 9223372036854775807) :
    Calls Tryd.prog 4 #[.agg #[nv, rv]] w (LawPost w) := by
  obtain ⟨na, nc, rfl⟩ := h1.shape
  obtain ⟨ra, rc, rfl⟩ := h2.shape
  have hD : Dat w P (.agg #[.slice na ns.length nc, .slice ra rs.length rc]) ns rs := ⟨_, _, rfl, h1, h2⟩
  have HTO := Lib.hid (fun wx (h : Below w.heap.size w wx) => toData_any wx P _ ns rs (hD.same fun b hb => h.block b (hP b hb)) (fun b hb => Nat.lt_of_lt_of_le (hP b hb) h.size))
  have HSZ := Lib.hid (fun wx (h : Below w.heap.size w wx) => szData_any wx P _ ns rs (hD.same fun b hb => h.block b (hP b hb)) (fun b hb => Nat.lt_of_lt_of_le (hP b hb) h.size))
  have HT := Lib.hid ht
  have HSO := Lib.hid hso
  have BA := Blk.new w #[.slice na ns.length nc, .slice ra rs.length rc] 34
  have hbA := below1 w (.cells #[.slice na ns.length nc, .slice ra rs.length rc] 34)
  have hAs : (w.alloc (.cells #[.slice na ns.length nc, .slice ra rs.length rc] 34)).heap.size = w.heap.size + 1 := by simp
  generalize hnl : ns.length = nl at *
  generalize hrl : rs.length = rl at *
  have HNL := Lib.hid hnl
  have HRL := Lib.hid hrl
  clear h1 h2 hP ht hso hD hnl hrl
  by_cases hbk : bulk ns rs ≤ 1048576
  · have hv : szRes 1048576 (bulk ns rs) = 1048576 - (bulk ns rs : Int) := szRes_yes (by omega)
    have hv0 : 0 ≤ szRes 1048576 (bulk ns rs) := by omega
    generalize szRes 1048576 (bulk ns rs) = L at *
    have HBK := Lib.hid hbk
    have HTS := Lib.hid (tot_small hbk)
    have HSS := Lib.hid (spec_small hbk)
    have HTX : Hid (∀ d ∈ ns, d.text.size ≤ 1048576) := fun d hd => by
      have h3 := bulk_mem hd
      unfold bulk at hbk
      unfold Nd.bulk at h3
      omega
    clear hv hbk
    go_enter Tryd.func4, Tryd.ntmps4
    go_wp2_with fail
    refine (HSZ.out _ hbA).mono ?_
    rintro e w1 ⟨rfl, hb1⟩
    have hw1 : Below w.heap.size w w1 := hbA.trans (hb1.mono (by omega))
    have A1 := BA.below hb1
    have a0 := A1.cell0 (o := 0) (v := .slice na nl nc) rfl
    have a1 := A1.cell0 (o := 1) (v := .slice ra rl rc) rfl
    clear hb1 BA hbA hAs
    go_wp2_with fail
    refine (HTO.out _ hw1).mono ?_
    rintro e w2 ⟨v2, rfl, hb2, hA2⟩
    have hw2 : Below w.heap.size w w2 := hw1.trans (hb2.mono hw1.size)
    have A2 := A1.below hb2
    have hs12 := hw1.size
    have HS2 := Lib.hid (specMin_any w2 _ _ v2 ns rs hA2 (Nat.le_refl _))
    clear hb2 hA2 a0 a1 A1
    go_wp2_with fail
    refine HS2.out.mono ?_
    rintro e w3 ⟨v3, rfl, hb3, hD3⟩
    have hw3 : Below w.heap.size w w3 := hw2.trans (hb3.mono hw2.size)
    have A3 := A2.below hb3
    have hA3l := A3.lt
    obtain ⟨a3, n3, c3, a3', n3', c3', rfl⟩ := hD3.shape
    have HD3 := Lib.hid hD3
    clear hD3 hb3 HS2 A2
    have A4 := A3.alloc (.cells #[.slice a3 n3 c3, .slice a3' n3' c3'] 38)
    have a0 := A4.cell0 (o := 0) (v := .slice na nl nc) rfl
    have a1 := A4.cell0 (o := 1) (v := .slice ra rl rc) rfl
    have B4 := Blk.new w3 #[.slice a3 n3 c3, .slice a3' n3' c3'] 38
    have hw4 : Below w.heap.size w (w3.alloc (.cells #[.slice a3 n3 c3, .slice a3' n3' c3'] 38)) := hw3.alloc hw3.size _
    have HD4 : Hid (Dat (w3.alloc (.cells #[.slice a3 n3 c3, .slice a3' n3' c3'] 38)) (fun b => w2.heap.size ≤ b ∧ b < w3.heap.size) (.agg #[.slice a3 n3 c3, .slice a3' n3' c3']) (specNs ns rs) (specRs ns rs)) := HD3.out.below (below1 _ _) (fun b hb => hb.2)
    have hs34 : (w3.alloc (.cells #[.slice a3 n3 c3, .slice a3' n3' c3'] 38)).heap.size = w3.heap.size + 1 := by simp
    go_wp2_with fail
    refine (HTO.out _ hw4).mono ?_
    rintro e w5 ⟨v5, rfl, hb5, hA5⟩
    generalize (w3.alloc (.cells #[.slice a3 n3 c3, .slice a3' n3' c3'] 38)) = w4 at *
    generalize Value.slice a3 n3 c3 = p4 at *
    generalize Value.slice a3' n3' c3' = q4 at *
    have hw5 : Below w.heap.size w w5 := hw4.trans (hb5.mono hw4.size)
    have hs45 := hb5.size
    obtain ⟨a5, n5, c5, a5', n5', c5', rfl⟩ := hA5.own.shape
    have A5 := A4.below hb5
    have B45 := B4.below hb5
    have HD5 : Hid (Dat w5 (fun b => w2.heap.size ≤ b ∧ b < w3.heap.size) (.agg #[p4, q4]) (specNs ns rs) (specRs ns rs)) := HD4.out.below hb5 (fun b hb => by omega)
    have HA5 := Lib.hid hA5
    clear hb5 hA5 a0 a1 A4 B4 HD4 HD3 A3
    have A6 := A5.alloc (.cells #[.slice a5 n5 c5, .slice a5' n5' c5'] 38)
    have B46 := B45.alloc (.cells #[.slice a5 n5 c5, .slice a5' n5' c5'] 38)
    have B56 := Blk.new w5 #[.slice a5 n5 c5, .slice a5' n5' c5'] 38
    have HD6 : Hid (Dat (w5.alloc (.cells #[.slice a5 n5 c5, .slice a5' n5' c5'] 38)) (fun b => w2.heap.size ≤ b ∧ b < w3.heap.size) (.agg #[p4, q4]) (specNs ns rs) (specRs ns rs)) := HD5.out.below (below1 _ _) (fun b hb => by omega)
    have HA6 : Hid (OwnDataA (w5.alloc (.cells #[.slice a5 n5 c5, .slice a5' n5' c5'] 38)) w4.heap.size w5.heap.size (.agg #[.slice a5 n5 c5, .slice a5' n5' c5']) ns rs) := HA5.out.below (below1 _ _) (Nat.le_refl _)
    have hw6 : Below w.heap.size w (w5.alloc (.cells #[.slice a5 n5 c5, .slice a5' n5' c5'] 38)) := hw5.alloc hw5.size _
    have hs56 : (w5.alloc (.cells #[.slice a5 n5 c5, .slice a5' n5' c5'] 38)).heap.size = w5.heap.size + 1 := by simp
    have HI6 := Lib.hid (implMin_any _ _ _ _ ns rs HA6.out (by omega) (HT.out.on hw6) HSO.out HTX.out)
    go_wp2_with fail
    refine HI6.out.mono ?_
    rintro e w7 ⟨v7, rfl, hb7, hO7⟩
    generalize (w5.alloc (.cells #[.slice a5 n5 c5, .slice a5' n5' c5'] 38)) = w6 at *
    generalize Value.slice a5 n5 c5 = p5 at *
    generalize Value.slice a5' n5' c5' = q5 at *
    have hw7 : Below w.heap.size w w7 := hw6.trans (hb7.mono hw6.size)
    have hs67 := hb7.size
    obtain ⟨a7, n7, c7, a7', n7', c7', rfl⟩ := hO7.shape
    have hw8 : Below w.heap.size w (w7.alloc (.cells #[.slice a7 n7 c7, .slice a7' n7' c7'] 38)) := hw7.alloc hw7.size _
    have hK8 : Hid (LKept (w7.alloc (.cells #[.slice a7 n7 c7, .slice a7' n7' c7'] 38)) w.heap.size (.slice na nl nc) (.slice ra rl rc) w3.heap.size p4 q4 (fun b => w2.heap.size ≤ b ∧ b < w3.heap.size) (specNs ns rs) (specRs ns rs) w5.heap.size p5 q5 w4.heap.size w5.heap.size ns rs w7.heap.size (.slice a7 n7 c7) (.slice a7' n7' c7') w6.heap.size w7.heap.size (specNs ns rs) (specRs ns rs)) :=
      ⟨(A6.below hb7).alloc _, (B46.below hb7).alloc _, (HD6.out.below hb7 (fun b hb => by omega)).below (below1 _ _) (fun b hb => by omega), fun b hb => by omega, by omega, by omega, hs45, Nat.le_refl _, by omega, hs67, Nat.le_refl _, by simp, (B56.below hb7).alloc _,
        (HA6.out.own.below hb7 (by omega)).below (below1 _ _) (by omega), Blk.new _ _ _, hO7.below (below1 _ _) (Nat.le_refl _)⟩
    clear HI6 hb7 hO7 A6 B46 B56 HD6 HA6 A5 B45 HD5 HA5
    have g0 := hK8.out.B6.cell0 (o := 0) (v := .slice a7 n7 c7) rfl
    have g1 := hK8.out.B6.cell0 (o := 1) (v := .slice a7' n7' c7') rfl
    have s0 := hK8.out.B4.cell0 (o := 0) (v := p4) rfl
    have s1 := hK8.out.B4.cell0 (o := 1) (v := q4) rfl
    have HEQ := Lib.hid (fun wk p6 q6 (hK : LKept wk w.heap.size (.slice na nl nc) (.slice ra rl rc) w3.heap.size p4 q4 (fun b => w2.heap.size ≤ b ∧ b < w3.heap.size) (specNs ns rs) (specRs ns rs) w5.heap.size p5 q5 w4.heap.size w5.heap.size ns rs w7.heap.size p6 q6 w6.heap.size w7.heap.size (specNs ns rs) (specRs ns rs)) =>
      eq_true_any wk _ _ _ _ _ _ hK.O6.dat hK.D4 (fun b hb => by have := hK.sz; omega) (fun b hb => by have := hK.sz; omega))
    have HE8 := Lib.hid (HEQ.out _ _ _ hK8.out)
    go_wp2_with fail
    refine HE8.out.mono ?_
    rintro e w9 ⟨rfl, hb9⟩
    have hw9 : Below w.heap.size w w9 := hw8.trans (hb9.mono hw8.size)
    have hK9 := Lib.hid (hK8.out.below hb9)
    generalize Value.slice a7 n7 c7 = p6 at *
    generalize Value.slice a7' n7' c7' = q6 at *
    clear hb9 HE8 hK8 g0 g1 s0 s1
    have x0 := hK9.out.B5.cell0 (o := 0) (v := p5) rfl
    have x1 := hK9.out.B5.cell0 (o := 1) (v := q5) rfl
    have a0 := hK9.out.A.cell0 (o := 0) (v := .slice na nl nc) rfl
    have a1 := hK9.out.A.cell0 (o := 1) (v := .slice ra rl rc) rfl
    have hb5l := hK9.out.B5.lt
    have hbal := hK9.out.A.lt
    have KS := Lib.hid (fun w' (h : Below w9.heap.size w9 w') => (⟨(h.cell (p := ⟨w5.heap.size, 0, none⟩) hb5l).trans x0, (h.cell (p := ⟨w5.heap.size, 1, none⟩) hb5l).trans x1, (h.cell (p := ⟨w.heap.size, 0, none⟩) hbal).trans a0, (h.cell (p := ⟨w.heap.size, 1, none⟩) hbal).trans a1⟩ : w'.cell? ⟨w5.heap.size, 0, none⟩ = some p5 ∧ w'.cell? ⟨w5.heap.size, 1, none⟩ = some q5 ∧ w'.cell? ⟨w.heap.size, 0, none⟩ = some (.slice na nl nc) ∧ w'.cell? ⟨w.heap.size, 1, none⟩ = some (.slice ra rl rc)))
    have HTO9 := Lib.hid (HTO.out _ hw9.drew)
    have HEQ9 := Lib.hid (fun wx (h : Below w9.heap.size w9 wx) va (hA : OwnDataA wx w9.heap.size wx.heap.size va ns rs) =>
      eq_true_any wx _ _ _ _ _ _ (hK9.out.below h).O5.dat hA.own.dat (fun b hb => by have := hK9.out.h5; have := h.size; omega) (fun b hb => hb.2))
    go_wp2_with fail
    go_region_held3 (fun w' => w'.cell? ⟨w5.heap.size, 0, none⟩ = some p5 ∧ w'.cell? ⟨w5.heap.size, 1, none⟩ = some q5 ∧ w'.cell? ⟨w.heap.size, 0, none⟩ = some (.slice na nl nc) ∧ w'.cell? ⟨w.heap.size, 1, none⟩ = some (.slice ra rl rc))
      (first | exact ⟨x0, x1, a0, a1⟩ | exact KS.out _ ((Below.refl _ w9).drew.trans hbA) | exact KS.out _ (((Below.refl _ w9).drew.trans hbA).trans (hbB.mono hbA.size)) | fail)
      (first | (go_at_call 13; refine HTO9.out.mono ?_; rintro e wA ⟨vA, rfl, hbA, hAA⟩) | (go_at_call 15; refine (HEQ9.out _ ((Below.refl _ w9).drew.trans hbA) _ hAA).mono ?_; rintro e w10 ⟨rfl, hbB⟩) | fail)
    have hb10 : Below w9.heap.size w9 w10 := ((Below.refl _ w9).drew.trans hbA).trans (hbB.mono hbA.size)
    have hw10 : Below w.heap.size w w10 := hw9.trans (hb10.mono hw9.size)
    have hK10 := Lib.hid (hK9.out.below hb10)
    clear hbA hbB hAA hb10 HEQ9 HTO9 KS x0 x1 a0 a1 hb5l hbal hK9
    have x0 := hK10.out.B5.cell0 (o := 0) (v := p5) rfl
    have x1 := hK10.out.B5.cell0 (o := 1) (v := q5) rfl
    have HMX : Hid (Calls Tryd.prog 16 #[.agg #[p5, q5], .int .i64 1] w10 (Marked 1 ns rs w4.heap.size w5.heap.size (.agg #[p5, q5]) w10)) := markData_any w10 _ _ 1 _ ns rs hK10.out.O5 (by have := hK10.out.h5; have := hK10.out.l56; have := hK10.out.l6; have := hK10.out.h6; have := hK10.out.sz; omega) HTS.out
    obtain ⟨N5, hN5⟩ : ∃ N, 1 + tot ns + rs.length = N := ⟨_, rfl⟩
    go_wp2_with fail
    refine HMX.out.mono ?_
    rintro e w11 hm
    have he := hm.1
    rw [hN5] at he
    subst he
    have hK11 := Lib.hid (hK10.out.mark5 hm)
    have hw11 : Below w.heap.size w w11 := hw10.trans (hm.2.1.mono hw4.size)
    have HN5 := Lib.hid hN5
    clear hm HMX x0 x1 hK10 hN5
    have hd : decide ((N5 : Int) < 0) = false := decide_eq_false (by omega)
    have g0 := hK11.out.B6.cell0 (o := 0) (v := p6) rfl
    have g1 := hK11.out.B6.cell0 (o := 1) (v := q6) rfl
    have s0 := hK11.out.B4.cell0 (o := 0) (v := p4) rfl
    have s1 := hK11.out.B4.cell0 (o := 1) (v := q4) rfl
    have HE11 := Lib.hid hK11.out.eq
    go_wp2_with fail
    refine HE11.out.mono ?_
    rintro e w12 ⟨rfl, hb12⟩
    have hw12 : Below w.heap.size w w12 := hw11.trans (hb12.mono hw11.size)
    have hK12 := Lib.hid (hK11.out.below hb12)
    clear hb12 HE11 hK11 g0 g1 s0 s1 hd
    have g0 := hK12.out.B6.cell0 (o := 0) (v := p6) rfl
    have g1 := hK12.out.B6.cell0 (o := 1) (v := q6) rfl
    have HMG : Hid (Calls Tryd.prog 16 #[.agg #[p6, q6], .int .i64 1] w12 (Marked 1 (specNs ns rs) (specRs ns rs) w6.heap.size w7.heap.size (.agg #[p6, q6]) w12)) := markData_any w12 _ _ 1 _ _ _ hK12.out.O6 (by have := hK12.out.h6; have := hK12.out.sz; omega) HSS.out
    obtain ⟨N6, hN6⟩ : ∃ N, 1 + tot (specNs ns rs) + (specRs ns rs).length = N := ⟨_, rfl⟩
    have hN6b : N6 ≤ 100000000000000 := hN6 ▸ HSS.out
    go_wp2_with fail
    refine HMG.out.mono ?_
    rintro e w13 hm
    have he := hm.1
    rw [hN6] at he
    subst he
    have hK13 := Lib.hid (hK12.out.mark6 hm)
    have hw13 : Below w.heap.size w w13 := hw12.trans (hm.2.1.mono (Nat.le_trans hw4.size (by omega)))
    have HN6 := Lib.hid hN6
    have HN6B := Lib.hid hN6b
    clear hm HMG g0 g1 hK12 hN6 hN6b
    have g0 := hK13.out.B6.cell0 (o := 0) (v := p6) rfl
    have g1 := hK13.out.B6.cell0 (o := 1) (v := q6) rfl
    have HH13 : Hid (Calls Tryd.prog 17 #[.agg #[p6, q6], .int .i64 1] w13 fun e w' => e = .returned (.int .i64 N6) ∧ Below w13.heap.size w13 w') := hK13.out.held (k := 1) HN6.out HN6B.out
    go_wp2_with fail
    refine HH13.out.mono ?_
    rintro e w14 ⟨rfl, hb14⟩
    have hw14 : Below w.heap.size w w14 := hw13.trans (hb14.mono hw13.size)
    have hK14 := Lib.hid (hK13.out.below hb14)
    clear hb14 HH13 hK13 g0 g1
    have hn60 : (0 : Int) ≤ N6 := by omega
    have a0 := hK14.out.A.cell0 (o := 0) (v := .slice na nl nc) rfl
    have a1 := hK14.out.A.cell0 (o := 1) (v := .slice ra rl rc) rfl
    go_wp2_with fail
    refine (HTO.out _ hw14).mono ?_
    rintro e w15 ⟨v15, rfl, hb15, hA15⟩
    have hw15 : Below w.heap.size w w15 := hw14.trans (hb15.mono hw14.size)
    have hK15 := Lib.hid (hK14.out.below hb15)
    have HI15 := Lib.hid (implMin_any _ _ _ _ ns rs hA15 (Nat.le_refl _) (HT.out.on hw15) HSO.out HTX.out)
    clear hb15 hA15 hK14 a0 a1
    go_wp2_with fail
    refine HI15.out.mono ?_
    rintro e w16 ⟨v16, rfl, hb16, hO16⟩
    have hw16 : Below w.heap.size w w16 := hw15.trans (hb16.mono hw15.size)
    have hK16 := Lib.hid (hK15.out.below hb16)
    obtain ⟨a8, n8, c8, a8', n8', c8', rfl⟩ := hO16.shape
    have hK17 := Lib.hid (hK16.out.below (below1 w16 (.cells #[.slice a8 n8 c8, .slice a8' n8' c8'] 38)))
    have hw17 : Below w.heap.size w (w16.alloc (.cells #[.slice a8 n8 c8, .slice a8' n8' c8'] 38)) := hw16.alloc hw16.size _
    have hO17 := Lib.hid (hO16.below (below1 w16 (.cells #[.slice a8 n8 c8, .slice a8' n8' c8'] 38)) (Nat.le_refl _))
    have B17 := Blk.new w16 #[.slice a8 n8 c8, .slice a8' n8' c8'] 38
    have h0 := B17.cell0 (o := 0) (v := .slice a8 n8 c8) rfl
    have h1 := B17.cell0 (o := 1) (v := .slice a8' n8' c8') rfl
    have s0 := hK17.out.B4.cell0 (o := 0) (v := p4) rfl
    have s1 := hK17.out.B4.cell0 (o := 1) (v := q4) rfl
    have HE17 := Lib.hid (eq_true_any (w16.alloc (.cells #[.slice a8 n8 c8, .slice a8' n8' c8'] 38)) _ _ _ _ _ _ hO17.out.dat hK17.out.D4 (fun b hb => by simp; omega) (fun b hb => by have := hK17.out.P4lt b hb; have := hK17.out.l5; have := hK17.out.h5; have := hK17.out.l56; have := hK17.out.l6; have := hK17.out.h6; have := hK17.out.sz; omega))
    clear HI15 hb16 hO16 hK15 hK16 hO17
    go_wp2_with fail
    refine HE17.out.mono ?_
    rintro e w18 ⟨rfl, hb18⟩
    have hw18 : Below w.heap.size w w18 := hw17.trans (hb18.mono hw17.size)
    have hK18 := Lib.hid (hK17.out.below hb18)
    clear hb18 HE17 hK17 B17 h0 h1 s0 s1
    have g0 := hK18.out.B6.cell0 (o := 0) (v := p6) rfl
    have g1 := hK18.out.B6.cell0 (o := 1) (v := q6) rfl
    have HH18 : Hid (Calls Tryd.prog 17 #[.agg #[p6, q6], .int .i64 1] w18 fun e w' => e = .returned (.int .i64 N6) ∧ Below w18.heap.size w18 w') := hK18.out.held (k := 1) HN6.out HN6B.out
    go_wp2_with fail
    refine HH18.out.mono ?_
    rintro e w19 ⟨rfl, hb19⟩
    have hw19 : Below w.heap.size w w19 := hw18.trans (hb19.mono hw18.size)
    clear hb19 HH18 hK18 g0 g1
    go_wp2
    go_ret
    exact ⟨rfl, hw19⟩
  · have hv : szRes 1048576 (bulk ns rs) = -1 := szRes_no (by omega)
    rw [hv] at HSZ
    clear hv hbk
    go_enter Tryd.func4, Tryd.ntmps4
    go_wp2_with fail
    refine (HSZ.out _ hbA).mono ?_
    rintro e w1 ⟨rfl, hb1⟩
    have hw1 : Below w.heap.size w w1 := hbA.trans (hb1.mono (by omega))
    clear hb1
    go_wp2
    go_ret
    exact ⟨rfl, hw1⟩
end Go.Proofs.YtjpkmcaogekkdaaDoor.Rm
