/- A pair's parts written in the reference's writer, walked, where the nodes and the deeper pairs are. -/
import Derived.Test.YtjpkmcaogekkdaaDoorWrI
import Derived.Deep.DeepCutAuto
import Derived.StillTailTactics

namespace Go.Proofs.YtjpkmcaogekkdaaDoor.Wr
open Go.RowKit Go.Proofs.YtjpkmcaogekkdaaDoor.Rm Go.Proofs.YtjpkmcaogekkdaaDoor.Nu Go.Proofs.YtjpkmcaogekkdaaDoor.Gr
set_option linter.unusedVariables false
set_option linter.unusedSimpArgs false

theorem around_wt2 (w : World) (b : Nat) (nv : Value) (ns : List Nd) (A M : List Int) (cnt : Int) (out : ByteArray) (ov : Bool) (x : Int) (h : Wt w b nv A M cnt out ov) (hN : NdW w b nv ns) (hx : inR ns.length x = true) :
    ∃ av, w.cell? ⟨b, 2, none⟩ = some av ∧ (∃ a c, av = .slice a A.length c) ∧ Calls Tryd.prog 114 #[nv, .int .i64 x, av] w (ABool w) := by
  have hb := h.lt
  obtain ⟨av, mv, hB, hA, _, _, _, _, _, _, hA1⟩ := h
  obtain ⟨a, c, e, _⟩ := hA.shape
  exact ⟨av, hB.cell0 (o := 2) rfl, ⟨a, c, e⟩, around_wt w b nv av mv nv nv nv nv nv ns A x hN hb hA hA1 hx⟩

set_option maxHeartbeats 4000000 in
set_option maxRecDepth 100000 in
theorem pairs_any (ns : List Nd) (b : Nat) (nv : Value) (A M : List Int) (hlen : A.length < 1000) (hko : ∀ d ∈ ns, kidsOk ns.length d = true)
    (HN : NodeAt ns b nv A M) (HP : ∀ x m, inR ns.length x = true → x ∉ A → PairAt ns b nv (A ++ [x]) (M ++ [m])) : PairAt ns b nv A M := by
  intro w cnt out ov x d h hnd hx hd hk2
  have hb := h.lt
  have HW := Lib.hid h
  have HND := Lib.hid hnd
  obtain ⟨nb, no, nc, rfl, hnb, h80, hki, hcells⟩ := hnd
  obtain ⟨xn, rfl⟩ : ∃ xn : Nat, x = xn := ⟨x.toNat, by simp [inR] at hx; omega⟩
  have hxn : xn < ns.length := by simp [inR] at hx; omega
  have hx0 : (0 : Int) ≤ xn := by omega
  have hd' : ns[xn]? = some d := by simpa using hd
  obtain ⟨a0, a1, kv, a2, a3⟩ := hcells xn d hd'
  obtain ⟨y0, hy0⟩ := getSome d.kids 0 (by omega)
  obtain ⟨y1, hy1⟩ := getSome d.kids 1 (by omega)
  obtain ⟨kb, ko, kc, rfl, hkb, k0, k1⟩ : ∃ kb ko kc, kv = .slice (some ⟨kb, ko, none⟩) 2 kc ∧ kb < b ∧ w.cell? ⟨kb, ko, none⟩ = some (.int .i64 y0) ∧ w.cell? ⟨kb, ko + 1, none⟩ = some (.int .i64 y1) := by
    obtain ⟨_, ⟨b', o', c', h1, h2, h3⟩ | ⟨h1, _⟩⟩ := a3
    · rw [hk2] at h1
      exact ⟨b', o', c', h1, h2, h3 0 y0 hy0, h3 1 y1 hy1⟩
    · rw [h1] at hk2
      simp at hk2
  have HY0 := Lib.hid (hki d (List.mem_of_getElem? hd') y0 (List.mem_of_getElem? hy0))
  have hy1R := hki d (List.mem_of_getElem? hd') y1 (List.mem_of_getElem? hy1)
  have HY1 := Lib.hid hy1R
  obtain ⟨yn, rfl⟩ : ∃ yn : Nat, y1 = yn := ⟨y1.toNat, by simp [inR] at hy1R; omega⟩
  have hyn : yn < ns.length := by simp [inR] at hy1R; omega
  have hyn0 : (0 : Int) ≤ yn := by omega
  obtain ⟨f, hf⟩ := getSome ns yn hyn
  obtain ⟨s0, _, _, _, _⟩ := hcells yn f hf
  have HNW := Lib.hid (HN w cnt out ov y0 h HND.out HY0.out)
  obtain ⟨av, mv, hB, _⟩ := h
  have c0 := hB.cell0 (o := 0) (v := .slice (some ⟨nb, no, none⟩) ns.length nc) rfl
  have HF := Lib.hid hf
  have HKF := Lib.hid (hko f (List.mem_of_getElem? hf))
  have HNN := Lib.hid HN
  have HPP := Lib.hid HP
  clear HN HP hko hki hcells a3 hd hd' hy0 hy1 hy1R hx hB hf
  go_enter Tryd.func98, Tryd.ntmps98
  go_wp2_with (go_at_call 82; refine HNW.out.mono ?_; rintro e w2 hdn; obtain ⟨cnt2, out2, ov2, rfl, hW2, hF2⟩ := hdn; have hb2 := hF2.below HW.out; have d0 := (let ⟨_, _, hB2, _⟩ := hW2; hB2.cell0 (o := 0) (v := .slice (some ⟨nb, no, none⟩) ns.length nc) rfl); have d2 := (hb2.cell (p := ⟨nb, no + xn * 3 + 2, none⟩) hnb).trans a2; have d3 := (hb2.cell (p := ⟨kb, ko + 1, none⟩) hkb).trans k1)
  have HLB := Lib.hid (label_any _ _ _ _ _ _ _ _ (yn : Int) hW2)
  clear c0 a0 a1 a2 k0 k1 d2 d3
  go_upto_if 42 with (go_at_call 95; refine HLB.out.mono ?_; rintro e w3 ⟨name, first, rfl, hfi, hns, hb3⟩; have HFI := Lib.hid hfi; clear hfi; have hW3 := hW2.below hb3; have hF3 := hF2.trans (FrW.of_below hb3 hW2.lt); have c6 := (let ⟨_, _, hB3, _⟩ := hW3; hB3.cell0 (o := 6) (v := .bool ov2) rfl))
  have HW3 := Lib.hid hW3
  have e0 := (let ⟨_, _, hB3, _⟩ := hW3; hB3.cell0 (o := 0) (v := .slice (some ⟨nb, no, none⟩) ns.length nc) rfl)
  have es := ((hF3.below HW.out).cell (p := ⟨nb, no + yn * 3, none⟩) hnb).trans s0
  cases ov2
  · by_cases h6 : f.sort = 6
    · have e6 : (f.sort == 6) = true := by rw [h6]; rfl
      have HP1 := Lib.hid (put_any _ _ _ _ _ _ _ _ ⟨#[41]⟩ hW3 (show 1 ≤ 100000000 by omega))
      go_wp2_with (go_at_call 81; refine HP1.out.mono ?_; rintro e w4 hdn; obtain ⟨cnt4, out4, ov4, rfl, hW4, hF4⟩ := hdn)
      go_end0
      exact ⟨cnt4, out4, ov4, rfl, hW4, hF3.trans hF4⟩
    · have e6 : (f.sort == 6) = false := by rw [beq_eq_false_iff_ne]; exact h6
      go_upto_region 9 with fail
      go_cut [59] (fun v wc => ∃ go : Bool, v = .bool go ∧ (go = true → first = true) ∧ (go = true → f.sort = 7) ∧ Wt wc b (.slice (some ⟨nb, no, none⟩) ns.length nc) A M cnt2 out2 false ∧ FrW b w wc)
      case first =>
        by_cases h7 : f.sort = 7
        · have e7 : (f.sort == 7) = true := by rw [h7]; rfl
          cases first
          · go_quiet (fail)
            go_wp2_with fail
            go_meet
            case rel => exact ⟨false, rfl, by simp, by simp, HW3.out.below (Gr.below_drewN (Below.refl _ _) _), hF3.trans (FrW.of_below (Gr.below_drewN (Below.refl _ _) _) HW3.out.lt)⟩
          · have HAR := Lib.hid (around_wt2 _ b _ ns A M cnt2 out2 false (yn : Int) (HW3.out.below (Below.refl _ _).drew) (HND.out.below ((hF3.below HW.out).drew)) HY1.out)
            obtain ⟨av, ca, ⟨aa, ac, rfl⟩, har⟩ := HAR.out
            clear HAR
            have HAR := Lib.hid har
            clear har
            have ca' := ca
            go_still_tail 22, (by kernel_rfl)
            change wpList _ _ _ _ _ w3.drew
            go_wp2_with (go_at_call 114; refine HAR.out.mono ?_; rintro e w5 ⟨around, rfl, hb5⟩)
            go_meet
            case rel => exact ⟨!around, rfl, by simp, fun _ => h7, HW3.out.below (below_then (Below.refl _ _).drew hb5 (Nat.le_refl _)), hF3.trans (FrW.of_below (below_then (Below.refl _ _).drew hb5 (Nat.le_refl _)) HW3.out.lt)⟩
        · have e7 : (f.sort == 7) = false := by rw [beq_eq_false_iff_ne]; exact h7
          go_quiet (fail)
          go_wp2_with fail
          go_meet
          case rel => exact ⟨false, rfl, by simp, by simp, HW3.out.below (Gr.below_drewN (Below.refl _ _) _), hF3.trans (FrW.of_below (Gr.below_drewN (Below.refl _ _) _) HW3.out.lt)⟩
      case rest =>
        obtain ⟨go, rfl, hgf, hg7, hW5, hF5⟩ := hcut
        have HIN : Hid (go = true → (yn : Int) ∉ A) := fun h => HFI.out.1 (hgf h)
        clear hgf e0 es c6 d0 s0 hW3 hF3 hb3 hW2 hF2 hb2
        cases go
        · have HP1 := Lib.hid (put_any _ _ _ _ _ _ _ _ ⟨#[32, 46, 32]⟩ hW5 (show 3 ≤ 100000000 by omega))
          clear hg7
          go_wp2_with (first | (go_at_call 82; refine (HNN.out _ _ _ _ _ hW6 (HND.out.below (hF6.below HW.out)) HY1.out).mono ?_; rintro e w7 hdn; obtain ⟨cnt7, out7, ov7, rfl, hW7, hF7⟩ := hdn; replace hF7 := hF6.trans hF7; have HP2 := Lib.hid (put_any _ _ _ _ _ _ _ _ ⟨#[41]⟩ hW7 (show 1 ≤ 100000000 by omega))) | (go_at_call 81; refine HP2.out.mono ?_; rintro e w8 hdn; obtain ⟨cnt8, out8, ov8, rfl, hW8, hF8⟩ := hdn) | (go_at_call 81; refine HP1.out.mono ?_; rintro e w6 hdn; obtain ⟨cnt6, out6, ov6, rfl, hW6, hF6⟩ := hdn; replace hF6 := hF5.trans hF6))
          go_end0
          exact ⟨cnt8, out8, ov8, rfl, hW8, hF7.trans hF8⟩
        · have hin := Lib.hid (HIN.out rfl)
          have h7 := hg7 rfl
          have HP1 := Lib.hid (put_any _ _ _ _ _ _ _ _ ⟨#[32]⟩ hW5 (show 1 ≤ 100000000 by omega))
          clear hg7
          go_wp2_with (first | (go_at_call 81; refine HP1.out.mono ?_; rintro e w6 hdn; obtain ⟨cnt6, out6, ov6, rfl, hW6, hF6⟩ := hdn; replace hF6 := hF5.trans hF6) | (go_at_call 96; refine (enter_any _ _ _ ns _ _ _ _ _ _ hW6 (HND.out.below (hF6.below HW.out)) HY1.out hlen).mono ?_; rintro e w7 hdn; obtain ⟨m7, cnt7, out7, ov7, rfl, hW7, hF7⟩ := hdn; replace hF7 := hF6.trans hF7) | (go_at_call 98; refine (HPP.out _ m7 HY1.out hin.out _ _ _ _ _ f hW7 (HND.out.below (hF7.below HW.out)) HY1.out (by simpa using HF.out) (two_kids h7 HKF.out)).mono ?_; rintro e w8 hdn; obtain ⟨cnt8, out8, ov8, rfl, hW8, hF8⟩ := hdn; replace hF8 := hF7.trans hF8) | (go_at_call 99; refine (leave_any _ _ _ _ _ _ _ _ _ _ hW8).mono ?_; rintro e w9 hdn; obtain ⟨cnt9, out9, ov9, rfl, hW9, hF9⟩ := hdn))
          go_end0
          exact ⟨cnt9, out9, ov9, rfl, hW9, hF8.trans hF9⟩
  · go_wp2
    go_end0
    exact ⟨cnt2, out2, true, rfl, hW3, hF3⟩

theorem both_at (ns : List Nd) (b : Nat) (nv : Value) (h80 : ns.length ≤ 80) (htx : ∀ d ∈ ns, TxOk d) (hko : ∀ d ∈ ns, kidsOk ns.length d = true) :
    ∀ (k : Nat) (A M : List Int), Rm.Good ns.length A → ns.length - A.length ≤ k → NodeAt ns b nv A M ∧ PairAt ns b nv A M := by
  intro k
  induction k with
  | zero =>
    intro A M hA hk
    have hlen : A.length < 1000 := by have := hA.le; omega
    have hno : ∀ x, inR ns.length x = true → x ∉ A → False := fun x hx hn => by
      have h1 := (hA.snoc hx hn).le
      simp at h1
      omega
    have h1 := node_any ns b nv A M hlen htx hko (fun x m hx hn => (hno x hx hn).elim) (fun x m hx hn => (hno x hx hn).elim)
    exact ⟨h1, pairs_any ns b nv A M hlen hko h1 (fun x m hx hn => (hno x hx hn).elim)⟩
  | succ k ih =>
    intro A M hA hk
    have hlen : A.length < 1000 := by have := hA.le; omega
    have hst : ∀ x (m : Int), inR ns.length x = true → x ∉ A → NodeAt ns b nv (A ++ [x]) (M ++ [m]) ∧ PairAt ns b nv (A ++ [x]) (M ++ [m]) := fun x m hx hn =>
      ih (A ++ [x]) (M ++ [m]) (hA.snoc hx hn) (by simp; omega)
    have h1 := node_any ns b nv A M hlen htx hko (fun x m hx hn => (hst x m hx hn).1) (fun x m hx hn => (hst x m hx hn).2)
    exact ⟨h1, pairs_any ns b nv A M hlen hko h1 (fun x m hx hn => (hst x m hx hn).2)⟩

/-- a node, nothing above it -/
theorem node_at (ns : List Nd) (b : Nat) (nv : Value) (h80 : ns.length ≤ 80) (htx : ∀ d ∈ ns, TxOk d) (hko : ∀ d ∈ ns, kidsOk ns.length d = true) : NodeAt ns b nv [] [] :=
  (both_at ns b nv h80 htx hko ns.length [] [] ⟨List.nodup_nil, fun g hg => by simp at hg⟩ (by simp)).1
end Go.Proofs.YtjpkmcaogekkdaaDoor.Wr
