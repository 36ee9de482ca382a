/- The reference ReadMin, walked, whatever its roots. -/
import Derived.Test.YtjpkmcaogekkdaaDoorRmK2
import Derived.StillTailTactics
import Derived.Deep.RegionLaw
namespace Go.Proofs.YtjpkmcaogekkdaaDoor.Rm
open Go.RowKit
set_option linter.unusedVariables false
set_option linter.unusedSimpArgs false

set_option maxRecDepth 100000 in
set_option maxHeartbeats 10000000 in
theorem specMin_all (w : World) (P : Nat → Prop) (b o c rc n m : Nat) (ra : Option Addr) (ns : List Nd) (rs : List Int) (hb : b < w.heap.size) (hP : ∀ b, P b → b < w.heap.size) (hn : ns.length = n) (hm : rs.length = m) (hsz : n * 48 ≤ 140737488351232) (hms : m * 8 ≤ 140737488351232)
    (hx : ∀ i d, ns[i]? = some d → w.cell? ⟨b, o + i * 3, none⟩ = some (.int .i64 d.sort) ∧ w.cell? ⟨b, o + i * 3 + 1, none⟩ = some (.string d.text) ∧ d.text.size ≤ 140737488351232 ∧ ∃ kv, w.cell? ⟨b, o + i * 3 + 2, none⟩ = some kv ∧ Ints w P kv d.kids)
    (hr : ∀ i x, rs[i]? = some x → ∃ rb ro, ra = some ⟨rb, ro, none⟩ ∧ rb < w.heap.size ∧ w.cell? ⟨rb, ro + i, none⟩ = some (.int .i64 x)) (hNv : Nodes w P (.slice (some ⟨b, o, none⟩) n c) ns) :
    Calls Tryd.prog 12 #[.agg #[.slice (some ⟨b, o, none⟩) n c, .slice ra m rc]] w (SpecPost ns rs w) := by
  have HX := Lib.hid hx
  have HR := Lib.hid hr
  have HN := Lib.hid hn
  have HM := Lib.hid hm
  have HP := Lib.hid hP
  have HNV := Lib.hid hNv
  clear hx hr hn hm hP hNv
  obtain ⟨B0, B1⟩ := Blk.two w #[.slice (some ⟨b, o, none⟩) n c, .slice ra m rc] #[.slice none 0 0, .slice none 0 0] 38 38
  have hW1 := below2 w (.cells #[.slice (some ⟨b, o, none⟩) n c, .slice ra m rc] 38) (.cells #[.slice none 0 0, .slice none 0 0] 38)
  have hWs : ((w.alloc (.cells #[.slice (some ⟨b, o, none⟩) n c, .slice ra m rc] 38)).alloc (.cells #[.slice none 0 0, .slice none 0 0] 38)).heap.size = w.heap.size + 2 := by simp
  go_enter Tryd.func12, Tryd.ntmps12
  go_wp2
  generalize ((w.alloc (.cells #[.slice (some ⟨b, o, none⟩) n c, .slice ra m rc] 38)).alloc (.cells #[.slice none 0 0, .slice none 0 0] 38)) = W1 at *
  go_loopw [3] (fun i wr => ∃ k : Nat, k ≤ n ∧ i = .int .i64 k ∧ Below W1.heap.size W1 wr ∧ Hid (∀ j d, j < k → ns[j]? = some d → kidsOk n d = true)) (fun i wr => n - (intOf i).toNat)
  case atStart => exact ⟨0, by omega, rfl, Below.refl _ _, fun j d h => by omega⟩
  case round =>
    obtain ⟨k, hk, rfl, hbel, hall⟩ := hrel
    have hk0 : (0 : Int) ≤ k := by omega
    have C0 := B0.carry hbel B0.lt
    have C1 := B1.carry hbel B1.lt
    have c0 := C0.cell0 (o := 0) rfl
    have c1 := C0.cell0 (o := 1) rfl
    have r0 := C1.cell0 (o := 0) rfl
    have r1 := C1.cell0 (o := 1) rfl
    have f0 := C1.free 0
    have f1 := C1.free 1
    have hHl := C0.lt
    have hbw : Below w.heap.size w wr := hW1.trans (hbel.mono (by omega))
    by_cases hlt : k < n
    · obtain ⟨d, hd⟩ := getSome ns k (by rw [HN.out]; exact hlt)
      obtain ⟨a0, a1, a2, kv, a3, a4⟩ := HX.out k d hd
      have e0 := (hbw.cell (p := ⟨b, o + k * 3, none⟩) hb).trans a0
      have e1 := (hbw.cell (p := ⟨b, o + k * 3 + 1, none⟩) hb).trans a1
      have e2 := (hbw.cell (p := ⟨b, o + k * 3 + 2, none⟩) hb).trans a3
      have hbr : b < wr.heap.size := Nat.lt_of_lt_of_le hb hbw.size
      have hk1 : (k : Int) < n := by omega
      have HD := Lib.hid hd
      have HKO := Lib.hid (fun wx (hx : Below wr.heap.size wr wx) => kidsOk_any wx P d.sort d.text kv d.kids n (a4.same fun g hg => (hx.block g (Nat.lt_of_lt_of_le (HP.out g hg) hbw.size)).trans (hbw.block g (HP.out g hg))) (fun g hg => Nat.lt_of_lt_of_le (HP.out g hg) (Nat.le_trans hbw.size hx.size)) (by omega))
      clear a0 a1 a2 a3 a4 hd
      generalize hko : kidsOk n ⟨d.sort, d.text, d.kids⟩ = ko at *
      cases ko
      · go_wp2_with fail
        go_region_held3 (fun w' => w'.cell? ⟨b, o + k * 3, none⟩ = some (.int .i64 d.sort) ∧ w'.cell? ⟨b, o + k * 3 + 1, none⟩ = some (.string d.text) ∧ w'.cell? ⟨b, o + k * 3 + 2, none⟩ = some kv ∧ w'.cell? ⟨w.heap.size, 0, none⟩ = some (.slice (some ⟨b, o, none⟩) n c))
          (first | go_keep | (refine ⟨?_, ?_, ?_, ?_⟩ <;> first | exact (hb1.cell hbr).trans (by assumption) | exact (hb1.cell hHl).trans (by assumption)))
          ((go_at_call 27; refine (HKO.out _ (Below.refl _ wr).drew).mono ?_; rintro e w1 ⟨rfl, hb1⟩))
        have hb1' : Below wr.heap.size wr w1 := below_then (Below.refl _ wr).drew hb1 (Nat.le_refl _)
        have D1 := C1.below hb1'
        have g0 := D1.free 0
        have g1 := D1.free 1
        have x0 := D1.cell0 (o := 0) rfl
        have x1 := D1.cell0 (o := 1) rfl
        go_wp2
        have hno : allOk ns rs = false := by
          have : ns.all (kidsOk ns.length) = false := by
            rw [List.all_eq_false]
            refine ⟨d, List.mem_of_getElem? HD.out, ?_⟩
            rw [HN.out]
            simp [hko]
          rw [allOk, this, Bool.false_and]
        refine bodyPost_ret (v := .agg #[.slice none 0 0, .slice none 0 0]) (by simp [results, Tryd.results12, go_sem, x0, x1]) rfl (spec_empty hno ?_)
        exact ((hbw.trans (hb1'.mono hbw.size)).setCell (by simp) _).setCell (by simp) _
      · go_wp2_with fail
        go_region_held3 (fun w' => w'.cell? ⟨b, o + k * 3, none⟩ = some (.int .i64 d.sort) ∧ w'.cell? ⟨b, o + k * 3 + 1, none⟩ = some (.string d.text) ∧ w'.cell? ⟨b, o + k * 3 + 2, none⟩ = some kv ∧ w'.cell? ⟨w.heap.size, 0, none⟩ = some (.slice (some ⟨b, o, none⟩) n c))
          (first | go_keep | (refine ⟨?_, ?_, ?_, ?_⟩ <;> first | exact (hb1.cell hbr).trans (by assumption) | exact (hb1.cell hHl).trans (by assumption)))
          ((go_at_call 27; refine (HKO.out _ (Below.refl _ wr).drew).mono ?_; rintro e w1 ⟨rfl, hb1⟩))
        go_wp2
        have hb1' : Below wr.heap.size wr w1 := below_then (Below.refl _ wr).drew hb1 (Nat.le_refl _)
        refine ⟨⟨k + 1, by omega, by go_num, hbel.trans (hb1'.mono hbel.size), fun j d' hj hd' => ?_⟩, by simp [intOf]; omega⟩
        by_cases hjk : j = k
        · subst hjk
          have := HD.out.symm.trans hd'
          rw [← Option.some.inj this]
          exact hko
        · exact hall.out j d' (by omega) hd'
    · have hallk : Hid (∀ d ∈ ns, kidsOk n d = true) := fun d hd => by
        obtain ⟨j, hj, rfl⟩ := List.getElem_of_mem hd
        exact hall.out j _ (by have := HN.out; omega) (List.getElem?_eq_getElem hj)
      have hkr : Hid (∀ d ∈ ns, ∀ k ∈ d.kids, inR ns.length k = true) := fun d hd x hx => by
        have h1 := hallk.out d hd
        simp only [kidsOk, Bool.and_eq_true, List.all_eq_true] at h1
        rw [HN.out]
        exact h1.2 x hx
      have hNr : Hid (Nodes wr P (.slice (some ⟨b, o, none⟩) n c) ns) := HNV.out.same fun g hg => hbw.block g (HP.out g hg)
      have HGRP := Lib.hid ((groups_any wr P _ ns hNr.out (fun g hg => Nat.lt_of_lt_of_le (HP.out g hg) hbw.size) hkr.out).mono (fun e w' h => (by
        obtain ⟨gb, h1, h2, h3, h4⟩ := h
        rw [HN.out] at h1
        exact ⟨gb, h1, h2, h3, h4⟩ : ∃ gb, e = .returned (.slice (some ⟨gb, 0, none⟩) n n) ∧ Below wr.heap.size wr w' ∧ wr.heap.size ≤ gb ∧ Row w' gb (iterG ns (ns.length + 1)))))
      have hGin := Lib.hid (iterG_in ns (ns.length + 1))
      have hGlen := Lib.hid (iterG_len ns (ns.length + 1))
      generalize hGG : iterG ns (ns.length + 1) = G at *
      have HGG := Lib.hid hGG
      clear hGG
      go_wp2_with fail
      refine HGRP.out.mono ?_
      rintro e w2 ⟨gb, rfl, hb2, hgb2, hRow2⟩
      have hbl2 := hbel.trans (hb2.mono hbel.size)
      have hbw2 : Below w.heap.size w w2 := hW1.trans (hbl2.mono (by omega))
      have V0 := B0.carry hbl2 B0.lt
      have V1 := B1.carry hbl2 B1.lt
      have hgl2 := hRow2.lt
      clear c0 c1 r0 r1 f0 f1 hHl C0 C1
      go_wp2
      generalize wr = wq at *
      have hbr : b < w2.heap.size := Nat.lt_of_lt_of_le hb hbw2.size
      have hrow0 : Hid (OwnRow (w2.alloc (.cells #[] 3)) w2.heap.size (.slice (some ⟨w2.heap.size, 0, none⟩) 0 0) []) := World.ownsRow_made w2 #[] 0 (Nat.le_refl _) (by decide) rfl
      go_loopw [5, 6] (fun ov i wr => ∃ k : Nat, k ≤ m ∧ i = .int .i64 k ∧ Below w2.heap.size w2 wr ∧ Hid (OwnRow wr w2.heap.size ov (((rs.map (gat G)).take k).foldl (walkG ns G (ns.length + 1)) [])) ∧ Hid (∀ j x, j < k → rs[j]? = some x → inR n x = true)) (fun ov i wr => m - (intOf i).toNat)
      case atStart => exact ⟨0, by omega, rfl, below1 _ _, hrow0, fun j x h => by omega⟩
      case round =>
        obtain ⟨k, hk, rfl, hbel3, hrow, hall2⟩ := hrel
        have hk0 : (0 : Int) ≤ k := by omega
        have E0 := V0.carry hbel3 V0.lt
        have E1 := V1.carry hbel3 V1.lt
        have c0 := E0.cell0 (o := 0) (v := .slice (some ⟨b, o, none⟩) n c) rfl
        have c1 := E0.cell0 (o := 1) (v := .slice ra m rc) rfl
        have r0 := E1.cell0 (o := 0) rfl
        have r1 := E1.cell0 (o := 1) rfl
        have f0 := E1.free 0
        have f1 := E1.free 1
        have hHl := E0.lt
        have hbw3 : Below w.heap.size w wr := hbw2.trans (hbel3.mono hbw2.size)
        have hfg := fold_good (n := ns.length) (fun o g h1 h2 => walkG_good hGlen.out hGin.out hkr.out (ns.length + 1) o g h1 h2) ((rs.map (gat G)).take k) [] ⟨List.nodup_nil, fun g hg => by simp at hg⟩
        by_cases hlt : k < m
        · obtain ⟨x, hxk⟩ := getSome rs k (by rw [HM.out]; exact hlt)
          obtain ⟨rb, ro, rfl, hrb, hxc⟩ := HR.out k x hxk
          have cx := (hbw3.cell (p := ⟨rb, ro + k, none⟩) hrb).trans hxc
          clear hxc
          have hrr : rb < w2.heap.size := Nat.lt_of_lt_of_le hrb hbw2.size
          have hk1 : (k : Int) < m := by omega
          have HIN := Lib.hid (fun k w => l1In_any k n w (by omega))
          have HXK := Lib.hid hxk
          have HFG := Lib.hid hfg
          clear hxk hfg
          have hrl : rb < wr.heap.size := Nat.lt_of_lt_of_le hrb hbw3.size
          have hwrap : IntKind.i64.wrap ((n : Int) - 1) = (n : Int) - 1 := by
            rcases Nat.eq_zero_or_pos n with h0 | h0
            · rw [h0]; rfl
            · exact wrap_small _ (by omega) (by omega)
          have HI2 : Hid (∀ w, Calls Tryd.prog 29 #[.int .i64 x, .int .i64 0, .int .i64 ((n : Int) - 1)] w fun e w' => e = .returned (.bool (inR n x)) ∧ Below w.heap.size w w') := fun w => (HIN.out x w).mono (fun e w' h => ⟨h.1, h.2 ▸ Below.refl _ _⟩)
          rw [← hwrap] at HI2
          clear hwrap
          cases hin : inR n x
          · rw [hin] at HI2
            go_wp2_with fail
            go_region_held3 (fun w' => w'.cell? ⟨w.heap.size, 0, none⟩ = some (.slice (some ⟨b, o, none⟩) n c) ∧ w'.cell? ⟨w.heap.size, 1, none⟩ = some (.slice (some ⟨rb, ro, none⟩) m rc) ∧ w'.cell? ⟨rb, ro + k, none⟩ = some (.int .i64 x))
              (first | exact ⟨c0, c1, cx⟩ | (exact ⟨(hb1.cell hHl).trans c0, (hb1.cell hHl).trans c1, (hb1.cell hrl).trans cx⟩))
              ((go_at_call 29; refine (HI2.out _).mono ?_; rintro e w1 ⟨rfl, hb1⟩))
            have hb1' : Below wr.heap.size wr w1 := below_then (Below.refl _ wr).drew hb1 (Nat.le_refl _)
            have D1 := E1.below hb1'
            have g0 := D1.free 0
            have g1 := D1.free 1
            have x0 := D1.cell0 (o := 0) (v := .slice none 0 0) rfl
            have x1 := D1.cell0 (o := 1) (v := .slice none 0 0) rfl
            go_wp2
            have hno : allOk ns rs = false := by
              have : rs.all (inR ns.length) = false := by
                rw [List.all_eq_false]
                refine ⟨x, List.mem_of_getElem? HXK.out, ?_⟩
                rw [HN.out, hin]
                simp
              rw [allOk, this, Bool.and_false]
            refine bodyPost_ret (v := .agg #[.slice none 0 0, .slice none 0 0]) (by simp [results, Tryd.results12, go_sem, x0, x1]) rfl (spec_empty hno ?_)
            exact ((hbw3.trans (hb1'.mono hbw3.size)).setCell (by simp) _).setCell (by simp) _
          · rw [hin] at HI2
            go_wp2_with fail
            go_region_held3 (fun w' => w'.cell? ⟨w.heap.size, 0, none⟩ = some (.slice (some ⟨b, o, none⟩) n c) ∧ w'.cell? ⟨w.heap.size, 1, none⟩ = some (.slice (some ⟨rb, ro, none⟩) m rc) ∧ w'.cell? ⟨rb, ro + k, none⟩ = some (.int .i64 x))
              (first | exact ⟨c0, c1, cx⟩ | (exact ⟨(hb1.cell hHl).trans c0, (hb1.cell hHl).trans c1, (hb1.cell hrl).trans cx⟩))
              ((go_at_call 29; refine (HI2.out _).mono ?_; rintro e w1 ⟨rfl, hb1⟩))
            have hb1' : Below wr.heap.size wr w1 := below_then (Below.refl _ wr).drew hb1 (Nat.le_refl _)
            have hb21 : Below w2.heap.size w2 w1 := hbel3.trans (hb1'.mono hbel3.size)
            have d0 := (hb1'.cell (p := ⟨w.heap.size, 0, none⟩) hHl).trans c0
            have d1 := (hb1'.cell (p := ⟨w.heap.size, 1, none⟩) hHl).trans c1
            have dx := (hb1'.cell (p := ⟨rb, ro + k, none⟩) hrl).trans cx
            have hH2 : w.heap.size < w2.heap.size := V0.lt
            have hfg2 := HFG.out (fun y hy => by
              have hy2 := List.mem_of_mem_take hy
              obtain ⟨z, hz, rfl⟩ := List.mem_map.1 hy2
              unfold gat
              rw [List.getD]
              cases hq : G[z.toNat]? with
              | none =>
                simp [inR]
                have := HM.out
                have hne : ns.length ≠ 0 := by
                  intro h0
                  rw [HN.out] at h0
                  subst h0
                  simp [inR] at hin
                  omega
                omega
              | some q => exact hGin.out q (List.mem_of_getElem? hq))
            have HWK := Lib.hid (walk_any w2 P (.slice (some ⟨b, o, none⟩) n c) gb n w2.heap.size ns G (Nat.le_refl _) hgl2 (fun g hg => Nat.lt_of_lt_of_le (HP.out g hg) hbw2.size) (HNV.out.same fun g hg => hbw2.block g (HP.out g hg)) hkr.out hGlen.out hRow2 hGin.out
              w1.drew u5 _ x hb21.drew (hrow.out.below (Below.drew hb1')) hfg2.1 (by rw [HN.out]; exact hin))
            rw [HN.out] at HWK
            go_wp2_with fail
            go_region_held3 (fun w' => w'.cell? ⟨w.heap.size, 0, none⟩ = some (.slice (some ⟨b, o, none⟩) n c) ∧ w'.cell? ⟨w.heap.size, 1, none⟩ = some (.slice (some ⟨rb, ro, none⟩) m rc) ∧ w'.cell? ⟨rb, ro + k, none⟩ = some (.int .i64 x))
              (first | exact ⟨d0, d1, dx⟩ | (exact ⟨(hb4.cell hH2).trans d0, (hb4.cell hH2).trans d1, (hb4.cell hrr).trans dx⟩))
              ((go_at_call 30; refine HWK.out.mono ?_; rintro e w4 ⟨v4, rfl, hb4, hr4⟩))
            go_wp2
            refine ⟨⟨k + 1, by omega, by go_num, hb21.drew.trans hb4, ?_, fun j y hj hy => ?_⟩, by simp [intOf]; omega⟩
            · have hmx : (rs.map (gat G))[k]? = some (gat G x) := by rw [List.getElem?_map, HXK.out]; rfl
              show OwnRow _ _ _ _
              rw [foldl_take _ _ _ k _ hmx]
              rw [← HN.out] at hr4
              exact hr4
            · by_cases hjk : j = k
              · subst hjk
                have := HXK.out.symm.trans hy
                rw [← Option.some.inj this]
                exact hin
              · exact hall2.out j y (by omega) hy
        · have hrsok : Hid (∀ x ∈ rs, inR n x = true) := fun x hx => by
            obtain ⟨j, hj, rfl⟩ := List.getElem_of_mem hx
            exact hall2.out j _ (by have := HM.out; omega) (List.getElem?_eq_getElem hj)
          have hord : Hid (OwnRow wr w2.heap.size u5 (ordG ns rs G)) := by
            have := hrow.out
            rwa [List.take_of_length_le (by rw [List.length_map, HM.out]; omega)] at this
          have hgoodo : Hid (Good ns.length (ordG ns rs G)) := by
            have h1 := hfg
            rw [List.take_of_length_le (by rw [List.length_map, HM.out]; omega)] at h1
            refine (h1 fun y hy => ?_).1
            obtain ⟨z, hz, rfl⟩ := List.mem_map.1 hy
            have h2 := hrsok.out z hz
            rw [← HN.out, ← hGlen.out] at h2
            exact hGin.out _ (List.mem_of_getElem? (gat_some h2).1)
          have hspec : Hid (specNs ns rs = minNs ns G (ordG ns rs G) ∧ specRs ns rs = minRs rs G (ordG ns rs G)) := by
            have h1 : allOk ns rs = true := by
              rw [allOk, Bool.and_eq_true, List.all_eq_true, List.all_eq_true, HN.out]
              exact ⟨hallk.out, hrsok.out⟩
            unfold specNs specRs
            rw [if_pos h1, if_pos h1, HGG.out]
            exact ⟨rfl, rfl⟩
          clear hfg hrow hall2 hall hrow0 HGRP hNr r0 r1 f0 f1
          generalize hORD : ordG ns rs G = ord at *
          obtain ⟨oa, oc, hov, hosh⟩ := hord.out.shape
          have HOSH := Lib.hid hosh
          clear hosh
          generalize hM' : ord.length = M at *
          have HM' := Lib.hid hM'
          clear hM' hORD
          subst hov
          go_wp2_with fail
          have hXb := Blk.new wr #[.slice none 0 0, .slice none 0 0] 38
          generalize wr = wb at *
          go_loopw [8] (fun i wz => ∃ (k : Nat) (nv : Value) (hi : Nat), k ≤ M ∧ i = .int .i64 k ∧ Below wb.heap.size wb wz ∧ Blk wz wb.heap.size #[nv, .slice none 0 0] 38 ∧ wb.heap.size + 1 ≤ hi ∧ Hid (Fin wz (wb.heap.size + 1) hi nv ((minNs ns G ord).take k))) (fun i wz => M - (intOf i).toNat)
          case atStart => exact ⟨0, _, _, by omega, rfl, below1 _ _, hXb, Nat.le_refl _, Fin.nil _ _ _ (by simp)⟩
          case round =>
            obtain ⟨k, nv, hi, hk, rfl, hbz, hX, hhi, hfin⟩ := hrel
            have hk0 : (0 : Int) ≤ k := by omega
            have hbwz : Below w.heap.size w wr := hbw3.trans (hbz.mono hbw3.size)
            have Z0 := E0.below hbz
            have z0 := Z0.cell0 (o := 0) (v := .slice (some ⟨b, o, none⟩) n c) rfl
            have z1 := Z0.cell0 (o := 1) (v := .slice ra m rc) rfl
            have x0 := hX.cell0 (o := 0) (v := nv) rfl
            have x1 := hX.cell0 (o := 1) (v := .slice none 0 0) rfl
            have xf0 := hX.free 0
            have xf1 := hX.free 1
            by_cases hlt : k < M
            · obtain ⟨g, hgk⟩ := getSome ord k (by rw [HM'.out]; exact hlt)
              obtain ⟨og, rfl, q1, q2, q3⟩ := HOSH.out (by rintro rfl; simp at hgk)
              have hgr := hgoodo.out.2 g (List.mem_of_getElem? hgk)
              rw [HN.out] at hgr
              obtain ⟨gn, rfl⟩ : ∃ gn : Nat, g = gn := ⟨g.toNat, by simp [inR] at hgr; omega⟩
              have hgn : gn < n := by simpa [inR] using hgr
              have hgn2 : (gn : Int) < n := by omega
              have co := (hbz.cell (p := ⟨og, k, none⟩) q2).trans (q3 k _ hgk)
              obtain ⟨d, hd⟩ := getSome ns gn (by rw [HN.out]; exact hgn)
              obtain ⟨a0, a1, a2, kv, a3, a4⟩ := HX.out gn d hd
              have e0 := (hbwz.cell (p := ⟨b, o + gn * 3, none⟩) hb).trans a0
              have e1 := (hbwz.cell (p := ⟨b, o + gn * 3 + 1, none⟩) hb).trans a1
              have e2 := (hbwz.cell (p := ⟨b, o + gn * 3 + 2, none⟩) hb).trans a3
              have hk1 : (k : Int) < M := by omega
              have hMn : M ≤ n := by have := hgoodo.out.le; rw [HM'.out, HN.out] at this; exact this
              have HGK := Lib.hid hgk
              have HD := Lib.hid hd
              have HA4 := Lib.hid a4
              have HQ3 := Lib.hid q3
              clear a0 a1 a3 a4 hd hgk q3
              go_wp2_with fail
              obtain ⟨ka, kc, rfl⟩ := HA4.out.shape
              have hKb := HA4.out.1
              have hNb := Blk.new wr.drew #[.int .i64 d.sort, .string d.text, .slice none 0 0] 58
              have HMK : Hid (minNd ns G ord gn = ⟨d.sort, d.text, (d.kids.map (gat G)).map (placeI ord)⟩) := by
                show _ = _
                simp [minNd, HD.out]
              generalize hKK : d.kids.length = K at *
              have HKK := Lib.hid hKK
              clear hKK
              have KS : ∀ w', Below wr.heap.size wr w' → (w'.cell? ⟨w.heap.size, 0, none⟩ = some (.slice (some ⟨b, o, none⟩) n c) ∧ w'.cell? ⟨og, k, none⟩ = some (.int .i64 gn) ∧ w'.cell? ⟨b, o + gn * 3, none⟩ = some (.int .i64 d.sort) ∧ w'.cell? ⟨b, o + gn * 3 + 1, none⟩ = some (.string d.text)) :=
                fun w' h => ⟨(h.cell (p := ⟨w.heap.size, 0, none⟩) Z0.lt).trans z0, (h.cell (p := ⟨og, k, none⟩) (Nat.lt_of_lt_of_le q2 hbz.size)).trans co, (h.cell (p := ⟨b, o + gn * 3, none⟩) (Nat.lt_of_lt_of_le hb hbwz.size)).trans e0, (h.cell (p := ⟨b, o + gn * 3 + 1, none⟩) (Nat.lt_of_lt_of_le hb hbwz.size)).trans e1⟩
              have KSH := Lib.hid KS
              clear KS
              go_region_held3 (fun w' => w'.cell? ⟨w.heap.size, 0, none⟩ = some (.slice (some ⟨b, o, none⟩) n c) ∧ w'.cell? ⟨og, k, none⟩ = some (.int .i64 gn) ∧ w'.cell? ⟨b, o + gn * 3, none⟩ = some (.int .i64 d.sort) ∧ w'.cell? ⟨b, o + gn * 3 + 1, none⟩ = some (.string d.text))
                (first | exact KSH.out _ (Below.refl _ wr).drew | exact KSH.out _ ((Below.refl _ wr).drew.alloc (Nat.le_refl _) _) | exact KSH.out _ ((Below.refl _ wr).alloc (Nat.le_refl _) _).drew | exact KSH.out _ (((((Below.refl _ wr).drew.alloc (Nat.le_refl _) _).setCell (Nat.le_refl _) _).setCell (Nat.le_refl _) _).setCell (Nat.le_refl _) _))
                (fail)
              go_wp2_with fail
              generalize wr = wz at *
              go_loopw [10] (fun i wq => ∃ (j : Nat) (kv : Value), j ≤ K ∧ i = .int .i64 j ∧ Below wz.heap.size wz wq ∧ Blk wq wz.heap.size #[.int .i64 d.sort, .string d.text, kv] 58 ∧ Hid (OwnRow wq (wz.heap.size + 1) kv (((d.kids.map (gat G)).map (placeI ord)).take j))) (fun i wq => K - (intOf i).toNat)
              case atStart => exact ⟨0, _, by omega, rfl, (below1 _ _).drew, hNb, World.ownsRow_nil _ _ _ _⟩
              case round =>
                obtain ⟨j, kv, hj, rfl, hbq, hNq, hkv⟩ := hrel
                have hj0 : (0 : Int) ≤ j := by omega
                have z0' := (Z0.below hbq).cell0 (o := 0) (v := .slice (some ⟨b, o, none⟩) n c) rfl
                have e2' := (hbq.cell (p := ⟨b, o + gn * 3 + 2, none⟩) (Nat.lt_of_lt_of_le hb hbwz.size)).trans e2
                have co' := (hbq.cell (p := ⟨og, k, none⟩) (Nat.lt_of_lt_of_le q2 hbz.size)).trans co
                by_cases hlt2 : j < K
                · have hj1 : (j : Int) < K := by omega
                  go_wp2_with fail
                  go_quiet (fail)
                  have hbq2 : Below wz.heap.size wz (wr.drewN nq) := below_drewN hbq nq
                  have hNq2 : Blk (wr.drewN nq) wz.heap.size #[.int .i64 d.sort, .string d.text, kv] 58 := hNq
                  have hkv2 : Hid (OwnRow (wr.drewN nq) (wz.heap.size + 1) kv (((d.kids.map (gat G)).map (placeI ord)).take j)) := hkv
                  clear z0' e2' co' hbq hNq hkv
                  generalize wr.drewN nq = wv at *
                  have hbwq : Below w.heap.size w wv := hbwz.trans (hbq2.mono hbwz.size)
                  have z0' := (Z0.below hbq2).cell0 (o := 0) (v := .slice (some ⟨b, o, none⟩) n c) rfl
                  have e2' := (hbq2.cell (p := ⟨b, o + gn * 3 + 2, none⟩) (Nat.lt_of_lt_of_le hb hbwz.size)).trans e2
                  have co' := (hbq2.cell (p := ⟨og, k, none⟩) (Nat.lt_of_lt_of_le q2 hbz.size)).trans co
                  have n2 := hNq2.cell0 (o := 2) (v := kv) rfl
                  have nf2 := hNq2.free 2
                  obtain ⟨x, hxk⟩ := getSome d.kids j (by rw [HKK.out]; exact hlt2)
                  have HXK := Lib.hid hxk
                  have hxin := hkr.out d (List.mem_of_getElem? HD.out) x (List.mem_of_getElem? hxk)
                  rw [← hGlen.out] at hxin
                  obtain ⟨t1, t2, t3, t4⟩ := gat_some hxin
                  have hmx : ((d.kids.map (gat G)).map (placeI ord))[j]? = some (placeI ord (gat G x)) := by rw [List.getElem?_map, List.getElem?_map, hxk]; rfl
                  have HMX := Lib.hid hmx
                  rw [hGlen.out, HN.out] at t3
                  generalize hgx : gat G x = gx at *
                  have cg := (hbq2.cell (p := ⟨gb, x.toNat, none⟩) (Nat.lt_of_lt_of_le hgl2 (Nat.le_trans hbel3.size hbz.size))).trans ((hbz.cell (p := ⟨gb, x.toNat, none⟩) (Nat.lt_of_lt_of_le hgl2 hbel3.size)).trans ((hbel3.cell (p := ⟨gb, x.toNat, none⟩) hgl2).trans (hRow2.cell t1)))
                  rcases HA4.out with ⟨h0, ⟨kb, ko, kc', hkv', hPk, hkx⟩ | ⟨hnil, _⟩⟩
                  · rw [HKK.out] at hkv'
                    obtain ⟨rfl, rfl⟩ : ka = some ⟨kb, ko, none⟩ ∧ kc = kc' := by
                      simp at hkv'
                      exact hkv'
                    have cx := (hbwq.cell (p := ⟨kb, ko + j, none⟩) (HP.out kb hPk)).trans (hkx j x hxk)
                    generalize hxn : x.toNat = xn at *
                    subst t4
                    have hxn1 : (xn : Int) < n := by omega
                    have hq3 : ∀ i x, ord[i]? = some x → wv.cell? ⟨og, i, none⟩ = some (.int .i64 x) := fun i x hi => (hbq2.cell (p := ⟨og, i, none⟩) (Nat.lt_of_lt_of_le q2 hbz.size)).trans ((hbz.cell (p := ⟨og, i, none⟩) q2).trans (HQ3.out i x hi))
                    have HPL := Lib.hid (place_any wv.drew (some ⟨og, 0, none⟩) M oc ord gx HM'.out (by omega) (fun _ => ⟨og, rfl, hq3⟩))
                    have hljj : (((d.kids.map (gat G)).map (placeI ord)).take j).length = j := by rw [List.length_take, List.length_map, List.length_map, HKK.out]; omega
                    have HAP := append_int wv.drew (wz.heap.size + 1) kv _ (placeI ord gx) hkv2.out (Nat.succ_le_of_lt hNq2.lt) (by rw [hljj]; omega)
                    rw [hljj] at HAP
                    have hz3 : wz.heap.size < wv.heap.size := hNq2.lt
                    obtain ⟨g2, cap2, w6, happ, hown6, hgr6, hgo6, hgl6⟩ := HAP
                    have hb6 : Below (wz.heap.size + 1) wv w6 := (Below.refl _ wv).drew.trans (grown_below hgr6 (OwnRow.above hkv2.out) (Nat.succ_le_of_lt hz3))
                    have N6 := hNq2.carry hb6 (Nat.lt_succ_self _)
                    have m2 := N6.cell0 (o := 2) (v := kv) rfl
                    have mf2 := N6.free 2
                    have H6 := Lib.hid hown6
                    have HB6 := Lib.hid hb6
                    have happ2 : (Builtin.append_ #[32, 32] 32 #[kv, .slice (some ⟨wv.heap.size, 0, none⟩) 1 1]).run Tryd.prog (wv.alloc (.cells #[.int .i64 (placeI ord gx)] 3)).drew = .ok (.slice (some ⟨g2, 0, none⟩) (j + 1) cap2) w6 := happ
                    have HAPP := Lib.hid happ2
                    clear happ2
                    clear hq3 hxk hkx hmx hgx h0 t1 hljj hown6 hgr6 hgo6 hgl6 hb6 happ t2 a2 hkv2
                    go_wp2_with fail
                    have KS : ∀ w', Below wz.heap.size wv w' → (w'.cell? ⟨w.heap.size, 0, none⟩ = some (.slice (some ⟨b, o, none⟩) n c) ∧ w'.cell? ⟨og, k, none⟩ = some (.int .i64 gn) ∧ w'.cell? ⟨b, o + gn * 3 + 2, none⟩ = some (.slice (some ⟨kb, ko, none⟩) K kc) ∧ w'.cell? ⟨kb, ko + j, none⟩ = some (.int .i64 xn) ∧ w'.cell? ⟨gb, xn, none⟩ = some (.int .i64 gx)) :=
                      fun w' h => ⟨(h.cell (p := ⟨w.heap.size, 0, none⟩) Z0.lt).trans z0', (h.cell (p := ⟨og, k, none⟩) (Nat.lt_of_lt_of_le q2 hbz.size)).trans co', (h.cell (p := ⟨b, o + gn * 3 + 2, none⟩) (Nat.lt_of_lt_of_le hb hbwz.size)).trans e2', (h.cell (p := ⟨kb, ko + j, none⟩) (Nat.lt_of_lt_of_le (HP.out kb hPk) hbwz.size)).trans cx, (h.cell (p := ⟨gb, xn, none⟩) (Nat.lt_of_lt_of_le hgl2 (Nat.le_trans hbel3.size hbz.size))).trans cg⟩
                    have KSH := Lib.hid KS
                    clear KS
                    have hB6 := Lib.hid (HB6.out.mono (Nat.le_succ _))
                    go_region_law (first | (simp only [Region.wanted, ↓reduceIte]; refine wp_append_run (v := kv) (xv := .slice (some ⟨wv.heap.size, 0, none⟩) 1 1) (v' := .slice (some ⟨g2, 0, none⟩) (j + 1) cap2) (w' := w6) (.tmp 104) (.tmp 122) 32 ?_ ?_ ?_ ?_ ?_; rfl; rfl; rfl; exact HAPP.out) | (go_simp; go_at_call 31; refine HPL.out.mono ?_; rintro e w5 ⟨rfl, rfl⟩; dsimp only) | fail)
                    all_goals go_wp2
                    all_goals (
                      refine ⟨⟨j + 1, _, by omega, by go_num, (hbq2.trans hB6.out).setCell (Nat.le_refl _) _, N6.set 2 _, ?_⟩, by simp [intOf]; omega⟩
                      show OwnRow _ _ _ _
                      rw [take_snoc' _ j _ HMX.out]
                      exact OwnRow.far H6.out (Nat.lt_succ_self _) _ _)
                  · rw [hnil] at hxk
                    simp at hxk
                · have hkl : ((d.kids.map (gat G)).map (placeI ord)).length = K := by rw [List.length_map, List.length_map, HKK.out]
                  have hTK : ((d.kids.map (gat G)).map (placeI ord)).take j = (d.kids.map (gat G)).map (placeI ord) := List.take_of_length_le (by omega)
                  have hkvo := hkv.out
                  rw [hTK] at hkvo
                  obtain ⟨a2', c2', hkvs, _⟩ := hkvo.shape
                  rw [hkl] at hkvs
                  subst hkvs
                  have HKO := Lib.hid hkvo
                  have HKL := Lib.hid hkl
                  clear hkvo hkl hTK hkv
                  go_wp2_with fail
                  go_quiet (fail)
                  have hbq2 : Below wz.heap.size wz (wr.drewN nq) := below_drewN hbq nq
                  have hNq2 : Blk (wr.drewN nq) wz.heap.size #[.int .i64 d.sort, .string d.text, .slice a2' K c2'] 58 := hNq
                  have hkv2 : Hid (OwnRow (wr.drewN nq) (wz.heap.size + 1) (.slice a2' K c2') ((d.kids.map (gat G)).map (placeI ord))) := HKO
                  clear z0' e2' co' hbq hNq HKO
                  generalize wr.drewN nq = wv at *
                  have X0 := hX.below hbq2
                  have x0' := X0.cell0 (o := 0) (v := nv) rfl
                  have xf0' := X0.free 0
                  have n0 := hNq2.cell0 (o := 0) (v := .int .i64 d.sort) rfl
                  have n1 := hNq2.cell0 (o := 1) (v := .string d.text) rfl
                  have n2 := hNq2.cell0 (o := 2) (v := .slice a2' K c2') rfl
                  have hfw := hfin.out.1
                  have hMM : k + 1 ≤ n := by omega
                  have hlk : ((minNs ns G ord).take k).length = k := by rw [List.length_take, minNs, List.length_map, HM'.out]; omega
                  have HAF := append_fin wv (wb.heap.size + 1) hi nv ((minNs ns G ord).take k) ⟨d.sort, d.text, (d.kids.map (gat G)).map (placeI ord)⟩ a2' K c2' (hfin.out.carry (w' := wv) (Nat.le_trans hfw hbq2.size) (fun b' _ h2 => hbq2.block b' (by omega))) hhi (hkv2.out.weak (by omega)) a2 (by rw [HKL.out]; exact hKb) (by rw [hlk]; omega)
                  rw [hlk] at HAF
                  obtain ⟨g2, cap2, w6, happ, hfin6, hb6⟩ := HAF
                  have X6 := X0.carry hb6 (Nat.lt_succ_self _)
                  have y0 := X6.cell0 (o := 0) (v := nv) rfl
                  have yf0 := X6.free 0
                  have H6 := Lib.hid hfin6
                  have HB6 := Lib.hid hb6
                  clear hfin6 hb6 hlk
                  go_wp2_with (at_builtin; refine wpList_append_run rfl _ _ 36 rfl rfl rfl happ ?_)
                  refine ⟨⟨k + 1, _, w6.heap.size, by omega, by go_num, ((hbz.trans (hbq2.mono hbz.size)).trans (HB6.out.mono (Nat.le_succ _))).setCell (Nat.le_refl _) _, X6.set 0 _, X6.lt, ?_⟩, by simp [intOf]; omega⟩
                  show Fin _ _ _ _ _
                  have hmk : (minNs ns G ord)[k]? = some (minNd ns G ord gn) := by rw [minNs, List.getElem?_map, HGK.out]; rfl
                  rw [take_snoc' _ k _ hmk, HMK.out]
                  exact H6.out.carry (by simp) (fun b' h1 _ => Below.heap_setCell _ _ _ _ (by simp; omega))
            · have hTN : Hid (Fin wr (wb.heap.size + 1) hi nv (minNs ns G ord)) := by
                have := hfin.out
                rwa [List.take_of_length_le (by rw [minNs, List.length_map, HM'.out]; omega)] at this
              go_wp2_with fail
              have hXY := hX.lt
              generalize wr = wy at *
              go_loopw [11] (fun i wr => ∃ (k : Nat) (rv : Value), k ≤ m ∧ i = .int .i64 k ∧ Below wb.heap.size wb wr ∧ wy.heap.size ≤ wr.heap.size ∧ Blk wr wb.heap.size #[nv, rv] 38 ∧ Hid (OwnRow wr wy.heap.size rv ((minRs rs G ord).take k)) ∧ Hid (∀ b', wb.heap.size < b' → b' < wy.heap.size → wr.heap[b']? = wy.heap[b']?)) (fun i wr => m - (intOf i).toNat)
              case atStart => exact ⟨0, _, by omega, rfl, hbz, Nat.le_refl _, hX, World.ownsRow_nil _ _ _ _, fun b' _ _ => rfl⟩
              case round =>
                obtain ⟨k, rv, hk, rfl, hbu, hsu, hXu, hrv, hku⟩ := hrel
                have hk0 : (0 : Int) ≤ k := by omega
                have U0 := E0.below hbu
                have u1 := U0.cell0 (o := 1) (v := .slice ra m rc) rfl
                have v0 := hXu.cell0 (o := 0) (v := nv) rfl
                have v1 := hXu.cell0 (o := 1) (v := rv) rfl
                have vf1 := hXu.free 1
                have hbwu : Below w.heap.size w wr := hbw3.trans (hbu.mono hbw3.size)
                clear z0 z1 x0 x1 xf0 xf1
                by_cases hlt : k < m
                · have hk1 : (k : Int) < m := by omega
                  obtain ⟨x, hxk⟩ := getSome rs k (by rw [HM.out]; exact hlt)
                  obtain ⟨rb, ro, rfl, hrb, hxc⟩ := HR.out k x hxk
                  have cx := (hbwu.cell (p := ⟨rb, ro + k, none⟩) hrb).trans hxc
                  clear hxc
                  have hxin := hrsok.out x (List.mem_of_getElem? hxk)
                  rw [← HN.out, ← hGlen.out] at hxin
                  obtain ⟨t1, t2, t3, t4⟩ := gat_some hxin
                  have hmx : (minRs rs G ord)[k]? = some (placeI ord (gat G x)) := by rw [minRs, List.getElem?_map, List.getElem?_map, hxk]; rfl
                  have HMX := Lib.hid hmx
                  rw [hGlen.out, HN.out] at t3
                  generalize gat G x = gx at *
                  have cg := (hbu.cell (p := ⟨gb, x.toNat, none⟩) (Nat.lt_of_lt_of_le hgl2 hbel3.size)).trans ((hbel3.cell (p := ⟨gb, x.toNat, none⟩) hgl2).trans (hRow2.cell t1))
                  generalize x.toNat = xn at *
                  subst t4
                  have hxn1 : (xn : Int) < n := by omega
                  have hMn : M ≤ n := by have := hgoodo.out.le; rw [HM'.out, HN.out] at this; exact this
                  have HPL := Lib.hid (place_any wr.drew oa M oc ord gx HM'.out (by omega) (fun hne => by
                    obtain ⟨og, h1, h2, h3, h4⟩ := HOSH.out hne
                    exact ⟨og, h1, fun i x hi => (hbu.cell (p := ⟨og, i, none⟩) h3).trans (h4 i x hi)⟩))
                  have hljj : ((minRs rs G ord).take k).length = k := by rw [List.length_take, minRs, List.length_map, List.length_map, HM.out]; omega
                  have HAP := append_int wr.drew wy.heap.size rv _ (placeI ord gx) hrv.out hsu (by rw [hljj]; omega)
                  rw [hljj] at HAP
                  obtain ⟨g2, cap2, w6, happ, hown6, hgr6, hgo6, hgl6⟩ := HAP
                  have hb6 : Below wy.heap.size wr w6 := (Below.refl _ wr).drew.trans (grown_below hgr6 (OwnRow.above hrv.out) hsu)
                  have X6 := hXu.carry hb6 hXY
                  have m1 := X6.cell0 (o := 1) (v := rv) rfl
                  have mf1 := X6.free 1
                  have happ2 : (Builtin.append_ #[32, 32] 32 #[rv, .slice (some ⟨wr.heap.size, 0, none⟩) 1 1]).run Tryd.prog (wr.alloc (.cells #[.int .i64 (placeI ord gx)] 3)).drew = .ok (.slice (some ⟨g2, 0, none⟩) (k + 1) cap2) w6 := happ
                  have HAPP := Lib.hid happ2
                  have H6 := Lib.hid hown6
                  have HB6 := Lib.hid hb6
                  have hB6 := Lib.hid (hb6.mono (Nat.le_of_lt hXY))
                  have hbxw : wb.heap.size ≤ wr.heap.size := hbu.size
                  have hbxl : wb.heap.size < wr.heap.size := hXu.lt
                  clear hxk hmx t1 t2 hljj hown6 hgr6 hgo6 hgl6 hb6 happ happ2
                  have KS : ∀ w', Below wb.heap.size wr w' → (w'.cell? ⟨w.heap.size, 1, none⟩ = some (.slice (some ⟨rb, ro, none⟩) m rc) ∧ w'.cell? ⟨rb, ro + k, none⟩ = some (.int .i64 xn) ∧ w'.cell? ⟨gb, xn, none⟩ = some (.int .i64 gx)) :=
                    fun w' h => ⟨(h.cell (p := ⟨w.heap.size, 1, none⟩) E0.lt).trans u1, (h.cell (p := ⟨rb, ro + k, none⟩) (Nat.lt_of_lt_of_le hrb hbw3.size)).trans cx, (h.cell (p := ⟨gb, xn, none⟩) (Nat.lt_of_lt_of_le hgl2 hbel3.size)).trans cg⟩
                  have KSH := Lib.hid KS
                  clear KS
                  go_wp2_with fail
                  go_region_law (first | (simp only [Region.wanted, ↓reduceIte]; refine wp_append_run (v := rv) (xv := .slice (some ⟨wr.heap.size, 0, none⟩) 1 1) (v' := .slice (some ⟨g2, 0, none⟩) (k + 1) cap2) (w' := w6) (.tmp 139) (.tmp 150) 32 ?_ ?_ ?_ ?_ ?_; rfl; rfl; rfl; exact HAPP.out) | (go_simp; go_at_call 31; refine HPL.out.mono ?_; rintro e w5 ⟨rfl, rfl⟩; dsimp only) | fail)
                  all_goals go_wp2
                  all_goals (
                    refine ⟨⟨k + 1, _, by omega, by go_num, (hbu.trans hB6.out).setCell (Nat.le_refl _) _, ?_, X6.set 1 _, ?_, ?_⟩, by simp [intOf]; omega⟩
                    · rw [World.size_setCell]
                      exact Nat.le_trans hsu HB6.out.size
                    · show OwnRow _ _ _ _
                      rw [take_snoc' _ k _ HMX.out]
                      exact OwnRow.far H6.out hXY _ _
                    · intro b' h1 h2
                      rw [Below.heap_setCell _ _ _ _ (by simp; omega), HB6.out.block b' h2]
                      exact hku.out b' h1 h2)
                · have U1 := E1.below hbu
                  have p0 := U1.cell0 (o := 0) (v := .slice none 0 0) rfl
                  have p1 := U1.cell0 (o := 1) (v := .slice none 0 0) rfl
                  have pf0 := U1.free 0
                  have pf1 := U1.free 1
                  have hFN : Hid (Fin wr (wb.heap.size + 1) hi nv (minNs ns G ord)) := hTN.out.carry (Nat.le_trans hTN.out.1 hsu) (fun b' h1 h2 => hku.out b' (by omega) (Nat.lt_of_lt_of_le h2 hTN.out.1))
                  have hRN : Hid (OwnRow wr wy.heap.size rv (minRs rs G ord)) := by
                    have := hrv.out
                    rwa [List.take_of_length_le (by rw [minRs, List.length_map, List.length_map, HM.out]; omega)] at this
                  obtain ⟨na, nl, nc, rfl⟩ := hFN.out.shape
                  obtain ⟨ra, rcap, hrs, _⟩ := hRN.out.shape
                  generalize (minRs rs G ord).length = rl at hrs
                  subst hrs
                  have hMn : M ≤ n := by have := hgoodo.out.le; rw [HM'.out, HN.out] at this; exact this
                  have hE1l : w.heap.size + 1 < wb.heap.size := E1.lt
                  have hsw : wb.heap.size ≤ wy.heap.size := hbz.size
                  go_wp2
                  refine bodyPost_ret (v := .agg #[.slice na nl nc, .slice ra rl rcap]) (by simp [results, Tryd.results12, go_sem, p0, p1]) rfl ⟨_, rfl, ?_, _, _, rfl, ?_, ?_⟩
                  · exact (hbwu.setCell (by simp) _).setCell (by simp) _
                  · rw [hspec.out.1]
                    refine ((hFN.out.nodes (P := fun b => wb.heap.size + 1 ≤ b ∧ b < wr.heap.size) (by rw [minNs, List.length_map, HM'.out]; omega) (fun b' h1 h2 => ⟨h1, h2⟩)).same fun b' hb' => ?_).weaken fun b' hb' => ?_
                    · rw [Below.heap_setCell _ _ _ _ (by simp; omega), Below.heap_setCell _ _ _ _ (by simp; omega)]
                    · simp only [World.size_setCell]
                      omega
                  · rw [hspec.out.2]
                    refine ((hRN.out.ints (P := fun b => wy.heap.size ≤ b ∧ b < wr.heap.size) (by rw [minRs, List.length_map, List.length_map, HM.out]; exact hms) (fun b' _ h1 h2 => ⟨h1, h2⟩)).same fun b' hb' => ?_).weaken fun b' hb' => ?_
                    · rw [Below.heap_setCell _ _ _ _ (by simp; omega), Below.heap_setCell _ _ _ _ (by simp; omega)]
                    · simp only [World.size_setCell]
                      omega
end Go.Proofs.YtjpkmcaogekkdaaDoor.Rm
