/- The program ReadMin, walked. -/
import Derived.Test.YtjpkmcaogekkdaaDoorRmT
import Derived.Test.YtjpkmcaogekkdaaDoorRmV0
import Derived.Laws.EntriesVeiled
import Derived.Deep.RegionLaw
namespace Go.Proofs.YtjpkmcaogekkdaaDoor.Rm
open Go.RowKit Go.Maps
set_option linter.unusedVariables false
set_option linter.unusedSimpArgs false
set_option linter.unusedSectionVars false
set_option linter.unnecessarySimpa false

set_option maxHeartbeats 4000000 in
set_option maxRecDepth 100000 in
theorem min_go (w : World) (P : Nat → Prop) (b o c rb ro rc n m : Nat) (ns : List Nd) (rs : List Int) (hb : b < w.heap.size) (hrb : rb < w.heap.size) (hP : ∀ b, P b → b < w.heap.size) (hPb : P rb) (hn : ns.length = n) (hm : rs.length = m) (hsz : n * 48 ≤ 140737488351232) (hms : m * 8 ≤ 140737488351232)
    (hx : NodesA w P b o ns) (hk8 : ∀ d ∈ ns, d.kids.length * 8 ≤ 140737488351232) (hr : ∀ i x, rs[i]? = some x → w.cell? ⟨rb, ro + i, none⟩ = some (.int .i64 x))
    (ht : Tab w) (hso : ∀ d ∈ ns, -9223372036854775808 ≤ d.sort ∧ d.sort ≤ 9223372036854775807) (htx : ∀ d ∈ ns, d.text.size ≤ 1048576) :
    Calls Tryd.prog 14 #[.agg #[.slice (some ⟨b, o, none⟩) n c, .slice (some ⟨rb, ro, none⟩) m rc]] w (ImplPost ns rs w) := by
  have HX := Lib.hid hx
  have HK8 := Lib.hid hk8
  have HR := Lib.hid hr
  have HN := Lib.hid hn
  have HM := Lib.hid hm
  have HP := Lib.hid hP
  have HPB := Lib.hid hPb
  have HT := Lib.hid ht
  have HSO := Lib.hid hso
  have HTX := Lib.hid htx
  clear hx hk8 hr hn hm hP hPb ht hso htx
  have hmm := @run_makeMap Tryd.prog
  obtain ⟨B0, B1⟩ := Blk.two w #[.slice (some ⟨b, o, none⟩) n c, .slice (some ⟨rb, ro, none⟩) m rc] #[.slice none 0 0, .slice none 0 0] 38 38
  have hW1 := below2 w (.cells #[.slice (some ⟨b, o, none⟩) n c, .slice (some ⟨rb, ro, none⟩) m rc] 38) (.cells #[.slice none 0 0, .slice none 0 0] 38)
  have hWs : ((w.alloc (.cells #[.slice (some ⟨b, o, none⟩) n c, .slice (some ⟨rb, ro, none⟩) m rc] 38)).alloc (.cells #[.slice none 0 0, .slice none 0 0] 38)).heap.size = w.heap.size + 2 := by simp
  have HXB := Lib.hid (fun wx (h : Below w.heap.size w wx) => HX.out.below hb HP.out h)
  have HPL := Lib.hid (fun wx (h : Below w.heap.size w wx) => places_go wx P b o c n (.slice (some ⟨rb, ro, none⟩) m rc) ns rs (Nat.lt_of_lt_of_le hb h.size) (fun g hg => Nat.lt_of_lt_of_le (HP.out g hg) h.size) HN.out hsz ((HXB.out wx h).weak HK8.out)
    ⟨by rw [HM.out]; exact hms, .inl ⟨rb, ro, rc, by rw [HM.out], HPB.out, fun i x hi => (h.cell (p := ⟨rb, ro + i, none⟩) hrb).trans (HR.out i x hi)⟩⟩)
  go_enter Tryd.func14, Tryd.ntmps14
  generalize hpl : plOk ns rs = pl at *
  have HPLQ := Lib.hid hpl
  clear hpl
  cases pl
  · go_wp2_with fail
    refine (HPL.out _ hW1).mono ?_
    rintro e w1 ⟨rfl, hb1⟩
    have D1 := B1.below hb1
    have g0 := D1.free 0
    have g1 := D1.free 1
    have x0 := D1.cell0 (o := 0) (v := .slice none 0 0) rfl
    have x1 := D1.cell0 (o := 1) (v := .slice none 0 0) rfl
    have hbw : Below w.heap.size w w1 := hW1.trans (hb1.mono (by rw [hWs]; omega))
    have hsz2 := hb1.size
    rw [hWs] at hsz2
    go_wp2
    refine bodyPost_ret (v := .agg #[.slice none 0 0, .slice none 0 0]) (by simp [results, Tryd.results14, go_sem, x0, x1]) rfl (impl_empty (by rw [allOk_of, HPLQ.out]; rfl) ?_ (by simpa using hsz2))
    exact (hbw.setCell (by simp) _).setCell (by simp) _
  · go_wp2_with fail
    refine (HPL.out _ hW1).mono ?_
    rintro e w1 ⟨rfl, hb1⟩
    have D0 := B0.below hb1
    have D1 := B1.below hb1
    have hbw : Below w.heap.size w w1 := hW1.trans (hb1.mono (by rw [hWs]; omega))
    have hsz2 := hb1.size
    rw [hWs] at hsz2
    clear hb1 B0 B1 hW1 hWs
    have c0 := D0.cell0 (o := 0) (v := .slice (some ⟨b, o, none⟩) n c) rfl
    go_wp2
    go_loopw [18] (fun i wr => ∃ k : Nat, k ≤ n ∧ i = .int .i64 k ∧ Below w1.heap.size w1 wr ∧ Hid (∀ j d, j < k → ns[j]? = some d → cntOk d.sort d.kids.length = true)) (fun i wr => n - (intOf i).toNat)
    case atStart => exact ⟨0, by omega, rfl, Below.refl _ _, fun j d h => by omega⟩
    case round =>
      obtain ⟨k, hk, rfl, hbel, hall⟩ := hrel
      have hk0 : (0 : Int) ≤ k := by omega
      have C0 := D0.below hbel
      have C1 := D1.below hbel
      have x0 := C1.cell0 (o := 0) (v := .slice none 0 0) rfl
      have x1 := C1.cell0 (o := 1) (v := .slice none 0 0) rfl
      have g0 := C1.free 0
      have g1 := C1.free 1
      have hbwr : Below w.heap.size w wr := hbw.trans (hbel.mono hbw.size)
      by_cases hlt : k < n
      · have hk1 : (k : Int) < n := by omega
        obtain ⟨d, hd⟩ := getSome ns k (by rw [HN.out]; exact hlt)
        obtain ⟨a0, a1, a2, kb, ko, kc, a3, hPk, hcx⟩ := HXB.out wr hbwr k d hd
        have HCO := Lib.hid (fun wx => count_any d.sort d.text (some ⟨kb, ko, none⟩) d.kids.length kc wx (HK8.out d (List.mem_of_getElem? hd)))
        have HD := Lib.hid hd
        clear hd hcx hPk c0
        generalize hco : cntOk d.sort d.kids.length = co at *
        have HCQ := Lib.hid hco
        clear hco
        cases co
        · go_wp2_with fail
          refine (HCO.out _).mono ?_
          rintro e w2 ⟨rfl, hb2⟩
          have hb2' : Below wr.heap.size wr w2 := below1b hb2
          have E1 := C1.below hb2'
          have y0 := E1.cell0 (o := 0) (v := .slice none 0 0) rfl
          have y1 := E1.cell0 (o := 1) (v := .slice none 0 0) rfl
          have f0 := E1.free 0
          have f1 := E1.free 1
          clear hb2
          go_wp2
          have hno : allOk ns rs = false := by
            have : (ns.all fun d => cntOk d.sort d.kids.length) = false := by
              rw [List.all_eq_false]
              exact ⟨d, List.mem_of_getElem? HD.out, by rw [HCQ.out]; simp⟩
            rw [allOk_of, this, Bool.and_false]
          refine bodyPost_ret (v := .agg #[.slice none 0 0, .slice none 0 0]) (by simp [results, Tryd.results14, go_sem, y0, y1]) rfl (impl_empty hno ?_ ?_)
          · exact ((hbwr.trans (hb2'.mono hbwr.size)).setCell (by simp) _).setCell (by simp) _
          · simp only [World.size_setCell]
            exact Nat.le_trans hsz2 (Nat.le_trans hbel.size hb2'.size)
        · go_wp2_with fail
          refine (HCO.out _).mono ?_
          rintro e w2 ⟨rfl, hb2⟩
          have hb2' : Below wr.heap.size wr w2 := below1b hb2
          clear hb2
          go_wp2
          refine ⟨⟨k + 1, by omega, by go_num, hbel.trans (hb2'.mono hbel.size), fun j d' hj hd' => ?_⟩, by simp [intOf]; omega⟩
          by_cases hjk : j = k
          · subst hjk
            have := HD.out.symm.trans hd'
            rw [← Option.some.inj this]
            exact HCQ.out
          · exact hall.out j d' (by omega) hd'
      · have hcnt : Hid (∀ d ∈ ns, cntOk d.sort d.kids.length = true) := fun d hd => by
          obtain ⟨j, hj, rfl⟩ := List.getElem_of_mem hd
          exact hall.out j _ (by have := HN.out; omega) (List.getElem?_eq_getElem hj)
        have hok : Hid (allOk ns rs = true) := by
          have : (ns.all fun d => cntOk d.sort d.kids.length) = true := List.all_eq_true.2 hcnt.out
          show _ = _
          rw [allOk_of, HPLQ.out, this]
          rfl
        have hkr : Hid ((∀ d ∈ ns, ∀ k ∈ d.kids, inR ns.length k = true) ∧ ∀ x ∈ rs, inR ns.length x = true) := by
          have := HPLQ.out
          simp only [plOk, Bool.and_eq_true, List.all_eq_true] at this
          exact ⟨this.1, this.2⟩
        have HCLS := Lib.hid ((classes_go wr P b o c n ns (Nat.lt_of_lt_of_le hb hbwr.size) (fun g hg => Nat.lt_of_lt_of_le (HP.out g hg) hbwr.size) HN.out hsz (HXB.out wr hbwr) hkr.out.1 (fun d hd => cnt40 (hcnt.out d hd)) (HT.out.on hbwr) HSO.out HTX.out).mono (fun e w' h => (by obtain ⟨gc, C, h1, h2⟩ := h; rw [HN.out] at h1; exact ⟨gc, C, h1, h2⟩ : ∃ gc C, e = .returned (.slice (some ⟨gc, 0, none⟩) n n) ∧ Below wr.heap.size wr w' ∧ wr.heap.size ≤ gc ∧ Row w' gc C ∧ Parts ns C ∧ ∀ x ∈ C, 0 ≤ x ∧ x ≤ 140737488351232)))
        have c0' := C0.cell0 (o := 0) (v := .slice (some ⟨b, o, none⟩) n c) rfl
        clear c0
        go_wp2_with fail
        refine HCLS.out.mono ?_
        rintro e w5 ⟨gc, C, rfl, hb5, hgc, hRow, hParts, hCbd⟩
        have F0 := C0.below hb5
        have F1 := C1.below hb5
        have d0 := F0.cell0 (o := 0) (v := .slice (some ⟨b, o, none⟩) n c) rfl
        have d1 := F0.cell0 (o := 1) (v := .slice (some ⟨rb, ro, none⟩) m rc) rfl
        have HROW := Lib.hid hRow
        have HPA := Lib.hid hParts
        have HCB := Lib.hid hCbd
        have HB5 := Lib.hid hb5
        clear hRow hParts hCbd hb5 x0 x1 g0 g1 c0'
        obtain ⟨BF, BO, BMp, BA, BC, hbW, hWsz⟩ := five_blocks w5 #[.slice (some ⟨gc, 0, none⟩) n n] #[.slice none 0 0, .slice none 0 0] #[.map (some (w5.heap.size + 1 + 1))] #[.func (.func 37) #[] #[.pointer (some ⟨w5.heap.size + 1 + 1 + 1, 0, none⟩), .pointer (some ⟨w5.heap.size, 0, none⟩), .pointer (some ⟨w5.heap.size + 1, 0, none⟩), .pointer (some ⟨w.heap.size, 0, none⟩), .pointer (some ⟨w5.heap.size + 1 + 1 + 1 + 1, 0, none⟩)]] 32 38 66 67
        have F0' := F0.below hbW
        have F1' := F1.below hbW
        have d1' := F0'.cell0 (o := 1) (v := .slice (some ⟨rb, ro, none⟩) m rc) rfl
        have hbw5 : Below w.heap.size w w5 := hbwr.trans (HB5.out.mono hbwr.size)
        have hF0l := F0.lt
        have hF1l := F1.lt
        have HROW2 := Lib.hid (HROW.out.below hbW)
        have hgcl := HROW.out.lt
        have hbwW : Below w.heap.size w (((((w5.alloc (.cells #[.slice (some ⟨gc, 0, none⟩) n n] 32)).alloc (.cells #[.slice none 0 0, .slice none 0 0] 38)).alloc (.map #[] 0)).alloc (.cells #[.map (some (w5.heap.size + 1 + 1))] 66)).alloc (.cells #[.func (.func 37) #[] #[.pointer (some ⟨w5.heap.size + 1 + 1 + 1, 0, none⟩), .pointer (some ⟨w5.heap.size, 0, none⟩), .pointer (some ⟨w5.heap.size + 1, 0, none⟩), .pointer (some ⟨w.heap.size, 0, none⟩), .pointer (some ⟨w5.heap.size + 1 + 1 + 1 + 1, 0, none⟩)]] 67)) := hbw5.trans (hbW.mono hbw5.size)
        have hb5s : b < w5.heap.size := Nat.lt_of_lt_of_le hb hbw5.size
        have hws5 := hbw5.size
        go_wp2
        generalize (((((w5.alloc (.cells #[.slice (some ⟨gc, 0, none⟩) n n] 32)).alloc (.cells #[.slice none 0 0, .slice none 0 0] 38)).alloc (.map #[] 0)).alloc (.cells #[.map (some (w5.heap.size + 1 + 1))] 66)).alloc (.cells #[.func (.func 37) #[] #[.pointer (some ⟨w5.heap.size + 1 + 1 + 1, 0, none⟩), .pointer (some ⟨w5.heap.size, 0, none⟩), .pointer (some ⟨w5.heap.size + 1, 0, none⟩), .pointer (some ⟨w.heap.size, 0, none⟩), .pointer (some ⟨w5.heap.size + 1 + 1 + 1 + 1, 0, none⟩)]] 67)) = W0 at *
        have HCOME := Lib.hid (come_go W0 P (fun k => k < w5.heap.size ∨ k = w5.heap.size ∨ k = w5.heap.size + 1 + 1 + 1 ∨ k = w5.heap.size + 1 + 1 + 1 + 1) (w5.heap.size + 1 + 1 + 1) w5.heap.size (w5.heap.size + 1) w.heap.size (w5.heap.size + 1 + 1 + 1 + 1) (w5.heap.size + 1 + 1) gc b o c n (.slice (some ⟨rb, ro, none⟩) m rc) · ns C HN.out hsz
          (fun k hk => by omega) (fun k hk => .inl (Nat.lt_of_lt_of_le (HP.out k hk) hws5)) (by simp) (by simp) (.inl hF0l) (by simp) (.inl hgcl) (.inl hb5s) (by omega) (by omega) (by omega)
          BA BF F0' BC HROW2.out (HXB.out W0 hbwW) hkr.out.1 (fun d hd => cnt40 (hcnt.out d hd)) HPA.out.1 HCB.out)
        have HRI := Lib.hid (RI.start (ns := ns) (C := C) (rs := rs) BO BMp)
        have HF1 := Lib.hid F1'
        have HBC := Lib.hid BC
        have HBWW := Lib.hid hbwW
        have hbo : w5.heap.size + 1 < W0.heap.size := by omega
        have hbm : w5.heap.size + 1 + 1 < W0.heap.size := by omega
        clear BF BO BMp BA BC F0 F1 F0' F1' d0 d1 d1' hbW hbwW
        go_loopw [36] (fun i wr => ∃ (k : Nat) (reps : List Int) (es : List Ent) (nv rv : Value), k ≤ m ∧ i = .int .i64 k ∧ Hid (RI ns C rs W0 (w5.heap.size + 1) (w5.heap.size + 1 + 1) k wr reps es nv rv)) (fun i wr => m - (intOf i).toNat)
        case atStart => exact ⟨0, _, _, _, _, by omega, rfl, HRI.out⟩
        case round =>
          obtain ⟨k, reps, es, nv, rv, hk, rfl, hR⟩ := hrel
          have hk0 : (0 : Int) ≤ k := by omega
          have hst := hR.out.st
          have hbrx : ∀ x, x < w5.heap.size ∨ x = w5.heap.size + 1 + 1 + 1 + 1 → ¬ (x = w5.heap.size + 1 ∨ x = w5.heap.size + 1 + 1) := fun x hx => by omega
          have r1 := hst.out.cell0 (o := 1) (v := rv) rfl
          by_cases hlt : k < m
          · have hk1 : (k : Int) < m := by omega
            obtain ⟨x, hxk⟩ := getSome rs k (by rw [HM.out]; exact hlt)
            have cx := hst.fr.cell (hbrx rb (.inl (Nat.lt_of_lt_of_le hrb hws5))) ((HBWW.out.cell (p := ⟨rb, ro + k, none⟩) hrb).trans (HR.out k x hxk))
            have cc := hst.fr.cell (hbrx _ (.inr rfl)) (HBC.out.cell0 (o := 0) (v := .func (.func 37) #[] #[.pointer (some ⟨w5.heap.size + 1 + 1 + 1, 0, none⟩), .pointer (some ⟨w5.heap.size, 0, none⟩), .pointer (some ⟨w5.heap.size + 1, 0, none⟩), .pointer (some ⟨w.heap.size, 0, none⟩), .pointer (some ⟨w5.heap.size + 1 + 1 + 1 + 1, 0, none⟩)]) rfl)
            have hxi := hkr.out.2 x (List.mem_of_getElem? hxk)
            have HIH := Lib.hid (HCOME.out rv (n + 1) wr.drew reps es nv x (hst.drewN 1) (by omega) (by rw [← HN.out]; exact hxi))
            rw [← HN.out] at HIH
            have HST := Lib.hid (fun e w5' (hc : ComePost ns C (fun k => k = w5.heap.size + 1 ∨ k = w5.heap.size + 1 + 1) W0 (w5.heap.size + 1) (w5.heap.size + 1 + 1) rv wr.drew reps es nv (walkC ns C (ns.length + 1) reps x) x e w5') => RI.step hR.out hbo hbm (by omega) hkr.out.1 hxk hxi hc (by omega) (by rw [HM.out]; exact hlt))
            clear hst hxk hxi
            go_wp2_with fail
            go_region_law (first | (simp only [Region.wanted, ↓reduceIte]; refine wp_append_run (v := rv) (xv := .slice (some ⟨w6.heap.size, 0, none⟩) 1 1) (v' := .slice (some ⟨g6, 0, none⟩) (k + 1) cap6) (w' := w7) (.tmp 41) (.tmp 45) 32 ?_ ?_ ?_ ?_ ?_; rfl; rfl; rfl; exact happ) | (go_simp; go_at_call 37; refine HIH.out.mono ?_; rintro e w6 hc; obtain ⟨v, rfl, s1, s2, g6, cap6, w7, happ, s3, s4, reps6, es6, nv6, hR6⟩ := HST.out e w6 hc; have HR6 := Lib.hid hR6; clear hR6 hc; dsimp only) | fail)
            all_goals go_wp2
            all_goals exact ⟨⟨k + 1, reps6, es6, nv6, _, by omega, by go_num, HR6.out⟩, by simp [intOf]; omega⟩
          · have hkm : k = rs.length := by have := HM.out; omega
            have r0 := hst.out.cell0 (o := 0) (v := nv) rfl
            obtain ⟨na, nc, rfl⟩ := hst.nodes.shape
            obtain ⟨ra, rcap, hrv, _⟩ := hR.out.row.shape
            generalize (((rs.take k).map (gat C)).map (placeI (reps.map (gat C)))).length = rl at hrv
            subst hrv
            have G1 := hst.fr.blk HF1.out (hbrx _ (.inl hF1l))
            have p0 := G1.cell0 (o := 0) (v := .slice none 0 0) rfl
            have p1 := G1.cell0 (o := 1) (v := .slice none 0 0) rfl
            have f0 := G1.free 0
            have f1 := G1.free 1
            have hfw : Below w.heap.size w wr := by
              have h1 := HBWW.out
              have h2 := hst.fr
              refine ⟨h2.os.trans h1.os, h2.tape.trans h1.tape, h2.output.trans h1.output, Nat.le_trans h1.size h2.size, fun y hy => ?_⟩
              rw [h2.block y (by omega) (by omega)]
              exact h1.block y hy
            have hfs := hst.fr.size
            generalize es.length = el at *
            clear hst
            go_wp2
            refine bodyPost_ret (v := .agg #[.slice na el nc, .slice ra rl rcap]) (by simp [results, Tryd.results14, go_sem, p0, p1]) rfl ⟨_, rfl, ?_, ?_⟩
            · exact (hfw.setCell (by simp) _).setCell (by simp) _
            · subst hkm
              refine RI.post (lo := w.heap.size) hR.out hkr.out.1 HPA.out hkr.out.2 hok.out (by rw [HN.out]; exact hsz) (by rw [HM.out]; exact hms) (by omega) (fun g hg => ?_) (by simp)
              rw [Below.heap_setCell _ _ _ _ (by simp; omega), Below.heap_setCell _ _ _ _ (by simp; omega)]
end Go.Proofs.YtjpkmcaogekkdaaDoor.Rm
