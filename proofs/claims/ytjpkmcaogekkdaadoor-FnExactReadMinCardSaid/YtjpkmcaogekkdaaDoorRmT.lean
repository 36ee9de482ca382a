/- The inner function of the program ReadMin, walked. -/
import Derived.Test.YtjpkmcaogekkdaaDoorRmS2
import Derived.Deep.RegionLaw
import Derived.StillTailTactics
import Derived.Deep.DeepCutAuto
namespace Go.Proofs.YtjpkmcaogekkdaaDoor.Rm
open Go.RowKit Go.Maps
set_option linter.unusedVariables false
set_option linter.unusedSimpArgs false
set_option linter.unusedSectionVars false
set_option linter.unnecessarySimpa false

set_option maxHeartbeats 4000000 in
set_option maxRecDepth 100000 in
theorem come_go (W0 : World) (P Fx : Nat → Prop) (ba bof bo bd bc bm gc b o c n : Nat) (rsv rv : Value) (ns : List Nd) (C : List Int) (hn : ns.length = n) (hsz : n * 48 ≤ 140737488351232)
    (hFx : ∀ k, Fx k → k < W0.heap.size ∧ k ≠ bo ∧ k ≠ bm) (hP : ∀ k, P k → Fx k) (fa : Fx ba) (ff : Fx bof) (fd : Fx bd) (fc : Fx bc) (fg : Fx gc) (fb : Fx b) (hbom : bo ≠ bm) (hbo : bo < W0.heap.size) (hbm : bm < W0.heap.size)
    (Ba : Blk W0 ba #[.map (some bm)] 66) (Bf : Blk W0 bof #[.slice (some ⟨gc, 0, none⟩) n n] 32) (Bd : Blk W0 bd #[.slice (some ⟨b, o, none⟩) n c, rsv] 38) (Bc : Blk W0 bc #[clo ba bof bo bd bc] 67) (hRow : Row W0 gc C)
    (hx : ∀ i d, ns[i]? = some d → W0.cell? ⟨b, o + i * 3, none⟩ = some (.int .i64 d.sort) ∧ W0.cell? ⟨b, o + i * 3 + 1, none⟩ = some (.string d.text) ∧ d.text.size ≤ 140737488351232 ∧ ∃ kb ko kc, W0.cell? ⟨b, o + i * 3 + 2, none⟩ = some (.slice (some ⟨kb, ko, none⟩) d.kids.length kc) ∧ P kb ∧ ∀ j x, d.kids[j]? = some x → W0.cell? ⟨kb, ko + j, none⟩ = some (.int .i64 x))
    (hk : ∀ d ∈ ns, ∀ k ∈ d.kids, inR ns.length k = true) (h40 : ∀ d ∈ ns, d.kids.length ≤ 40) (hCl : C.length = ns.length) (hCb : ∀ x ∈ C, 0 ≤ x ∧ x ≤ 140737488351232) :
    ∀ (f : Nat) (w : World) (reps : List Int) (es : List Ent) (nv : Value) (i : Int), St ns C (fun k => k = bo ∨ k = bm) W0 bo bm rv w reps es nv → n + 1 ≤ reps.length + f → inR n i = true →
      Calls Tryd.prog 37 #[.int .i64 i, .pointer (some ⟨ba, 0, none⟩), .pointer (some ⟨bof, 0, none⟩), .pointer (some ⟨bo, 0, none⟩), .pointer (some ⟨bd, 0, none⟩), .pointer (some ⟨bc, 0, none⟩)] w
        (ComePost ns C (fun k => k = bo ∨ k = bm) W0 bo bm rv w reps es nv (walkC ns C f reps i) i) := by
  intro f
  induction f with
  | zero =>
    intro w reps es nv i hS hf hi
    have := hS.good.le
    omega
  | succ f ih =>
    intro w reps es nv i hS hf hi
    have hi2 : inR C.length i = true := by rw [hCl, hn]; exact hi
    obtain ⟨t1, t2, t3, t4⟩ := gat_some hi2
    have hcb := hCb _ (List.mem_of_getElem? t1)
    have hcb1 := hcb.1
    have hcb2 := hcb.2
    have nX : ∀ k, Fx k → ¬ (k = bo ∨ k = bm) := fun k hk h => by
      have := hFx k hk
      rcases h with h | h
      · exact this.2.1 h
      · exact this.2.2 h
    have ca := hS.fr.cell (nX ba fa) (Ba.cell0 (o := 0) rfl)
    have cf := hS.fr.cell (nX bof ff) (Bf.cell0 (o := 0) rfl)
    have cg := hS.fr.cell (nX gc fg) (hRow.cell t1)
    have HW : Hid (walkC ns C (f + 1) reps i = if gat C i ∈ reps.map (gat C) then reps else (kidsAt ns i).foldl (walkC ns C f) (reps ++ [i])) := by
      show _ = _
      rw [walkC]
    have HKI : Hid (kidsAt ns i = match ns[i.toNat]? with | some d => d.kids | none => []) := rfl
    rw [hCl, hn] at t3
    generalize hgg : gat C i = gi at *
    generalize hin : i.toNat = an at *
    subst t4
    have han : (an : Int) < n := by omega
    by_cases hmem : gi ∈ reps.map (gat C)
    · have hlook : ∀ q, (Instr.lookup 66 (.map (some bm)) (.int .i64 gi) true).run Tryd.prog (w.drewN q) = .ok (.tuple #[.int .i64 (ixOf (reps.map (gat C)) gi : Nat), .bool true]) (w.drewN q) :=
        fun q => (hS.at_.carry (w' := w.drewN q) rfl).look_in law3 Tryd.underlying66 (ikey_of gi (by omega) (by omega)) hmem
      have HS := Lib.hid hS
      have HGG := Lib.hid hgg
      have HMEM := Lib.hid hmem
      clear hS hgg hmem hx hk h40 hCb hf ih hcb t1 hRow Ba Bf Bd Bc
      clear hcb1 hcb2
      go_enter Tryd.func37, Tryd.ntmps37
      go_wp2
      go_quiet (fail)
      go_wp2
      go_ret
      refine ⟨nv, [], ?_, ?_, fun x hx => by simp at hx, Fr.drewN _ _, fun g hg => .inl hg, fun g hg => by simp [blks] at hg⟩
      · rw [HW.out, if_pos HMEM.out, HGG.out]
        rfl
      · rw [HW.out, if_pos HMEM.out, List.append_nil]
        exact HS.out.drewN _
    · obtain ⟨na, nc, rfl⟩ := hS.nodes.shape
      have hlook : ∀ q, (Instr.lookup 66 (.map (some bm)) (.int .i64 gi) true).run Tryd.prog (w.drewN q) = .ok (.tuple #[.int .i64 0, .bool false]) (w.drewN q) :=
        fun q => (hS.at_.carry (w' := w.drewN q) rfl).look_out law3 Tryd.underlying66 (ikey_of gi (by omega) (by omega)) hmem
      have hlen := hS.len
      have hmn := hS.good.le
      have HSQ := Lib.hid (fun q => hS.drewN q)
      have HF0 := Lib.hid (fun q => (Fr.drewN w q : Fr (fun k => k = bo ∨ k = bm ∨ (Value.slice na es.length nc).ownBlock = some k) w (w.drewN q)))
      have HLO : Hid (W0.heap.size ≤ w.heap.size) := hS.fr.size
      have HMEM := Lib.hid hmem
      have HGG := Lib.hid hgg
      have HNX := Lib.hid nX
      have HX := Lib.hid hx
      have HK := Lib.hid hk
      have HF := Lib.hid hf
      have IH := Lib.hid ih
      have HI := Lib.hid hi
      have HCB := Lib.hid hcb
      have HN := Lib.hid hn
      have HH40 := Lib.hid h40
      have BAh := Lib.hid Ba
      have BFh := Lib.hid Bf
      have BDh := Lib.hid Bd
      have BCh := Lib.hid Bc
      have HROW := Lib.hid hRow
      have T1 := Lib.hid t1
      have HFX := Lib.hid hFx
      have HPP := Lib.hid hP
      rw [hn] at hmn
      have hsml : es.length ≤ 2932031007317 := by omega
      have hm1 : es.length + 1 ≤ n := by
        have := (hS.good.snoc (i := (an : Int)) (by rw [hn]; exact hi) (by rw [hgg]; exact hmem)).le
        rw [List.length_append, ← hlen, hn] at this
        simpa using this
      generalize hES : es.length = m at *
      have HES := Lib.hid hES
      have HLEN := Lib.hid hlen
      clear hES hlen hS hgg hmem hx hk h40 hCb hf ih hcb t1 hRow Ba Bf Bd Bc nX hi hi2 hFx hP
      go_enter Tryd.func37, Tryd.ntmps37
      go_wp2
      go_quiet (fail)
      have HS0 := Lib.hid (HSQ.out nq)
      have HFR0 := Lib.hid (HF0.out nq)
      have ca := HS0.out.fr.cell (HNX.out ba fa) (BAh.out.cell0 (o := 0) rfl)
      have cf := HS0.out.fr.cell (HNX.out bof ff) (BFh.out.cell0 (o := 0) rfl)
      have cg := HS0.out.fr.cell (HNX.out gc fg) (HROW.out.cell T1.out)
      have co0 := HS0.out.out.cell0 (o := 0) rfl
      have co1 := HS0.out.out.cell0 (o := 1) rfl
      clear hlook
      generalize w.drewN nq = w0 at *
      have HL := HLEN.out
      obtain ⟨w1, hrun1, hM1, hgr1⟩ := (HS0.out.at_.carry (w' := w0.drew) rfl).store law3 Tryd.underlying66 ikey_inj trivial (ikey_of gi (by omega) (by omega)) (by rw [List.length_map]; omega) HMEM.out
      rw [List.length_map, ← HL] at hrun1
      have HM1 := Lib.hid hM1
      have HG1 := Lib.hid hgr1
      clear hM1 hgr1 HL
      go_wp2
      go_still_tail 6, (by kernel_rfl)
      go_wp2_with (at_mapUpdate; refine wpList_mapUpdate_run rfl _ _ _ 66 rfl rfl rfl rfl hrun1 ?_)
      have hfr1 : Fr (fun k => k = bo ∨ k = bm) w0 w1 := (Fr.drewN w0 1).trans (Fr.of_grown (X := fun k => k = bo ∨ k = bm) HG1.out (fun x hx => by cases hx; exact .inr rfl)) (fun x _ hx => hx)
      have hf1 : Fr (fun k => k = bo ∨ k = bm) W0 w1 := HS0.out.fr.trans hfr1 (fun x _ hx => hx)
      have hO1 : Out w1 W0.heap.size (.slice na m nc) es := HS0.out.nodes.carry hfr1.size (fun g hg => hfr1.block g (HS0.out.nodes.own_lt g hg).2 (fun hx => by have := (HS0.out.nodes.own_lt g hg).1; rcases hx with hx | hx <;> omega))
        (fun g hg => by
          obtain ⟨cells, _, _, _, h4⟩ := HS0.out.nodes
          have h5 := h4 g hg
          exact hfr1.block g h5.2.1 (fun hx => by rcases hx with hx | hx <;> omega))
      have hB1 : Blk w1 bo #[.slice na m nc, rv] 38 := (HG1.out.block bo HS0.out.out.lt (by simp; exact hbom)).trans HS0.out.out
      clear ca cf cg co0 co1 hrun1
      obtain ⟨d, hd⟩ := getSome ns an (by rw [HN.out]; omega)
      obtain ⟨a0, a1, a2, kb, ko, kc, a3, hPk, hcx⟩ := HX.out an d hd
      have hlo : W0.heap.size ≤ w1.heap.size := hf1.size
      have cd0 := hf1.cell (HNX.out bd fd) (BDh.out.cell0 (o := 0) (v := .slice (some ⟨b, o, none⟩) n c) rfl)
      have e0 := hf1.cell (HNX.out b fb) a0
      have e1 := hf1.cell (HNX.out b fb) a1
      have e2 := hf1.cell (HNX.out b fb) a3
      have co0 := hB1.cell0 (o := 0) (v := .slice na m nc) rfl
      have HAP := Out.append w1.drew W0.heap.size (.slice na m nc) es d.sort d.text hO1 hlo a2 (by rw [HES.out]; omega)
      rw [HES.out] at HAP
      obtain ⟨G, gcap, w2, happ, hO2, hg2, hG2, hGl⟩ := HAP
      have hne2 : (Value.slice na m nc).ownBlock ≠ some bo := fun e => by have := (hO1.own_lt bo e).1; omega
      have hB2 : Blk w2 bo #[.slice na m nc, rv] 38 := (hg2.block bo hB1.lt (fun e => hne2 e.symm)).trans hB1
      have co2 := hB2.cell0 (o := 0) (v := .slice na m nc) rfl
      have fo2 := hB2.free 0
      have happ2 : (Builtin.append_ #[36, 36] 36 #[.slice na m nc, .slice (some ⟨w1.heap.size, 0, none⟩) 1 1]).run Tryd.prog (w1.alloc (.cells #[.int .i64 d.sort, .string d.text, .slice none 0 0] 58)).drew = .ok (.slice (some ⟨G, 0, none⟩) (m + 1) gcap) w2 := happ
      have coA : (w1.alloc (.cells #[.int .i64 d.sort, .string d.text, .slice none 0 0] 58)).cell? ⟨bo, 0, none⟩ = some (.slice na m nc) := (hB1.alloc _).cell0 (o := 0) rfl
      have HB1 := Lib.hid hB1
      have HAPP := Lib.hid happ2
      have HO2 := Lib.hid hO2
      have HG2 := Lib.hid hg2
      have HGG2 := Lib.hid hG2
      have HD := Lib.hid hd
      have HCX := Lib.hid hcx
      have HF1 := Lib.hid hf1
      have HFR1 := Lib.hid hfr1
      have HB2 := Lib.hid hB2
      clear happ happ2 hO2 hg2 hG2 hd hcx a0 a1 a3 hfr1 hf1 hO1 hB1 hB2 hne2
      simp only [Act.put]
      go_cut [10] (fun s10 wx => s10 = .int .i64 m ∧ wx = w2.setCell ⟨bo, 0, none⟩ (.slice (some ⟨G, 0, none⟩) (m + 1) gcap))
      case first =>
        go_region_law (simp only [Region.wanted, ↓reduceIte]; refine wp_append_run (v := .slice na m nc) (xv := .slice (some ⟨w1.heap.size, 0, none⟩) 1 1) (v' := .slice (some ⟨G, 0, none⟩) (m + 1) gcap) (w' := w2) (.tmp 35) (.tmp 49) 36 ?_ ?_ ?_ ?_ ?_; rfl; rfl; rfl; exact HAPP.out)
        all_goals (go_wp2_with fail; go_meet; exact ⟨rfl, rfl⟩)
      case rest =>
        obtain ⟨rfl, rfl⟩ := hcut
        have hnvlo : ∀ g, (Value.slice na m nc).ownBlock = some g → W0.heap.size ≤ g := fun g hg => (HS0.out.nodes.own_lt g hg).1
        have hS3 := Lib.hid (St.laid HS0.out hbom hbo hbm (i := (an : Int)) (by rw [HN.out]; exact HI.out) (by rw [HGG.out]; exact HMEM.out) (d := d) (by rw [hin]; exact HD.out) HF1.out (by rw [HGG.out]; exact HM1.out) HB1.out HG2.out hnvlo HO2.out)
        have hFr3 : Fr (fun k => k = bo ∨ k = bm ∨ (Value.slice na m nc).ownBlock = some k) w (w2.setCell ⟨bo, 0, none⟩ (.slice (some ⟨G, 0, none⟩) (m + 1) gcap)) :=
          ((HFR0.out.trans (HFR1.out.weak (Y := fun k => k = bo ∨ k = bm ∨ (Value.slice na m nc).ownBlock = some k) (fun x _ hx => by rcases hx with hx | hx <;> simp [hx])) (fun x _ hx => hx)).trans (Fr.of_grown_drew (X := fun k => (Value.slice na m nc).ownBlock = some k) HG2.out (fun x hx => hx)) (fun x _ hx => .inr (.inr hx))).trans (Fr.set w2 _ _ (X := fun k => k = bo) rfl) (fun x _ hx => .inl hx)
        have hw1w : w.heap.size ≤ w1.heap.size := Nat.le_trans HFR0.out.size HFR1.out.size
        have hLI := Lib.hid (LI.start (f := f) (nv := .slice na m nc) hS3.out hFr3 (fun x hx => by cases hx; rcases HGG2.out with hy | hy; exact .inl hy; exact .inr (Nat.le_trans hw1w hy)) HLO.out hbo hbm)
        have hf3 := hS3.out.fr
        clear cd0 e0 e1 e2 co0 co2 fo2 coA hFr3
        generalize (w2.setCell ⟨bo, 0, none⟩ (.slice (some ⟨G, 0, none⟩) (m + 1) gcap)) = w3 at *
        obtain ⟨a0, a1, a2', kb', ko', kc', a3, hPk', hcx'⟩ := HX.out an d HD.out
        have hf4 : Fr (fun k => k = bo ∨ k = bm) W0 (w3.alloc (.cells #[] 3)) := hf3.trans (Fr.alloc w3 _ (X := fun _ => False)) (fun x _ hx => hx.elim)
        have cd0 := hf4.cell (HNX.out bd fd) (BDh.out.cell0 (o := 0) (v := .slice (some ⟨b, o, none⟩) n c) rfl)
        have e2 := hf4.cell (HNX.out b fb) a3
        have HCX2 := Lib.hid hcx'
        have HPK2 := Lib.hid hPk'
        have HK40 := HH40.out d (List.mem_of_getElem? HD.out)
        clear a0 a1 a2' a3 hf3 hf4 hPk hPk' hcx'
        go_wp2
        go_loopw [11, 60] (fun kv i wr => ∃ (j g cap : Nat) (reps' : List Int) (new : List Ent) (nv' : Value), j ≤ d.kids.length ∧ i = .int .i64 j ∧ kv = .slice (some ⟨g, 0, none⟩) j cap ∧ Hid (LI ns C W0 bo bm rv f w reps es (.slice na m nc) an d j g cap wr reps' new nv')) (fun kv i wr => d.kids.length - (intOf i).toNat)
        case atStart => exact ⟨0, w3.heap.size, 0, _, _, _, by omega, rfl, rfl, hLI.out⟩
        case round =>
          obtain ⟨j, g, cap, reps', new, nv', hj, rfl, rfl, hL⟩ := hrel
          have hj0 : (0 : Int) ≤ j := by omega
          have hst := hL.out.st
          by_cases hlt : j < d.kids.length
          · have hj1 : (j : Int) < d.kids.length := by omega
            obtain ⟨x, hxj⟩ := getSome d.kids j hlt
            have cx := hst.fr.cell (HNX.out kb' (HPP.out kb' HPK2.out)) (HCX2.out j x hxj)
            have cc := hst.fr.cell (HNX.out bc fc) (BCh.out.cell0 (o := 0) (v := .func (.func 37) #[] #[.pointer (some ⟨ba, 0, none⟩), .pointer (some ⟨bof, 0, none⟩), .pointer (some ⟨bo, 0, none⟩), .pointer (some ⟨bd, 0, none⟩), .pointer (some ⟨bc, 0, none⟩)]) rfl)
            have hxin := HK.out d (List.mem_of_getElem? HD.out) x (List.mem_of_getElem? hxj)
            have hpl := hL.out.pre.length_le
            have hfu := HF.out
            have hle := HLEN.out
            rw [List.length_append] at hpl
            simp only [List.length_cons, List.length_nil] at hpl
            have HIH := Lib.hid (IH.out wr reps' (es ++ [(⟨d.sort, d.text, []⟩, none)] ++ new) nv' x hst (by omega) (by rw [← HN.out]; exact hxin))
            have HST := Lib.hid (fun e w5 (hc : ComePost ns C (fun k => k = bo ∨ k = bm) W0 bo bm rv wr reps' (es ++ [(⟨d.sort, d.text, []⟩, none)] ++ new) nv' (walkC ns C f reps' x) x e w5) =>
              LI.step hL.out hbo hbm hxj hc (by obtain ⟨q, rfl⟩ : ∃ q, f = q + 1 := ⟨f - 1, by omega⟩; exact walkC_mem HK.out q reps' x hst.good hxin) (walkC_good HK.out f reps' x hst.good hxin).2 (by omega) hlt)
            clear hst hxj hxin hpl hfu hle
            go_wp2_with fail
            refine HIH.out.mono ?_
            rintro e w5 hc
            obtain ⟨v, rfl, g6, cap6, w6, happ, reps6, new6, nv6, hL6⟩ := HST.out e w5 hc
            have HL6 := Lib.hid hL6
            clear hc hL6
            go_wp2_with (at_builtin; refine wpList_append_run rfl _ _ 32 rfl rfl rfl happ ?_)
            exact ⟨⟨j + 1, g6, cap6, reps6, new6, nv6, by omega, by go_num, rfl, HL6⟩, by simp [intOf]; omega⟩
          · obtain rfl : j = d.kids.length := by omega
            obtain ⟨G', l, c', rfl, hl⟩ := hL.out.addr
            rw [HES.out] at hl
            obtain ⟨⟨old, hold⟩, hfz, hpost⟩ := LI.done hL.out hbo hbm (by rw [hin]; exact HD.out) (by rw [HES.out]; exact HLEN.out) (by rw [HGG.out]; exact HMEM.out) (by omega)
            rw [HES.out] at hold hfz hpost
            have co0 := hst.out.cell0 (o := 0) (v := .slice (some ⟨G', 0, none⟩) l c') rfl
            have hm2 : (m : Int) < l := by omega
            have HPO := Lib.hid hpost
            have HEQ := Lib.hid hL.out.eq
            clear hst hpost
            go_wp2
            go_ret
            have hw2 : walkC ns C (f + 1) reps (an : Int) = reps' := by
              rw [HW.out, if_neg HMEM.out, HKI.out, HD.out]
              have := HEQ.out
              rw [List.take_of_length_le (Nat.le_refl _)] at this
              exact this.symm
            rw [hw2]
            exact HPO.out
end Go.Proofs.YtjpkmcaogekkdaaDoor.Rm
