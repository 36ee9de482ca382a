/- The walk of the reference, walked. -/
import Derived.Test.YtjpkmcaogekkdaaDoorRmJ
namespace Go.Proofs.YtjpkmcaogekkdaaDoor.Rm
open Go.RowKit
set_option linter.unusedVariables false
set_option linter.unusedSimpArgs false

def WalkPost (order : List Int) (lo : Nat) (w : World) (e : Ending) (w' : World) : Prop :=
  ∃ v, e = .returned v ∧ Below lo w w' ∧ OwnRow w' lo v order

set_option maxRecDepth 100000 in
theorem l14walk_nodes (W0 : World) (P : Nat → Prop) (b o c n gb gc lo : Nat) (ns : List Nd) (G : List Int) (hn : ns.length = n) (hsz : n * 48 ≤ 140737488351232) (hlo : lo ≤ W0.heap.size) (hb : b < lo) (hgb : gb < lo) (hP : ∀ b, P b → b < lo)
    (hx : ∀ i d, ns[i]? = some d → W0.cell? ⟨b, o + i * 3, none⟩ = some (.int .i64 d.sort) ∧ W0.cell? ⟨b, o + i * 3 + 1, none⟩ = some (.string d.text) ∧ d.text.size ≤ 140737488351232 ∧ ∃ kv, W0.cell? ⟨b, o + i * 3 + 2, none⟩ = some kv ∧ Ints W0 P kv d.kids)
    (hk : ∀ d ∈ ns, ∀ k ∈ d.kids, inR n k = true) (hGl : G.length = n) (hG : Row W0 gb G) (hGr : ∀ x ∈ G, inR n x = true) :
    ∀ (f : Nat) (w : World) (ov : Value) (order : List Int) (at_ : Int), Below lo W0 w → OwnRow w lo ov order → Good n order → n + 1 ≤ order.length + f → inR n at_ = true →
      Calls Tryd.prog 30 #[.slice (some ⟨b, o, none⟩) n c, .slice (some ⟨gb, 0, none⟩) n gc, .int .i64 at_, ov] w (WalkPost (walkG ns G f order (gat G at_)) lo w) := by
  intro f
  induction f with
  | zero =>
    intro w ov order at_ h1 h2 h3 h4 h5
    have := h3.le
    omega
  | succ f ih =>
    intro w ov order at_ hbel hown hgood hf hat
    have hgl : G.length = ns.length := hGl.trans hn.symm
    have HGR := Lib.hid (hn ▸ hGr : ∀ x ∈ G, inR ns.length x = true)
    have HK := Lib.hid (hn ▸ hk : ∀ d ∈ ns, ∀ k ∈ d.kids, inR ns.length k = true)
    have hat2 : inR G.length at_ = true := by rw [hGl]; exact hat
    obtain ⟨t1, t2, t3, t4⟩ := gat_some hat2
    have hgin : inR n (gat G at_) = true := hGr _ (List.mem_of_getElem? t1)
    generalize hg : gat G at_ = g at *
    have hgin2 : inR ns.length g = true := by rw [hn]; exact hgin
    have hbw : b < w.heap.size := Nat.lt_of_lt_of_le hb (Nat.le_trans hlo hbel.size)
    have cg := (hbel.cell (p := ⟨gb, at_.toNat, none⟩) hgb).trans (hG.cell t1)
    generalize at_.toNat = an at *
    subst t4
    have han : (an : Int) < n := by omega
    obtain ⟨gn, rfl⟩ : ∃ gn : Nat, g = gn := ⟨g.toNat, by simp [inR] at hgin; omega⟩
    have hgn : gn < n := by simpa [inR] using hgin
    have hgn2 : (gn : Int) < n := by omega
    obtain ⟨d, hd⟩ := getSome ns gn (by rw [hn]; exact hgn)
    obtain ⟨a0, a1, a2, kv, a3, a4⟩ := hx gn d hd
    have hkG : kidsG ns G gn = d.kids.map (gat G) := by simp [kidsG, hd]
    have hol := hgood.le
    have hoM : (order.length + 1) * 8 ≤ 140737488351232 := by omega
    have HAP := Lib.hid (append_int w lo ov order gn hown (Nat.le_trans hlo hbel.size) hoM)
    have IH := Lib.hid ih
    have HOWN := Lib.hid hown
    have HGOOD := Lib.hid hgood
    have HD := Lib.hid hd
    have HA3 := Lib.hid a3
    have HA4 := Lib.hid a4
    have HKG := Lib.hid hkG
    have HGI := Lib.hid hgin
    have HF := Lib.hid hf
    have HKK := Lib.hid hk
    have HGL := Lib.hid hgl
    have HNN := Lib.hid hn
    obtain ⟨a, oc, rfl, hsh⟩ := hown.shape
    have HSH := Lib.hid hsh
    generalize hm : order.length = m at *
    have HM := Lib.hid hm
    clear hx hk hGr ih hgood a0 a1 a2 a3 a4 hkG hgin hgin2 hd hsh hm hf hgl hat hat2 t1 t2 hg
    go_enter Tryd.func30, Tryd.ntmps30
    go_wp2
    go_loopw [10] (fun i wr => ∃ k : Nat, k ≤ m ∧ i = .int .i64 k ∧ wr = w ∧ Hid ((gn : Int) ∉ order.take k)) (fun i wr => m - (intOf i).toNat)
    case atStart => exact ⟨0, by omega, rfl, rfl, by simp [Hid]⟩
    case round =>
      obtain ⟨k, hk, rfl, rfl, hno⟩ := hrel
      have hk0 : (0 : Int) ≤ k := by omega
      by_cases hlt : k < m
      · obtain ⟨x, hxk⟩ := getSome order k (by rw [HM.out]; exact hlt)
        obtain ⟨og, rfl, h3, h4, h5⟩ := HSH.out (by rintro rfl; simp at hxk)
        have cx := h5 k x hxk
        have HXK := Lib.hid hxk
        clear h5 hxk
        have hk1 : (k : Int) < m := by omega
        by_cases he : x = gn
        · subst he
          have HXK2 := HXK.out
          have hmem : (gn : Int) ∈ order := List.mem_of_getElem? HXK2
          have HMEM := Lib.hid hmem
          clear hmem HXK2
          go_wp2
          go_ret
          refine ⟨_, rfl, Below.refl _ _, ?_⟩
          have : walkG ns G (f + 1) order gn = order := by
            unfold walkG
            rw [if_pos HMEM.out]
          rw [this]
          exact HOWN.out
        · go_wp2
          refine ⟨⟨k + 1, by omega, by go_num, by trivial, ?_⟩, by simp [intOf]; omega⟩
          show ¬ _
          rw [take_snoc' order k x HXK.out, List.mem_append]
          intro h
          rcases h with h | h
          · exact hno.out h
          · simp at h
            exact he h.symm
      · have hnot : Hid ((gn : Int) ∉ order) := by
          have := hno.out
          rwa [List.take_of_length_le (by rw [HM.out]; omega)] at this
        obtain ⟨gg, cap, w1, happ, hown1, hgr1, hgo1, hgl1⟩ := HAP.out
        have HW : Hid (walkG ns G (f + 1) order gn = (d.kids.map (gat G)).foldl (walkG ns G f) (order ++ [(gn : Int)])) := by
          show _ = _
          rw [← HKG.out, walkG, if_neg hnot.out]
        have hb1 : Below lo wr w1 := grown_below hgr1 (OwnRow.above HOWN.out) (Nat.le_trans hlo hbel.size)
        have hbel1 := hbel.trans hb1
        have H1 := Lib.hid hown1
        have HB1 := Lib.hid hb1
        clear hown1 hgr1 hgo1 hgl1 hb1
        go_wp2_with (at_builtin; refine wpList_append_run rfl _ _ 32 rfl rfl rfl happ ?_)
        have hbl : b < W0.heap.size := Nat.lt_of_lt_of_le hb hlo
        have hd1 : Hid (∀ x ∈ d.kids, inR n x = true) := fun x hx => HKK.out d (List.mem_of_getElem? HD.out) x hx
        have hgl0 : Hid (∀ x ∈ kidsG ns G gn, inR ns.length x = true) := kidsG_in HGL.out HGR.out HK.out gn
        have hgs : Hid (Good ns.length (order ++ [(gn : Int)])) := by
          rw [HNN.out]
          exact HGOOD.out.snoc HGI.out hnot.out
        have hkm : d.kids.length * 8 ≤ 140737488351232 := HA4.out.1
        generalize hKL : d.kids.length = K at *
        have HKL := Lib.hid hKL
        clear hKL
        generalize wr = wx at *
        go_loopw [3, 11] (fun v i wr => ∃ k : Nat, k ≤ K ∧ i = .int .i64 k ∧ Below lo wx wr ∧ Hid (OwnRow wr lo v (((d.kids.map (gat G)).take k).foldl (walkG ns G f) (order ++ [(gn : Int)])))) (fun v i wr => K - (intOf i).toNat)
        case atStart =>
          exact ⟨0, by omega, rfl, HB1.out, H1⟩
        case round =>
          obtain ⟨k, hk, rfl, hbel2, hrow⟩ := hrel
          have hbel3 := hbel.trans hbel2
          have hk0 : (0 : Int) ≤ k := by omega
          have c2 := (hbel3.cell (p := ⟨b, o + gn * 3 + 2, none⟩) hb).trans HA3.out
          by_cases hlt : k < K
          · obtain ⟨x, hxk⟩ := getSome d.kids k (by rw [HKL.out]; exact hlt)
            have hk1 : (k : Int) < K := by omega
            have HXK := Lib.hid hxk
            have hmx : (d.kids.map (gat G))[k]? = some (gat G x) := by rw [List.getElem?_map, hxk]; rfl
            have HMX := Lib.hid hmx
            have hkids := HA4.out
            have hfg := fold_good (n := ns.length) (fun o g h1 h2 => walkG_good HGL.out HGR.out HK.out f o g h1 h2) ((d.kids.map (gat G)).take k) (order ++ [(gn : Int)]) hgs.out (fun y hy => hgl0.out y (by rw [HKG.out]; exact List.mem_of_mem_take hy))
            have hlen := hfg.2.length_le
            have hgo2 := hfg.1
            rw [HNN.out] at hgo2
            have IHk := Lib.hid (IH.out wr _ _ x hbel3 hrow.out hgo2 (by have := HF.out; rw [List.length_append, HM.out] at hlen; simp at hlen; omega) (hd1.out x (List.mem_of_getElem? hxk)))
            rcases hkids with ⟨h0, ⟨kb, ko, kc, hkv, hPk, hkx⟩ | ⟨hnil, _⟩⟩
            · subst hkv
              rw [HKL.out] at c2
              have cx := (hbel3.cell (p := ⟨kb, ko + k, none⟩) (hP kb hPk)).trans (hkx k x hxk)
              clear hkx hxk hmx hfg hlen hgo2 h0
              go_wp2_with fail
              refine IHk.out.mono ?_
              rintro e w2 ⟨v2, rfl, hb2, hr2⟩
              go_wp2
              refine ⟨⟨k + 1, by omega, by go_num, hbel2.trans hb2, ?_⟩, by simp [intOf]; omega⟩
              show OwnRow _ _ _ _
              rw [foldl_take _ _ _ k _ HMX.out]
              exact hr2
            · rw [hnil] at hxk
              simp at hxk
          · obtain ⟨ka, kc, rfl⟩ := HA4.out.shape
            rw [HKL.out] at c2
            go_wp2
            go_ret
            refine ⟨_, rfl, hbel2, ?_⟩
            rw [HW.out]
            have := hrow.out
            rwa [List.take_of_length_le (by rw [List.length_map, HKL.out]; omega)] at this

theorem walk_any (W0 : World) (P : Nat → Prop) (v : Value) (gb gc lo : Nat) (ns : List Nd) (G : List Int) (hlo : lo ≤ W0.heap.size) (hgb : gb < lo) (hP : ∀ b, P b → b < lo) (hv : Nodes W0 P v ns)
    (hk : ∀ d ∈ ns, ∀ k ∈ d.kids, inR ns.length k = true) (hGl : G.length = ns.length) (hG : Row W0 gb G) (hGr : ∀ x ∈ G, inR ns.length x = true)
    (w : World) (ov : Value) (order : List Int) (at_ : Int) (h1 : Below lo W0 w) (h2 : OwnRow w lo ov order) (h3 : Good ns.length order) (h5 : inR ns.length at_ = true) :
    Calls Tryd.prog 30 #[v, .slice (some ⟨gb, 0, none⟩) ns.length gc, .int .i64 at_, ov] w (WalkPost (walkG ns G (ns.length + 1) order (gat G at_)) lo w) := by
  obtain ⟨h0, ⟨b, o, c, rfl, hb, hc⟩ | ⟨rfl, a, c, rfl⟩⟩ := hv
  · exact l14walk_nodes W0 P b o c _ gb gc lo ns G rfl h0 hlo (hP b hb) hgb hP hc hk hGl hG hGr (ns.length + 1) w ov order at_ h1 h2 h3 (by omega) h5
  · simp [inR] at h5
    omega
end Go.Proofs.YtjpkmcaogekkdaaDoor.Rm
