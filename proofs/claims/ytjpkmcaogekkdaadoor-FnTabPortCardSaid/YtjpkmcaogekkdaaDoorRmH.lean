/- Likeness of two nodes in the reference, walked. -/
import Derived.Test.YtjpkmcaogekkdaaDoorRmG
namespace Go.Proofs.YtjpkmcaogekkdaaDoor.Rm
open Go.RowKit
set_option linter.unusedVariables false
set_option linter.unusedSimpArgs false

/-- what stands at place k -/
def gat (G : List Int) (k : Int) : Int := G.getD k.toNat 0
/-- how a node looks, its parts by their groups -/
def look (G : List Int) (d : Nd) : Nd := ⟨d.sort, d.text, d.kids.map (gat G)⟩

theorem gat_some {G : List Int} {k : Int} (h : inR G.length k = true) : G[k.toNat]? = some (gat G k) ∧ 0 ≤ k ∧ k.toNat < G.length ∧ (k.toNat : Int) = k := by
  simp [inR] at h
  have : k.toNat < G.length := by omega
  refine ⟨?_, h.1, this, by omega⟩
  simp [gat, List.getD, this]

theorem alike_no (s s' : Int) (t t' : ByteArray) (a a' : Option Addr) (n c n' c' : Nat) (gv : Value) (w : World) (h : ¬ (s = s' ∧ t = t' ∧ n = n')) (hn : n * 8 ≤ 140737488351232) (hn' : n' * 8 ≤ 140737488351232) :
    Calls Tryd.prog 50 #[.agg #[.int .i64 s, .string t, .slice a n c], .agg #[.int .i64 s', .string t', .slice a' n' c'], gv] w fun e w' => e = .returned (.bool false) ∧ Below w.heap.size w w' := by
  by_cases h1 : s = s'
  · subst h1
    by_cases h2 : t = t'
    · subst h2
      have h3 : ¬ n = n' := fun e => h ⟨rfl, rfl, e⟩
      have h4 : ¬ ((n : Int) = n') := by omega
      clear h
      have ht : (!t.toList == t.toList) = false := by simp
      go_enter Tryd.func50, Tryd.ntmps50
      go_wp2
      go_ret
      exact ⟨rfl, below2 _ _ _⟩
    · clear h
      have h5 : ¬ t.toList = t'.toList := by
        rw [ByteArray.toList_eq, ByteArray.toList_eq]
        intro e
        apply h2
        cases t; cases t'
        simp_all
      have ht : (!t.toList == t'.toList) = true := by simp [h5]
      go_enter Tryd.func50, Tryd.ntmps50
      go_wp2
      go_ret
      exact ⟨rfl, below2 _ _ _⟩
  · clear h
    go_enter Tryd.func50, Tryd.ntmps50
    go_wp2
    go_ret
    exact ⟨rfl, below2 _ _ _⟩

theorem alike_nil (s : Int) (t : ByteArray) (a a' : Option Addr) (c c' : Nat) (gv : Value) (w : World) :
    Calls Tryd.prog 50 #[.agg #[.int .i64 s, .string t, .slice a 0 c], .agg #[.int .i64 s, .string t, .slice a' 0 c'], gv] w fun e w' => e = .returned (.bool true) ∧ Below w.heap.size w w' := by
  have ht : (!t.toList == t.toList) = false := by simp
  go_enter Tryd.func50, Tryd.ntmps50
  go_wp2
  go_loopw [7] (fun i wr => i = .int .i64 0 ∧ Below w.heap.size w wr ∧ Blk wr w.heap.size #[.int .i64 s, .string t, .slice a 0 c] 58) (fun i wr => 0)
  case atStart => exact ⟨rfl, below2 _ _ _, (Blk.two _ _ _ _ _).1⟩
  case round =>
    obtain ⟨rfl, hbel, hB⟩ := hrel
    have c2 := hB.cell0 (o := 2) rfl
    go_wp2
    go_ret
    exact ⟨rfl, hbel⟩

theorem alike_go (s : Int) (t : ByteArray) (b o c b' o' c' n gb N gc : Nat) (xs ys G : List Int) (w : World) (hn : n * 8 ≤ 140737488351232) (hN : N * 8 ≤ 140737488351232) (hxs : xs.length = n) (hys : ys.length = n) (hG : G.length = N)
    (hb : b < w.heap.size) (hb' : b' < w.heap.size) (hgb : gb < w.heap.size) (hxr : ∀ k ∈ xs, inR N k = true) (hyr : ∀ k ∈ ys, inR N k = true)
    (hx : ∀ i x, xs[i]? = some x → w.cell? ⟨b, o + i, none⟩ = some (.int .i64 x)) (hy : ∀ i x, ys[i]? = some x → w.cell? ⟨b', o' + i, none⟩ = some (.int .i64 x)) (hg : ∀ i x, G[i]? = some x → w.cell? ⟨gb, i, none⟩ = some (.int .i64 x)) :
    Calls Tryd.prog 50 #[.agg #[.int .i64 s, .string t, .slice (some ⟨b, o, none⟩) n c], .agg #[.int .i64 s, .string t, .slice (some ⟨b', o', none⟩) n c'], .slice (some ⟨gb, 0, none⟩) N gc] w fun e w' => e = .returned (.bool (decide (xs.map (gat G) = ys.map (gat G)))) ∧ Below w.heap.size w w' := by
  have ht : (!t.toList == t.toList) = false := by simp
  have HX := Lib.hid hx
  have HY := Lib.hid hy
  have HG := Lib.hid hg
  have HXS := Lib.hid hxs
  have HYS := Lib.hid hys
  have HGN := Lib.hid hG
  have HXR := Lib.hid hxr
  have HYR := Lib.hid hyr
  clear hx hy hg hxs hys hG hxr hyr
  go_enter Tryd.func50, Tryd.ntmps50
  go_wp2
  go_loopw [7] (fun i wr => ∃ k : Nat, k ≤ n ∧ i = .int .i64 k ∧ Below w.heap.size w wr ∧ Blk wr w.heap.size #[.int .i64 s, .string t, .slice (some ⟨b, o, none⟩) n c] 58 ∧ Blk wr (w.heap.size + 1) #[.int .i64 s, .string t, .slice (some ⟨b', o', none⟩) n c'] 58 ∧ Hid ((xs.map (gat G)).take k = (ys.map (gat G)).take k)) (fun i wr => n - (intOf i).toNat)
  case atStart => exact ⟨0, by omega, rfl, below2 _ _ _, (Blk.two _ _ _ _ _).1, (Blk.two _ _ _ _ _).2, by simp [Hid]⟩
  case round =>
    obtain ⟨k, hk, rfl, hbel, hB, hB', ha⟩ := hrel
    have c2 := hB.cell0 (o := 2) rfl
    have d2 := hB'.cell0 (o := 2) rfl
    by_cases hlt : k < n
    · obtain ⟨x, hxk⟩ := getSome xs k (by rw [HXS.out]; exact hlt)
      obtain ⟨y, hyk⟩ := getSome ys k (by rw [HYS.out]; exact hlt)
      have cx := (hbel.cell (p := ⟨b, o + k, none⟩) hb).trans (HX.out k x hxk)
      have cy := (hbel.cell (p := ⟨b', o' + k, none⟩) hb').trans (HY.out k y hyk)
      have rx := HXR.out x (List.mem_of_getElem? hxk)
      have ry := HYR.out y (List.mem_of_getElem? hyk)
      rw [← HGN.out] at rx ry
      obtain ⟨gx, gx0, gx1, gx2⟩ := gat_some rx
      obtain ⟨gy, gy0, gy1, gy2⟩ := gat_some ry
      have cgx := (hbel.cell (p := ⟨gb, x.toNat, none⟩) hgb).trans (HG.out _ _ gx)
      have cgy := (hbel.cell (p := ⟨gb, y.toNat, none⟩) hgb).trans (HG.out _ _ gy)
      rw [HGN.out] at gx1 gy1
      have tx : (xs.map (gat G))[k]? = some (gat G x) := by rw [List.getElem?_map, hxk]; rfl
      have ty : (ys.map (gat G))[k]? = some (gat G y) := by rw [List.getElem?_map, hyk]; rfl
      have TX := Lib.hid tx
      have TY := Lib.hid ty
      generalize gat G x = ex at *
      generalize gat G y = ey at *
      generalize x.toNat = xn at *
      generalize y.toNat = yn at *
      subst gx2 gy2
      have hk0 : (0 : Int) ≤ k := by omega
      have hk1 : (k : Int) < n := by omega
      have hx1 : (xn : Int) < N := by omega
      have hy1 : (yn : Int) < N := by omega
      clear hxk hyk gx gy tx ty rx ry
      by_cases he : ex = ey
      · subst he
        go_wp2_with fail
        go_region
        go_wp2
        refine ⟨⟨k + 1, by omega, by go_num, hbel.drew, hB, hB', ?_⟩, by simp [intOf]; omega⟩
        show _ = _
        rw [take_snoc' _ k _ TX.out, take_snoc' _ k _ TY.out, ha.out]
      · go_wp2_with fail
        go_region
        go_wp2
        go_ret
        have hne : ¬ xs.map (gat G) = ys.map (gat G) := by
          intro e
          rw [e] at TX
          exact he (Option.some.inj (TX.out.symm.trans TY.out))
        refine ⟨?_, hbel.drew⟩
        rw [decide_eq_false hne]
        rfl
    · go_wp2
      go_ret
      have e := ha.out
      rw [List.take_of_length_le (by rw [List.length_map, HXS.out]; omega), List.take_of_length_le (by rw [List.length_map, HYS.out]; omega)] at e
      rw [e]
      exact ⟨by simp, hbel⟩

theorem look_iff (G : List Int) (d d' : Nd) : look G d = look G d' ↔ d.sort = d'.sort ∧ d.text = d'.text ∧ d.kids.map (gat G) = d'.kids.map (gat G) := by
  unfold look
  rw [Nd.mk.injEq]

theorem alike_any (w : World) (P : Nat → Prop) (d d' : Nd) (kv kv' : Value) (G : List Int) (gb N gc : Nat) (hv : Ints w P kv d.kids) (hv' : Ints w P kv' d'.kids) (hP : ∀ b, P b → b < w.heap.size)
    (hN : N * 8 ≤ 140737488351232) (hG : G.length = N) (hgb : gb < w.heap.size) (hxr : ∀ k ∈ d.kids, inR N k = true) (hyr : ∀ k ∈ d'.kids, inR N k = true) (hg : ∀ i x, G[i]? = some x → w.cell? ⟨gb, i, none⟩ = some (.int .i64 x)) :
    Calls Tryd.prog 50 #[.agg #[.int .i64 d.sort, .string d.text, kv], .agg #[.int .i64 d'.sort, .string d'.text, kv'], .slice (some ⟨gb, 0, none⟩) N gc] w fun e w' => e = .returned (.bool (decide (look G d = look G d'))) ∧ Below w.heap.size w w' := by
  obtain ⟨s, t, ks⟩ := d
  obtain ⟨s', t', ks'⟩ := d'
  simp only [look_iff] at *
  by_cases h : s = s' ∧ t = t' ∧ ks.length = ks'.length
  · obtain ⟨rfl, rfl, hl⟩ := h
    simp only [true_and]
    by_cases h0 : ks.length = 0
    · obtain rfl := List.length_eq_zero_iff.1 h0
      obtain rfl := List.length_eq_zero_iff.1 (hl.symm.trans h0)
      obtain ⟨a, c, rfl⟩ := hv.shape
      obtain ⟨a', c', rfl⟩ := hv'.shape
      simpa using alike_nil s t a a' c c' _ w
    · obtain ⟨h1, ⟨b, o, c, rfl, hb, hc⟩ | ⟨rfl, a, c, rfl⟩⟩ := hv
      · obtain ⟨h1', ⟨b', o', c', rfl, hb', hc'⟩ | ⟨rfl, a', c', rfl⟩⟩ := hv'
        · rw [← hl]
          exact alike_go s t b o c b' o' c' _ gb N gc ks ks' G w h1 hN rfl hl.symm hG (hP b hb) (hP b' hb') hgb hxr hyr hc hc' hg
        · exact absurd hl h0
      · exact absurd rfl h0
  · have hne : ¬ (s = s' ∧ t = t' ∧ ks.map (gat G) = ks'.map (gat G)) := by
      rintro ⟨rfl, rfl, h3⟩
      exact h ⟨rfl, rfl, by simpa using congrArg List.length h3⟩
    rw [decide_eq_false hne]
    obtain ⟨a, c, rfl⟩ := hv.shape
    obtain ⟨a', c', rfl⟩ := hv'.shape
    exact alike_no s s' t t' a a' _ c _ c' _ w h hv.1 hv'.1
end Go.Proofs.YtjpkmcaogekkdaaDoor.Rm
