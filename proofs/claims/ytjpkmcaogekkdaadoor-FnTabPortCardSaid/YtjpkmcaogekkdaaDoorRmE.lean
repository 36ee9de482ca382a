/- Marks of data in the law, walked. -/
import Derived.Test.YtjpkmcaogekkdaaDoorRmD
namespace Go.Proofs.YtjpkmcaogekkdaaDoor.Rm
open Go.RowKit
set_option linter.unusedVariables false
set_option linter.unusedSimpArgs false

theorem markInts_own (w : World) (g k : Nat) (v : Value) (xs : List Int) (h : OwnInts w g v xs) (hk : k + xs.length ≤ 100000000000000) :
    Calls Tryd.prog 41 #[v, .int .i64 k] w fun e w' => e = .returned (.int .i64 (k + xs.length : Nat)) ∧ Only g w w' ∧ OwnInts w' g v (marks k xs.length) := by
  obtain ⟨h0, cap, C, rfl, hb, hc⟩ := h
  have hC : xs.length ≤ C.size := by
    rcases Nat.lt_or_ge C.size xs.length with h | h
    · have := hc C.size xs[C.size] (List.getElem?_eq_getElem h)
      simp at this
    · exact h
  refine (markInts_any w g _ cap k C hb hC h0 hk).mono ?_
  rintro e w' ⟨rfl, ho, C', hB', hC'⟩
  refine ⟨rfl, ho, by rw [marks_len]; exact h0, cap, C', by rw [marks_len], hB', fun i x hx => ?_⟩
  obtain ⟨hi, rfl⟩ := marks_some hx
  exact hC'.out.2 i hi

/-- Nothing below that was there is written but what S has; from lo down nothing. -/
def Kept (lo : Nat) (S : List Nat) (w w' : World) : Prop := Below lo w w' ∧ ∀ b, b < w.heap.size → b ∉ S → w'.heap[b]? = w.heap[b]?
theorem Kept.refl (lo : Nat) (S : List Nat) (w : World) : Kept lo S w w := ⟨Below.refl _ _, fun b h h2 => rfl⟩
theorem Kept.set {lo : Nat} {S : List Nat} {w w' : World} (h : Kept lo S w w') {g : Nat} (hg : g ∈ S) (hl : lo ≤ g) (o : Nat) (v : Value) : Kept lo S w (w'.setCell ⟨g, o, none⟩ v) :=
  ⟨h.1.setCell hl _, fun b hb hS => (Below.heap_setCell _ _ _ _ (by rintro rfl; exact hS hg)).trans (h.2 b hb hS)⟩
theorem Kept.below {lo : Nat} {S : List Nat} {w w1 w2 : World} (h : Kept lo S w w1) (hb : Below w1.heap.size w1 w2) (hl : lo ≤ w1.heap.size) : Kept lo S w w2 :=
  ⟨below_then h.1 hb hl, fun b hb2 hS => (hb.block b (Nat.lt_of_lt_of_le hb2 h.1.size)).trans (h.2 b hb2 hS)⟩
theorem Kept.only {lo : Nat} {S : List Nat} {w w1 w2 : World} (h : Kept lo S w w1) {g : Nat} (hb : Only g w1 w2) (hg : g ∈ S) (hl : lo ≤ g) : Kept lo S w w2 :=
  ⟨h.1.trans (hb.1.mono hl), fun b hb2 hS => (hb.2.2 b (by rintro rfl; exact hS hg)).trans (h.2 b hb2 hS)⟩
theorem Kept.mono {lo : Nat} {S T : List Nat} {w w' : World} (h : Kept lo S w w') (hs : ∀ x ∈ S, x ∈ T) : Kept lo T w w' :=
  ⟨h.1, fun b hb hT => h.2 b hb fun hS => hT (hs b hS)⟩
theorem Kept.trans {lo : Nat} {S : List Nat} {w w1 w2 : World} (h : Kept lo S w w1) (k : Kept lo S w1 w2) : Kept lo S w w2 :=
  ⟨h.1.trans k.1, fun b hb hS => (k.2 b (Nat.lt_of_lt_of_le hb h.1.size) hS).trans (h.2 b hb hS)⟩

theorem set_marks (k : Nat) (ns ms : List Nd) (j : Nat) (d : Nd) (hd : ns[j]? = some d) (hl : ms.length = ns.length) (h1 : ∀ i, i < j → ms[i]? = (markNds k ns)[i]?) (h2 : ∀ i, j ≤ i → ms[i]? = ns[i]?) :
    (ms.set j (markNd (kAt k ns j) d)).length = ns.length ∧ (∀ i, i < j + 1 → (ms.set j (markNd (kAt k ns j) d))[i]? = (markNds k ns)[i]?) ∧ ∀ i, j + 1 ≤ i → (ms.set j (markNd (kAt k ns j) d))[i]? = ns[i]? := by
  have hj := (List.getElem?_eq_some_iff.1 hd).1
  refine ⟨by rw [List.length_set, hl], fun i hi => ?_, fun i hi => ?_⟩
  · by_cases h : i = j
    · subst h
      rw [List.getElem?_set_self (by omega), markNds_at k ns i d hd]
    · rw [List.getElem?_set_ne (by omega), h1 i (by omega)]
  · rw [List.getElem?_set_ne (by omega), h2 i (by omega)]

set_option maxRecDepth 100000 in
theorem markNodes_go (w : World) (G n cap k lo : Nat) (ns : List Nd) (gs : List Nat) (C : Array Value) (hB : Blk w G C 58) (hN : NodeCells w C gs ns) (hn : ns.length = n) (hsz : n * 48 ≤ 140737488351232)
    (hnd : (G :: gs).Nodup) (hlo : ∀ g ∈ G :: gs, lo ≤ g) (hk : k + tot ns ≤ 100000000000000) :
    Calls Tryd.prog 40 #[.slice (some ⟨G, 0, none⟩) n cap, .int .i64 k] w fun e w' => e = .returned (.int .i64 (k + tot ns : Nat)) ∧ Kept lo (G :: gs) w w' ∧ ∃ C', Blk w' G C' 58 ∧ NodeCells w' C' gs (markNds k ns) := by
  have HN := Lib.hid hn
  have HND := Lib.hid hnd
  have HLO := Lib.hid hlo
  have HK := Lib.hid hk
  clear hn hnd hlo hk
  go_enter Tryd.func40, Tryd.ntmps40
  go_wp2
  go_loopw [1, 5] (fun x i wr => ∃ j : Nat, j ≤ n ∧ x = .int .i64 (kAt k ns j : Nat) ∧ i = .int .i64 j ∧ Hid (Kept lo (G :: gs) w wr) ∧ ∃ C' ms, Blk wr G C' 58 ∧ Hid (NodeCells wr C' gs ms ∧ ms.length = ns.length ∧ (∀ i, i < j → ms[i]? = (markNds k ns)[i]?) ∧ ∀ i, j ≤ i → ms[i]? = ns[i]?)) (fun x i wr => n - (intOf i).toNat)
  case atStart => exact ⟨0, by omega, by rw [kAt_zero], rfl, Kept.refl _ _ _, C, ns, hB, hN, rfl, fun i hi => by omega, fun i hi => rfl⟩
  case round =>
    obtain ⟨j, hj, rfl, rfl, hO, D, ms, hD, hC⟩ := hrel
    by_cases hlt : j < n
    · obtain ⟨d, hd⟩ := getSome ns j (by rw [HN.out]; exact hlt)
      have hks : kAt k ns (j + 1) = kAt k ns j + 2 + d.kids.length := kAt_succ k ns j d hd
      have hkl : kAt k ns (j + 1) ≤ 100000000000000 := Nat.le_trans (kAt_le k ns (j + 1)) HK.out
      have HKS := Lib.hid hks
      have HD := Lib.hid hd
      obtain ⟨g, hg⟩ : ∃ g, gs[j]? = some g := ⟨gs[j]'(by rw [hC.out.1.1, hC.out.2.1, HN.out]; exact hlt), List.getElem?_eq_getElem _⟩
      have hgm : Hid (g ∈ gs) := List.mem_of_getElem? hg
      have hgG : g ≠ G := by
        rintro rfl
        exact (List.nodup_cons.1 HND.out).1 hgm.out
      obtain ⟨a0, a1, a2, kv, a3, a4⟩ := hC.out.1.2 j d g (by rw [hC.out.2.2.2 j (Nat.le_refl _)]; exact hd) hg
      have hjl : j * 3 + 2 < D.size := (Array.getElem?_eq_some_iff.1 a3).1
      have c0 := hD.cell0 a1
      have f0 := hD.free (j * 3)
      have hj0 : (0 : Int) ≤ j := by omega
      have hj1 : (j : Int) < n := by omega
      have HG := Lib.hid hg
      have HA4 := Lib.hid a4
      have HA3 := Lib.hid a3
      have HL := Lib.hid hjl
      generalize hL : d.kids.length = L at *
      generalize hkj : kAt k ns j = kj at *
      have HKJ := Lib.hid hkj
      have HLL := Lib.hid hL
      have hk1 : kj + 2 + L ≤ 100000000000000 := by omega
      have HM := Lib.hid (fun w => markText_any (kj + 1) w (by omega) (by omega))
      have D0 := hD.set (j * 3) (.int .i64 kj)
      have e1 : (D.setIfInBounds (j * 3) (.int .i64 kj))[j * 3 + 1]? = some (.string d.text) := by rw [Array.getElem?_setIfInBounds_ne (by omega)]; exact a2
      have e2 : (D.setIfInBounds (j * 3) (.int .i64 kj))[j * 3 + 2]? = some kv := by rw [Array.getElem?_setIfInBounds_ne (by omega)]; exact a3
      clear hg hjl a4 a3 hd a1 a2 hks hkl hkj hL
      go_wp2_with fail
      refine (HM.out _).mono ?_
      rintro e w1 ⟨rfl, hb1⟩
      have D1 := D0.below hb1
      have c1 := D1.cell0 e1
      have f1 := D1.free (j * 3 + 1)
      have D2 := D1.set (j * 3 + 1) (.string (mt (kj + 1)))
      have c2 := D2.cell0 (o := j * 3 + 2) (v := kv) (by rw [Array.getElem?_setIfInBounds_ne (by omega)]; exact e2)
      have hgl : g < wr.heap.size := HA4.out.lt
      have hO1 : OwnInts (w1.setCell ⟨G, j * 3 + 1, none⟩ (.string (mt (kj + 1)))) g kv d.kids :=
        ((HA4.out.set hgG _).below hb1).set hgG _
      have HI := Lib.hid (markInts_own _ g (kj + 2) kv d.kids hO1 (by rw [HLL.out]; omega))
      have HB1 := Lib.hid hb1
      clear hO1 hb1
      go_wp2_with fail
      refine HI.out.mono ?_
      rintro e w2 ⟨rfl, ho2, hm2⟩
      go_wp2
      have hjl := HL.out
      have hgn : g ∈ G :: gs := List.mem_cons_of_mem _ hgm.out
      have hlg : lo ≤ g := HLO.out g hgn
      have hlG : lo ≤ G := HLO.out G (List.mem_cons_self ..)
      have hws : wr.heap.size ≤ w1.heap.size := by have := HB1.out.size; simpa using this
      have hD2 : Blk w2 G ((D.setIfInBounds (j * 3) (.int .i64 kj)).setIfInBounds (j * 3 + 1) (.string (mt (kj + 1)))) 58 := (ho2.2.2 G (Ne.symm hgG)).trans D2
      have hS := set_marks k ns ms j d HD.out hC.out.2.1 hC.out.2.2.1 hC.out.2.2.2
      rw [HKJ.out] at hS
      refine ⟨⟨j + 1, by omega, ?_, by go_num, ?_, _, ms.set j (markNd kj d), hD2, ?_, hS⟩, by simp [intOf]; omega⟩
      · have := HKS.out
        rw [this, HLL.out]
        go_num
      · refine Kept.only ?_ ho2 hgn hlg
        refine Kept.set ?_ (List.mem_cons_self ..) hlG _ _
        refine Kept.below ?_ HB1.out ?_
        · exact hO.out.set (List.mem_cons_self ..) hlG _ _
        · rw [World.size_setCell]; omega
      · refine NodeCells.turn hC.out.1 (List.nodup_cons.1 HND.out).2 HG.out ?_ ?_ ?_ ?_ ?_ ?_
        · intro x hx hxg
          have hxG : x ≠ G := by
            rintro rfl
            exact (List.nodup_cons.1 HND.out).1 hx
          have hxl := hC.out.1.lt x hx
          rw [ho2.2.2 x hxg, Below.heap_setCell _ _ _ _ hxG, HB1.out.block x (by rw [World.size_setCell]; exact hxl), Below.heap_setCell _ _ _ _ hxG]
        · intro i h1 h2
          rw [Array.getElem?_setIfInBounds_ne (by omega), Array.getElem?_setIfInBounds_ne (by omega)]
        · have := mt_size (kj + 1)
          show (mt (kj + 1)).size ≤ _
          omega
        · rw [Array.getElem?_setIfInBounds_ne (by omega), Array.getElem?_setIfInBounds_self_of_lt (by omega)]
          rfl
        · rw [Array.getElem?_setIfInBounds_self_of_lt (by simp; omega)]
          rfl
        · exact ⟨kv, HA3.out, hm2⟩
    · obtain rfl : j = n := by omega
      go_wp2
      go_ret
      have hall : ms = markNds k ns := by
        apply List.ext_getElem?
        intro i
        by_cases h : i < j
        · exact hC.out.2.2.1 i h
        · rw [List.getElem?_eq_none (by rw [hC.out.2.1, HN.out]; omega), List.getElem?_eq_none (by rw [markNds_len, HN.out]; omega)]
      refine ⟨?_, hO.out, D, hD, ?_⟩
      · rw [kAt_all k ns j (by rw [HN.out]; omega)]
        rfl
      · rw [← hall]
        exact hC.out.1

theorem markNodes_nil (w : World) (a : Option Addr) (cap k : Nat) (hk : k ≤ 100000000000000) :
    Calls Tryd.prog 40 #[.slice a 0 cap, .int .i64 k] w fun e w' => e = .returned (.int .i64 k) ∧ w = w' := by
  go_enter Tryd.func40, Tryd.ntmps40
  go_wp2
  go_loopw [1, 5] (fun x i wr => x = .int .i64 k ∧ i = .int .i64 0 ∧ wr = w) (fun x i wr => 0)
  case atStart => exact ⟨rfl, rfl, rfl⟩
  case round =>
    obtain ⟨rfl, rfl, rfl⟩ := hrel
    go_wp2
    go_ret
    exact ⟨rfl, rfl⟩

theorem markNodes_own (w : World) (G k lo : Nat) (v : Value) (ns : List Nd) (gs : List Nat) (h : OwnNodes w v ns G gs) (hnd : (G :: gs).Nodup) (hlo : ∀ g ∈ G :: gs, lo ≤ g) (hk : k + tot ns ≤ 100000000000000) :
    Calls Tryd.prog 40 #[v, .int .i64 k] w fun e w' => e = .returned (.int .i64 (k + tot ns : Nat)) ∧ Kept lo (G :: gs) w w' ∧ OwnNodes w' v (markNds k ns) G gs := by
  obtain ⟨h0, hl, ⟨cap, C, rfl, hb, hc⟩ | ⟨rfl, a, c, rfl⟩⟩ := h
  · refine (markNodes_go w G _ cap k lo ns gs C hb hc rfl h0 hnd hlo hk).mono ?_
    rintro e w' ⟨rfl, h1, C', h2, h3⟩
    exact ⟨rfl, h1, by rw [markNds_len]; exact h0, by rw [markNds_len]; exact hl, .inl ⟨cap, C', by rw [markNds_len], h2, h3⟩⟩
  · refine (markNodes_nil w a c k (by omega)).mono ?_
    rintro e w' ⟨rfl, rfl⟩
    exact ⟨rfl, Kept.refl _ _ _, h0, hl, .inr ⟨rfl, a, c, rfl⟩⟩

theorem markIntsO (w : World) (g k : Nat) (v : Value) (xs : List Int) (h : OwnIntsO w g v xs) (hk : k + xs.length ≤ 100000000000000) :
    Calls Tryd.prog 41 #[v, .int .i64 k] w fun e w' => e = .returned (.int .i64 (k + xs.length : Nat)) ∧ Only g w w' ∧ OwnIntsO w' g v (marks k xs.length) := by
  rcases h with h | ⟨rfl, a, c, rfl⟩
  · refine (markInts_own w g k v xs h hk).mono ?_
    rintro e w' ⟨h1, h2, h3⟩
    exact ⟨h1, h2, .inl h3⟩
  · refine (markInts_nil w a c k (by omega)).mono ?_
    rintro e w' ⟨rfl, rfl⟩
    exact ⟨rfl, Only.refl _ _, .inr ⟨rfl, a, c, rfl⟩⟩

/-- Behind the marks: the data hold them; nothing below lo or from hi on is written. -/
def Marked (k : Nat) (ns : List Nd) (rs : List Int) (lo hi : Nat) (v : Value) (w : World) (e : Ending) (w' : World) : Prop :=
  e = .returned (.int .i64 (k + tot ns + rs.length : Nat)) ∧ Below lo w w' ∧ (∀ b, b < w.heap.size → (b < lo ∨ hi ≤ b) → w'.heap[b]? = w.heap[b]?) ∧
  OwnData w' lo hi v (markNds k ns) (marks (k + tot ns) rs.length)

theorem markData_any (w : World) (lo hi k : Nat) (v : Value) (ns : List Nd) (rs : List Int) (h : OwnData w lo hi v ns rs) (hhi : hi ≤ w.heap.size) (hk : k + tot ns + rs.length ≤ 100000000000000) :
    Calls Tryd.prog 16 #[v, .int .i64 k] w (Marked k ns rs lo hi v w) := by
  obtain ⟨nv, rv, G, r, gs, rfl, hN, hR, hnd, hin⟩ := h
  have hne : r ≠ G ∧ r ∉ gs ∧ (G :: gs).Nodup := by
    simp only [List.nodup_cons, List.mem_cons, not_or] at hnd ⊢
    exact ⟨fun h => hnd.1.1 h.symm, hnd.2.1, hnd.1.2, hnd.2.2⟩
  have hlo : ∀ g ∈ G :: gs, lo ≤ g := fun g hg => (hin g (by rcases List.mem_cons.1 hg with rfl | h <;> simp [*])).1
  have hhi2 : ∀ g ∈ G :: gs, g < w.heap.size := fun g hg => Nat.lt_of_lt_of_le (hin g (by rcases List.mem_cons.1 hg with rfl | h <;> simp [*])).2 hhi
  have hr := hin r (by simp)
  have HNM := Lib.hid (markNodes_own (w.alloc (.cells #[nv, rv] 38)) G k lo nv ns gs (hN.carry (Below.heap_alloc _ _ _ (hhi2 G (by simp))) fun g hg => Below.heap_alloc _ _ _ (hhi2 g (by simp [hg]))) hne.2.2 hlo (by omega))
  have HND := Lib.hid hnd
  have HIN := Lib.hid hin
  have HNE := Lib.hid hne
  have HK := Lib.hid hk
  have HRC := Lib.hid hR
  have HLO := Lib.hid hlo
  have HHI := Lib.hid hhi2
  have HR2 := Lib.hid hr
  clear hnd hin hne hk hN hR hlo hhi2 hr
  go_enter Tryd.func16, Tryd.ntmps16
  go_wp2_with fail
  refine HNM.out.mono ?_
  rintro e w1 ⟨rfl, hk1, hN1⟩
  have B0 : Blk w1 w.heap.size #[nv, rv] 38 := (hk1.2 w.heap.size (by simp) fun hm => Nat.lt_irrefl _ (HHI.out _ hm)).trans (Blk.new w _ _)
  have c1 := B0.cell0 (o := 1) rfl
  have hr1 : w1.heap[r]? = w.heap[r]? := (hk1.2 r (by have := HR2.out; simp; omega) fun hm => by
    rcases List.mem_cons.1 hm with h | h
    · exact HNE.out.1 h
    · exact HNE.out.2.1 h).trans (Below.heap_alloc _ _ _ (by have := HR2.out; omega))
  have HRM := Lib.hid (markIntsO w1 r (k + tot ns) rv rs (HRC.out.carry hr1) HK.out)
  have HK1 := Lib.hid hk1
  have HN1 := Lib.hid hN1
  clear hk1 hN1 hr1
  go_wp2_with fail
  refine HRM.out.mono ?_
  rintro e w2 ⟨rfl, ho2, hR2⟩
  go_wp2
  go_ret
  have hkeep : ∀ b, b < w.heap.size → b ∉ G :: r :: gs → w2.heap[b]? = w.heap[b]? := by
    intro b hb hS
    simp only [List.mem_cons, not_or] at hS
    rw [ho2.2.2 b hS.2.1, HK1.out.2 b (by simp; omega) (by simp [hS.1, hS.2.2])]
    exact Below.heap_alloc _ _ _ hb
  have hall : lo ≤ w.heap.size := by have := HR2.out; omega
  refine ⟨rfl, ?_, ?_, nv, rv, G, r, gs, rfl, ?_, hR2, HND.out, HIN.out⟩
  · exact ((below1 w _).mono hall).trans (HK1.out.1.trans (ho2.1.mono HR2.out.1))
  · intro b hb hx
    refine hkeep b hb fun hS => ?_
    have := HIN.out b hS
    omega
  · exact HN1.out.carry (ho2.2.2 G (fun h => HNE.out.1 h.symm)) fun g hg => ho2.2.2 g (fun h => HNE.out.2.1 (h ▸ hg))
end Go.Proofs.YtjpkmcaogekkdaaDoor.Rm
