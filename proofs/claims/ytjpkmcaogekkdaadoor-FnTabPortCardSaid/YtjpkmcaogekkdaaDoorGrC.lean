/- Data checked in the reference, walked: what holds where it is found good. -/
import Derived.Test.YtjpkmcaogekkdaaDoorGrB
import Derived.Test.YtjpkmcaogekkdaaDoorRmG
namespace Go.Proofs.YtjpkmcaogekkdaaDoor.Gr
open Go.RowKit Go.Proofs.YtjpkmcaogekkdaaDoor.Rm Go.Proofs.YtjpkmcaogekkdaaDoor.Nu
set_option linter.unusedVariables false
set_option linter.unusedSimpArgs false

theorem l1In_q (a b c : Int) (w : World) : Calls Tryd.prog 29 #[.int .i64 a, .int .i64 b, .int .i64 c] w fun e w' => e = .returned (.bool (decide (b ≤ a) && decide (a ≤ c))) ∧ w' = w :=
  (Port.l1In_any a b c w).mono fun _ _ ⟨h1, h2⟩ => ⟨h1, h2.symm⟩
/-- a node's text that may be looked at -/
def TxOk (d : Nd) : Prop := d.text.size ≤ 1000000 ∧ (d.sort = 4 → 0 < szAll d.text)
def GoodD (ns : List Nd) (rs : List Int) : Prop := ns.length ≤ 80 ∧ rs.length ≤ 12 ∧ (∀ d ∈ ns, kidsOk ns.length d = true) ∧ ∀ r ∈ rs, inR ns.length r = true
def OkD (ns : List Nd) (rs : List Int) (w : World) (e : Ending) (w' : World) : Prop := ∃ b : Bool, e = .returned (.bool b) ∧ (b = true → GoodD ns rs) ∧ Below w.heap.size w w'

set_option maxHeartbeats 4000000 in
set_option maxRecDepth 100000 in
theorem ReadOk_go (w : World) (P : Nat → Prop) (b o c n : Nat) (ra : Option Addr) (rc m : Nat) (ns : List Nd) (rs : List Int) (hb : b < w.heap.size) (hP : ∀ b, P b → b < w.heap.size) (hn : ns.length = n) (hm : rs.length = m) (hsz : n * 48 ≤ 140737488351232) (hms : m * 8 ≤ 140737488351232)
    (hx : ∀ i d, ns[i]? = some d → w.cell? ⟨b, o + i * 3, none⟩ = some (.int .i64 d.sort) ∧ w.cell? ⟨b, o + i * 3 + 1, none⟩ = some (.string d.text) ∧ d.text.size ≤ 140737488351232 ∧ ∃ kv, w.cell? ⟨b, o + i * 3 + 2, none⟩ = some kv ∧ Ints w P kv d.kids)
    (htx : ∀ d ∈ ns, TxOk d)
    (hr : ∀ i x, rs[i]? = some x → ∃ rb ro, ra = some ⟨rb, ro, none⟩ ∧ rb < w.heap.size ∧ w.cell? ⟨rb, ro + i, none⟩ = some (.int .i64 x)) :
    Calls Tryd.prog 80 #[.agg #[.slice (some ⟨b, o, none⟩) n c, .slice ra m rc]] w (OkD ns rs w) := by
  have B0 : Blk (w.alloc (.cells #[.slice (some ⟨b, o, none⟩) n c, .slice ra m rc] 38)) w.heap.size #[.slice (some ⟨b, o, none⟩) n c, .slice ra m rc] 38 := Blk.new _ _ _
  have hB0 := below1 w (.cells #[.slice (some ⟨b, o, none⟩) n c, .slice ra m rc] 38)
  have HX := Lib.hid hx
  have HT := Lib.hid htx
  have HR := Lib.hid hr
  have HN := Lib.hid hn
  have HM := Lib.hid hm
  have HP := Lib.hid hP
  clear hx htx hr hn hm hP
  by_cases hbig : 80 < n ∨ 12 < m
  · by_cases h80 : 80 < n
    all_goals
      go_enter Tryd.func80, Tryd.ntmps80
      go_wp2
      go_ret
      exact ⟨false, rfl, by simp, hB0⟩
  have hn80 : n ≤ 80 := by omega
  have hm12 : m ≤ 12 := by omega
  clear hbig
  go_enter Tryd.func80, Tryd.ntmps80
  go_wp2
  go_loopw [3] (fun i wr => ∃ k : Nat, k ≤ n ∧ i = .int .i64 k ∧ Below (w.heap.size + 1) (w.alloc (.cells #[.slice (some ⟨b, o, none⟩) n c, .slice ra m rc] 38)) wr ∧ Hid (∀ j d, j < k → ns[j]? = some d → kidsOk n d = true)) (fun i wr => n - (intOf i).toNat)
  case atStart => exact ⟨0, by omega, rfl, Below.refl _ _, fun j d hj => by omega⟩
  case round =>
    obtain ⟨k, hk, rfl, hbel, hall⟩ := hrel
    have hk0 : (0 : Int) ≤ k := by omega
    have B1 : Blk wr w.heap.size _ _ := B0.carry hbel (by omega)
    have hB1 : Below w.heap.size w wr := hB0.trans (hbel.mono (by omega))
    have b0 := B1.cell0 (o := 0) rfl
    have b1 := B1.cell0 (o := 1) rfl
    by_cases hlt : k < n
    · obtain ⟨d, hd⟩ := getSome ns k (by rw [HN.out]; exact hlt)
      obtain ⟨a0, a1, a2, kv, a3, a4⟩ := HX.out k d hd
      obtain ⟨ka, kc, rfl⟩ := a4.shape
      have c0 := (hB1.cell (p := ⟨b, o + k * 3, none⟩) hb).trans a0
      have c1 := (hB1.cell (p := ⟨b, o + k * 3 + 1, none⟩) hb).trans a1
      have c2 := (hB1.cell (p := ⟨b, o + k * 3 + 2, none⟩) hb).trans a3
      have hT := HT.out d (List.mem_of_getElem? hd)
      have HTX := Lib.hid (fun w => l12TextOk_any d.sort d.text (.slice ka d.kids.length kc) w hT.1 hT.2)
      have HKO := Lib.hid (fun w' (hw : Below w.heap.size w w') => kidsOk_any w' P d.sort d.text (.slice ka d.kids.length kc) d.kids n (a4.same fun g hg => hw.block g (HP.out g hg)) (fun g hg => Nat.lt_of_lt_of_le (HP.out g hg) hw.size) (by omega))
      have HD := Lib.hid hd
      have BN := Blk.new wr #[.int .i64 d.sort, .string d.text, .slice ka d.kids.length kc] 58
      have BZ := B1.alloc (.cells #[.int .i64 d.sort, .string d.text, .slice ka d.kids.length kc] 58)
      have hBZ : Below (w.heap.size + 1) (w.alloc (.cells #[.slice (some ⟨b, o, none⟩) n c, .slice ra m rc] 38)) (wr.alloc (.cells #[.int .i64 d.sort, .string d.text, .slice ka d.kids.length kc] 58)) := hbel.alloc (by have := hbel.size; simp at this; omega) _
      have hwz : w.heap.size + 1 ≤ (wr.alloc (.cells #[.int .i64 d.sort, .string d.text, .slice ka d.kids.length kc] 58)).heap.size := by have := hBZ.size; simp at this ⊢; omega
      clear a0 a1 a2 a3 a4 hT hd
      go_wp2_with (first | (go_at_call 29; refine (Port.l1In_any _ _ _ _).mono ?_; rintro e w' ⟨rfl, rfl⟩) | (go_at_call 93; refine (HTX.out _).mono ?_; rintro e w2 ⟨t1, rfl, hb2⟩; have BN2 := BN.below hb2; have BZ2 := BZ.below hb2; have hBZ2 := below_then hBZ hb2 hwz; have hwz2 := Nat.le_trans hwz hb2.size; have n0 := BN2.cell0 (o := 0) rfl; have n1 := BN2.cell0 (o := 1) rfl; have n2 := BN2.cell0 (o := 2) rfl; have z0 := BZ2.cell0 (o := 0) rfl) | (go_at_call 27; refine (HKO.out _ (hB0.trans (hBZ2.mono (Nat.le_succ _)))).mono ?_; rintro e w3 ⟨rfl, hb3⟩; have hBZ3 := below_then hBZ2 hb3 hwz2))
      all_goals first | (go_ret; first | exact ⟨false, rfl, by simp, hB0.trans (hBZ3.mono (Nat.le_succ _))⟩ | exact ⟨false, rfl, by simp, hB0.trans (hBZ2.mono (Nat.le_succ _))⟩ | exact ⟨false, rfl, by simp, hB0.trans (hBZ.mono (Nat.le_succ _))⟩) | skip
      refine ⟨⟨k + 1, by omega, by go_num, hBZ3, fun j d' hj hd' => ?_⟩, by simp [intOf]; omega⟩
      by_cases hjk : j = k
      · subst hjk
        obtain rfl := Option.some.inj (HD.out.symm.trans hd')
        have h := (by assumption : (!kidsOk n { sort := d.sort, text := d.text, kids := d.kids }) = false)
        simpa using h
      · exact hall.out j d' (by omega) hd'
    · have hALL : Hid (∀ d ∈ ns, kidsOk ns.length d = true) := fun d hd => by
        obtain ⟨j, hj, rfl⟩ := List.getElem_of_mem hd
        rw [HN.out]
        exact hall.out j _ (by have := HN.out; omega) (List.getElem?_eq_getElem hj)
      clear hall
      go_wp2
      generalize wr = wo at *
      go_loopw [5] (fun i wr => ∃ k : Nat, k ≤ m ∧ i = .int .i64 k ∧ Below (w.heap.size + 1) (w.alloc (.cells #[.slice (some ⟨b, o, none⟩) n c, .slice ra m rc] 38)) wr ∧ Hid (∀ j x, j < k → rs[j]? = some x → inR n x = true)) (fun i wr => m - (intOf i).toNat)
      case atStart => exact ⟨0, by omega, rfl, hbel, fun j d hj => by omega⟩
      case round =>
        clear hbel B1 hB1 b0 b1
        obtain ⟨j, hj, rfl, hbel, hroot⟩ := hrel
        have hj0 : (0 : Int) ≤ j := by omega
        have B1 : Blk wr w.heap.size _ _ := B0.carry hbel (by omega)
        have hB1 : Below w.heap.size w wr := hB0.trans (hbel.mono (by omega))
        have b0 := B1.cell0 (o := 0) (v := .slice (some ⟨b, o, none⟩) n c) rfl
        by_cases hltj : j < m
        · obtain ⟨x, hxj⟩ := getSome rs j (by rw [HM.out]; exact hltj)
          obtain ⟨rb, ro, rfl, hrb, hxc⟩ := HR.out j x hxj
          have cx := (hB1.cell (p := ⟨rb, ro + j, none⟩) hrb).trans hxc
          have b1 := B1.cell0 (o := 1) (v := .slice (some ⟨rb, ro, none⟩) m rc) rfl
          have HXJ := Lib.hid hxj
          clear hxj hxc
          go_wp2_with fail
          go_quiet (first | (go_at_call 29; refine Calls.quiet_of_same (l1In_q _ _ _ _)))
          go_wp2
          · go_ret
            exact ⟨false, rfl, by simp, below_drewN hB1 _⟩
          · refine ⟨⟨j + 1, by omega, by go_num, below_drewN hbel _, fun i y hi hy => ?_⟩, by simp [intOf]; omega⟩
            by_cases hij : i = j
            · subst hij
              obtain rfl := Option.some.inj (HXJ.out.symm.trans hy)
              have h := (by assumption : (!decide (0 ≤ x)) = false ∧ (!decide (x ≤ (n : Int) - 1)) = false)
              simp at h
              simp [inR]
              omega
            · exact hroot.out i y (by omega) hy
        · have b1 := B1.cell0 (o := 1) (v := .slice ra m rc) rfl
          go_wp2
          go_ret
          refine ⟨true, rfl, fun _ => ⟨by rw [HN.out]; exact hn80, by rw [HM.out]; exact hm12, hALL.out, fun r hr => ?_⟩, hB1⟩
          obtain ⟨i, hi, rfl⟩ := List.getElem_of_mem hr
          rw [HN.out]
          exact hroot.out i _ (by have := HM.out; omega) (List.getElem?_eq_getElem hi)

/-- The reference's look at data that have nodes. -/
theorem ReadOk_any (w : World) (P : Nat → Prop) (nv rv : Value) (ns : List Nd) (rs : List Int) (hne : ns ≠ []) (hnv : Nodes w P nv ns) (hrv : Ints w P rv rs) (hP : ∀ b, P b → b < w.heap.size) (htx : ∀ d ∈ ns, TxOk d) :
    Calls Tryd.prog 80 #[.agg #[nv, rv]] w (OkD ns rs w) := by
  obtain ⟨h1, h2⟩ := hnv
  obtain ⟨k1, k2⟩ := hrv
  rcases h2 with ⟨b, o, c, rfl, hPb, hc⟩ | ⟨rfl, _⟩
  · rcases k2 with ⟨b', o', c', rfl, hPb', hc'⟩ | ⟨rfl, a, c', rfl⟩
    · exact ReadOk_go w P b o c _ _ c' _ ns rs (hP b hPb) hP rfl rfl h1 k1 hc htx (fun i x hi => ⟨b', o', rfl, hP b' hPb', hc' i x hi⟩)
    · exact ReadOk_go w P b o c _ a c' 0 ns [] (hP b hPb) hP rfl rfl h1 (by omega) hc htx (fun i x hi => by simp at hi)
  · exact absurd rfl hne
end Go.Proofs.YtjpkmcaogekkdaaDoor.Gr
