/- Groups of nodes in the reference, walked. -/
import Derived.Test.YtjpkmcaogekkdaaDoorRmH
namespace Go.Proofs.YtjpkmcaogekkdaaDoor.Rm
open Go.RowKit
set_option linter.unusedVariables false
set_option linter.unusedSimpArgs false

/-- whether nodes i and k are the same by the groups so far -/
def testK (G : List Int) (ns : List Nd) (i k : Nat) : Bool := decide (gat G i = gat G k) && decide (ns[i]?.map (look G) = ns[k]?.map (look G))
/-- the least of 0 .. m - 1 with p, else the one at hand -/
def low (p : Nat → Bool) : Nat → Nat → Nat
  | 0, cur => cur
  | m + 1, cur => low p m (if p m then m else cur)
def stepG (ns : List Nd) (G : List Int) : List Int := (List.range ns.length).map fun i => ((low (testK G ns i) i i : Nat) : Int)
def iterG (ns : List Nd) : Nat → List Int
  | 0 => List.replicate ns.length 0
  | r + 1 => stepG ns (iterG ns r)
theorem stepG_len (ns : List Nd) (G : List Int) : (stepG ns G).length = ns.length := by simp [stepG]
theorem stepG_at (ns : List Nd) (G : List Int) (i : Nat) (h : i < ns.length) : (stepG ns G)[i]? = some ((low (testK G ns i) i i : Nat) : Int) := by simp [stepG, h]
theorem iterG_len (ns : List Nd) (r : Nat) : (iterG ns r).length = ns.length := by
  cases r
  · simp [iterG]
  · exact stepG_len _ _
theorem iterG_fix {ns : List Nd} {r : Nat} (h : iterG ns (r + 1) = iterG ns r) : ∀ m, r ≤ m → iterG ns m = iterG ns r := by
  intro m hm
  obtain ⟨d, rfl⟩ := Nat.exists_eq_add_of_le hm
  induction d with
  | zero => rfl
  | succ d ih =>
    have := ih (by omega)
    show stepG ns (iterG ns (r + d)) = _
    rw [this]
    exact h

/-- Block g holds these numbers, and no more. -/
def Row (w : World) (g : Nat) (xs : List Int) : Prop := ∃ C, Blk w g C 3 ∧ C.size = xs.length ∧ ∀ (i : Nat) (x : Int), xs[i]? = some x → C[i]? = some (.int .i64 x)
theorem Row.cell {w : World} {g : Nat} {xs : List Int} (h : Row w g xs) {i : Nat} {x : Int} (hi : xs[i]? = some x) : w.cell? ⟨g, i, none⟩ = some (.int .i64 x) := by
  obtain ⟨C, hB, _, hc⟩ := h
  exact hB.cell0 (hc i x hi)
theorem Row.lt {w : World} {g : Nat} {xs : List Int} (h : Row w g xs) : g < w.heap.size := by
  obtain ⟨C, hB, _, hc⟩ := h
  exact hB.lt
theorem Row.free {w : World} {g : Nat} {xs : List Int} (h : Row w g xs) (i : Nat) : w.frozen? ⟨g, i, none⟩ = false := by
  obtain ⟨C, hB, _, hc⟩ := h
  exact hB.free i
theorem Row.carry {w w' : World} {g : Nat} {xs : List Int} (h : Row w g xs) (hw : w'.heap[g]? = w.heap[g]?) : Row w' g xs := by
  obtain ⟨C, hB, h1, hc⟩ := h
  exact ⟨C, hw.trans hB, h1, hc⟩
theorem Row.below {w w' : World} {g : Nat} {xs : List Int} (h : Row w g xs) (hb : Below w.heap.size w w') : Row w' g xs := h.carry (hb.block g h.lt)
theorem Row.far {w : World} {g : Nat} {xs : List Int} (h : Row w g xs) {b : Nat} (hne : g ≠ b) (o : Nat) (v : Value) : Row (w.setCell ⟨b, o, none⟩ v) g xs := h.carry (Below.heap_setCell _ _ _ _ hne)
theorem Row.set {w : World} {g : Nat} {xs : List Int} (h : Row w g xs) (o : Nat) (x : Int) : Row (w.setCell ⟨g, o, none⟩ (.int .i64 x)) g (xs.set o x) := by
  obtain ⟨C, hB, h1, hc⟩ := h
  refine ⟨_, hB.set o _, by simp [h1], fun i y hy => ?_⟩
  by_cases hio : i = o
  · subst hio
    have hl : i < xs.length := by
      have := (List.getElem?_eq_some_iff.1 hy).1
      simpa using this
    rw [List.getElem?_set_self hl] at hy
    rw [Array.getElem?_setIfInBounds_self_of_lt (by omega), ← Option.some.inj hy]
  · rw [List.getElem?_set_ne (by omega)] at hy
    rw [Array.getElem?_setIfInBounds_ne (by omega)]
    exact hc i y hy
theorem Row.own {w : World} {g : Nat} {xs : List Int} (h : Row w g xs) (h0 : xs.length * 8 ≤ 140737488351232) : OwnInts w g (.slice (some ⟨g, 0, none⟩) xs.length xs.length) xs := by
  obtain ⟨C, hB, h1, hc⟩ := h
  exact ⟨h0, _, C, rfl, hB, hc⟩
theorem Row.zeros (w : World) (n : Nat) : Row (w.alloc (.cells (zrow n) 3)) w.heap.size (List.replicate n 0) := by
  refine ⟨_, Blk.new _ _ _, by simp [zrow_size], fun i x hi => ?_⟩
  obtain ⟨h1, h2⟩ := List.getElem?_eq_some_iff.1 hi
  simp at h1 h2
  rw [zrow_at n i h1, h2]

def GroupsPost (ns : List Nd) (w : World) (e : Ending) (w' : World) : Prop :=
  ∃ gb, e = .returned (.slice (some ⟨gb, 0, none⟩) ns.length ns.length) ∧ Below w.heap.size w w' ∧ w.heap.size ≤ gb ∧ Row w' gb (iterG ns (ns.length + 1))

set_option maxHeartbeats 1000000 in
set_option maxRecDepth 100000 in
theorem groups_go (w : World) (P : Nat → Prop) (b o c n : Nat) (ns : List Nd) (hn : ns.length = n) (hsz : n * 48 ≤ 140737488351232) (hb : b < w.heap.size) (hP : ∀ b, P b → b < w.heap.size)
    (hx : ∀ i d, ns[i]? = some d → w.cell? ⟨b, o + i * 3, none⟩ = some (.int .i64 d.sort) ∧ w.cell? ⟨b, o + i * 3 + 1, none⟩ = some (.string d.text) ∧ d.text.size ≤ 140737488351232 ∧ ∃ kv, w.cell? ⟨b, o + i * 3 + 2, none⟩ = some kv ∧ Ints w P kv d.kids)
    (hk : ∀ d ∈ ns, ∀ k ∈ d.kids, inR n k = true) :
    Calls Tryd.prog 28 #[.slice (some ⟨b, o, none⟩) n c] w (GroupsPost ns w) := by
  have HX := Lib.hid hx
  have HN := Lib.hid hn
  have HP := Lib.hid hP
  have HK := Lib.hid hk
  have HMK := make_ints n (by omega)
  clear hx hn hP hk
  go_enter Tryd.func28, Tryd.ntmps28
  go_wp2
  go_loopw [3, 4] (fun g i wr => ∃ r gb : Nat, r ≤ n + 1 ∧ i = .int .i64 r ∧ g = .slice (some ⟨gb, 0, none⟩) n n ∧ Below w.heap.size w wr ∧ w.heap.size ≤ gb ∧ Row wr gb (iterG ns r)) (fun g i wr => n + 1 - (intOf i).toNat)
  case atStart => exact ⟨0, _, by omega, rfl, rfl, below1 _ _, Nat.le_refl _, by rw [iterG, HN.out]; exact Row.zeros _ _⟩
  case round =>
    obtain ⟨r, gb, hr, rfl, rfl, hbel, hgb, hG⟩ := hrel
    have hr0 : (0 : Int) ≤ r := by omega
    by_cases hlt : r ≤ n
    · have hgl := hG.lt
      have hGl := iterG_len ns r
      generalize hGG : iterG ns r = G at *
      have HGG := Lib.hid hGG
      have HGL := Lib.hid hGl
      clear hGG hGl
      generalize wr = wo at *
      go_wp2
      go_loopw [6] (fun i w2 => ∃ k : Nat, k ≤ n ∧ i = .int .i64 k ∧ Below wo.heap.size wo w2 ∧ ∃ X : List Int, Row w2 wo.heap.size X ∧ Hid (X.length = n ∧ ∀ j, j < k → X[j]? = (stepG ns G)[j]?)) (fun i w2 => n - (intOf i).toNat)
      case atStart => exact ⟨0, by omega, rfl, below1 _ _, _, Row.zeros _ _, by simp, fun j hj => by omega⟩
      case round =>
        obtain ⟨k, hk, rfl, hbel2, X, hX, hXX⟩ := hrel
        have hk0 : (0 : Int) ≤ k := by omega
        generalize wr = wi at *
        by_cases hlt2 : k < n
        · have hXl := hXX.out.1
          obtain ⟨old, ho⟩ : ∃ x, X[k]? = some x := getSome X k (by omega)
          have c0 := hX.cell ho
          have f0 := hX.free k
          have hX1 := hX.set k k
          have hXl1 : (X.set k (k : Int)).length = n := by simp [hXl]
          have hXX1 : Hid (∀ j, j < k → (X.set k (k : Int))[j]? = (stepG ns G)[j]?) := fun j hj => by rw [List.getElem?_set_ne (by omega)]; exact hXX.out.2 j hj
          have hXk : Hid ((X.set k (k : Int))[k]? = some (k : Int)) := List.getElem?_set_self (by omega)
          have hk1 : (k : Int) < n := by omega
          obtain ⟨d, hd⟩ := getSome ns k (by rw [HN.out]; exact hlt2)
          obtain ⟨a0, a1, a2, kv, a3, a4⟩ := HX.out k d hd
          obtain ⟨gi, hgi⟩ := getSome G k (by rw [HGL.out, HN.out]; exact hlt2)
          clear hXX hXl ho
          go_wp2
          go_loopw [7] (fun i w3 => ∃ (m cur : Nat) (z : Int), m ≤ k ∧ i = .int .i64 z ∧ Hid (z = m - 1) ∧ Below wo.heap.size wo w3 ∧ Row w3 wo.heap.size ((X.set k (k : Int)).set k (cur : Int)) ∧ Hid (low (testK G ns k) m cur = low (testK G ns k) k k)) (fun i w3 => (intOf i + 1).toNat)
          case atStart => exact ⟨k, k, _, Nat.le_refl _, rfl, rfl, hbel2.setCell (by simp) _, by simpa using hX1, rfl⟩
          case round =>
            obtain ⟨m, cur, z, hm, rfl, hz, hbel3, hR, hlow⟩ := hrel
            by_cases hm0 : 0 < m
            · obtain ⟨j, rfl⟩ : ∃ j, m = j + 1 := ⟨m - 1, by omega⟩
              obtain rfl : z = (j : Int) := by have := hz.out; omega
              have hj0 : (0 : Int) ≤ j := by omega
              have hj1 : (j : Int) < n := by omega
              obtain ⟨d', hd'⟩ := getSome ns j (by rw [HN.out]; omega)
              obtain ⟨a0', a1', a2', kv', a3', a4'⟩ := HX.out j d' hd'
              obtain ⟨gj, hgj⟩ := getSome G j (by rw [HGL.out, HN.out]; omega)
              have hbw : Below w.heap.size w wr := hbel.trans (hbel3.mono hbel.size)
              have e0 := (hbw.cell (p := ⟨b, o + k * 3, none⟩) hb).trans a0
              have e1 := (hbw.cell (p := ⟨b, o + k * 3 + 1, none⟩) hb).trans a1
              have e2 := (hbw.cell (p := ⟨b, o + k * 3 + 2, none⟩) hb).trans a3
              have e0' := (hbw.cell (p := ⟨b, o + j * 3, none⟩) hb).trans a0'
              have e1' := (hbw.cell (p := ⟨b, o + j * 3 + 1, none⟩) hb).trans a1'
              have e2' := (hbw.cell (p := ⟨b, o + j * 3 + 2, none⟩) hb).trans a3'
              have hGr := hG.carry (hbel3.block gb hgl)
              have ek := hGr.cell hgi
              have ej := hGr.cell hgj
              have hbr : b < wr.heap.size := Nat.lt_of_lt_of_le hb hbw.size
              have hgr : gb < wr.heap.size := Nat.lt_of_lt_of_le hgl hbel3.size
              have hgl3 : wo.heap.size < wr.heap.size := hR.lt
              have f3 := hR.free k
              obtain ⟨old3, ho3⟩ : ∃ x, ((X.set k (k : Int)).set k (cur : Int))[k]? = some x := getSome _ k (by rw [List.length_set, hXl1]; exact hlt2)
              have c3 := hR.cell ho3
              have HHD := Lib.hid hd
              have HHD' := Lib.hid hd'
              have HA4 := Lib.hid a4
              have HA4' := Lib.hid a4'
              have HGI := Lib.hid hgi
              have HGJ := Lib.hid hgj
              have hGr2 := Lib.hid hGr
              have HAL := Lib.hid (fun wx (hx : Below wr.heap.size wr wx) => alike_any wx P d d' kv kv' G gb n n (HA4.out.same fun g hg => (hx.block g (Nat.lt_of_lt_of_le (HP.out g hg) hbw.size)).trans (hbw.block g (HP.out g hg)))
                (HA4'.out.same fun g hg => (hx.block g (Nat.lt_of_lt_of_le (HP.out g hg) hbw.size)).trans (hbw.block g (HP.out g hg))) (fun g hg => Nat.lt_of_lt_of_le (HP.out g hg) (Nat.le_trans hbw.size hx.size)) (by omega) (HGL.out.trans HN.out)
                (Nat.lt_of_lt_of_le hgr hx.size) (HK.out d (List.mem_of_getElem? HHD.out)) (HK.out d' (List.mem_of_getElem? HHD'.out)) (fun i x hi => (hGr2.out.carry (hx.block gb hgr)).cell hi))
              have hT : testK G ns k j = (decide (gi = gj) && decide (look G d = look G d')) := by
                have h1 : gat G k = gi := by simp [gat, List.getD, HGI.out]
                have h2 : gat G j = gj := by simp [gat, List.getD, HGJ.out]
                unfold testK
                rw [h1, h2, HHD.out, HHD'.out]
                simp
              have HT := Lib.hid hT
              clear hT a0 a1 a2 a3 a4 a0' a1' a2' a3' a4' hgi hgj hd hd' ho3 hGr
              generalize hld : decide (look G d = look G d') = ld at *
              by_cases he : gi = gj
              · subst he
                cases ld
                · go_wp2_with fail
                  go_region_held3 (fun w' => w'.cell? ⟨b, o + k * 3, none⟩ = some (.int .i64 d.sort) ∧ w'.cell? ⟨b, o + k * 3 + 1, none⟩ = some (.string d.text) ∧ w'.cell? ⟨b, o + k * 3 + 2, none⟩ = some kv ∧
                      w'.cell? ⟨b, o + j * 3, none⟩ = some (.int .i64 d'.sort) ∧ w'.cell? ⟨b, o + j * 3 + 1, none⟩ = some (.string d'.text) ∧ w'.cell? ⟨b, o + j * 3 + 2, none⟩ = some kv' ∧
                      w'.cell? ⟨gb, k, none⟩ = some (.int .i64 gi) ∧ w'.cell? ⟨gb, j, none⟩ = some (.int .i64 gi))
                    (first | go_keep | (refine ⟨?_, ?_, ?_, ?_, ?_, ?_, ?_, ?_⟩ <;> first | exact (hb1.cell hbr).trans (by assumption) | exact (hb1.cell hgr).trans (by assumption)))
                    ((go_at_call 50; refine (HAL.out _ (Below.refl _ wr).drew).mono ?_; rintro e w1 ⟨rfl, hb1⟩))
                  go_wp2
                  have hb1' : Below wr.heap.size wr w1 := below_then (Below.refl _ wr).drew hb1 (Nat.le_refl _)
                  refine ⟨⟨j, cur, _, by omega, rfl, rfl, hbel3.trans (hb1'.mono hbel3.size), hR.below hb1', ?_⟩, by simp [intOf]⟩
                  have h1 := hlow.out
                  rw [low, HT.out] at h1
                  exact Lib.hid (by simpa using h1)
                · go_wp2_with fail
                  go_region_held3 (fun w' => w'.cell? ⟨b, o + k * 3, none⟩ = some (.int .i64 d.sort) ∧ w'.cell? ⟨b, o + k * 3 + 1, none⟩ = some (.string d.text) ∧ w'.cell? ⟨b, o + k * 3 + 2, none⟩ = some kv ∧
                      w'.cell? ⟨b, o + j * 3, none⟩ = some (.int .i64 d'.sort) ∧ w'.cell? ⟨b, o + j * 3 + 1, none⟩ = some (.string d'.text) ∧ w'.cell? ⟨b, o + j * 3 + 2, none⟩ = some kv' ∧
                      w'.cell? ⟨gb, k, none⟩ = some (.int .i64 gi) ∧ w'.cell? ⟨gb, j, none⟩ = some (.int .i64 gi))
                    (first | go_keep | (refine ⟨?_, ?_, ?_, ?_, ?_, ?_, ?_, ?_⟩ <;> first | exact (hb1.cell hbr).trans (by assumption) | exact (hb1.cell hgr).trans (by assumption)))
                    ((go_at_call 50; refine (HAL.out _ (Below.refl _ wr).drew).mono ?_; rintro e w1 ⟨rfl, hb1⟩))
                  have hb1' : Below wr.heap.size wr w1 := below_then (Below.refl _ wr).drew hb1 (Nat.le_refl _)
                  have hR1 := hR.below hb1'
                  have c4 := (hb1'.cell (p := ⟨wo.heap.size, k, none⟩) hgl3).trans c3
                  have f4 := hR1.free k
                  go_wp2
                  refine ⟨⟨j, j, _, by omega, rfl, rfl, (hbel3.trans (hb1'.mono hbel3.size)).setCell (by simp) _, ?_, ?_⟩, by simp [intOf]⟩
                  · have := hR1.set k (j : Int)
                    rwa [List.set_set] at this
                  · have h1 := hlow.out
                    rw [low, HT.out] at h1
                    exact Lib.hid (by simpa using h1)
              · have hne : decide (gi = gj) = false := by simp [he]
                have hne2 : (gi == gj) = false := by simp [he]
                go_wp2_with fail
                go_quiet (fail)
                go_wp2
                refine ⟨⟨j, cur, _, by omega, rfl, rfl, below_drewN hbel3 nq, hR, ?_⟩, by simp [intOf]⟩
                have h1 := hlow.out
                rw [low, HT.out] at h1
                exact Lib.hid (by simpa [he] using h1)
            · obtain rfl : m = 0 := by omega
              obtain rfl : z = -1 := by have := hz.out; omega
              go_wp2
              refine ⟨⟨k + 1, by omega, by go_num, hbel3, _, hR, ?_, ?_⟩, by simp [intOf]; omega⟩
              · rw [List.length_set]; exact hXl1
              · intro i hi
                by_cases hik : i = k
                · subst hik
                  have h1 := hlow.out
                  rw [low] at h1
                  rw [List.getElem?_set_self (by rw [hXl1]; exact hlt2), stepG_at _ _ _ (by rw [HN.out]; exact hlt2), h1]
                · rw [List.getElem?_set_ne (by omega)]
                  exact hXX1.out i (by omega)
        · have hXs : X = stepG ns G := by
            apply List.ext_getElem?
            intro i
            by_cases h : i < k
            · exact hXX.out.2 i h
            · rw [List.getElem?_eq_none (by rw [hXX.out.1]; omega), List.getElem?_eq_none (by rw [stepG_len, HN.out]; omega)]
          subst hXs
          have hGw : Row wi gb G := hG.carry (hbel2.block gb hgl)
          have hXl2 := stepG_len ns G
          generalize hSG : stepG ns G = S at *
          have HSG := Lib.hid hSG
          have HSL := Lib.hid hXl2
          clear hSG hXl2 hXX
          go_wp2
          go_loopw [8, 9] (fun sm i w4 => ∃ (m : Nat) (bb : Bool), m ≤ n ∧ i = .int .i64 m ∧ sm = .bool bb ∧ Below wi.heap.size wi w4 ∧ Hid (bb = decide (S.take m = G.take m))) (fun sm i w4 => n - (intOf i).toNat)
          case atStart => exact ⟨0, true, by omega, rfl, rfl, Below.refl _ _, by simp [Hid]⟩
          case round =>
            obtain ⟨m, bb, hm, rfl, rfl, hbel4, hbb⟩ := hrel
            have hm0 : (0 : Int) ≤ m := by omega
            by_cases hlt4 : m < n
            · obtain ⟨x, hx1⟩ := getSome S m (by rw [HSL.out, HN.out]; exact hlt4)
              obtain ⟨y, hy1⟩ := getSome G m (by rw [HGL.out, HN.out]; exact hlt4)
              have hm1 : (m : Int) < n := by omega
              have c5 := (hbel4.cell (p := ⟨wo.heap.size, m, none⟩) hX.lt).trans (hX.cell hx1)
              have c6 := (hbel4.cell (p := ⟨gb, m, none⟩) hGw.lt).trans (hGw.cell hy1)
              have HX1 := Lib.hid hx1
              have HY1 := Lib.hid hy1
              clear hx1 hy1
              cases bb
              · go_wp2_with fail
                go_quiet (fail)
                go_wp2
                refine ⟨⟨m + 1, false, by omega, by go_num, rfl, below_drewN hbel4 nq, ?_⟩, by simp [intOf]; omega⟩
                refine (decide_eq_false fun e => ?_).symm
                have h2 := of_decide_eq_false hbb.out.symm
                exact h2 (by simpa [List.take_take] using congrArg (List.take m) e)
              · have h2 := of_decide_eq_true hbb.out.symm
                by_cases he : x = y
                · subst he
                  go_wp2_with fail
                  go_quiet (fail)
                  go_wp2
                  refine ⟨⟨m + 1, true, by omega, by go_num, rfl, below_drewN hbel4 nq, ?_⟩, by simp [intOf]; omega⟩
                  refine (decide_eq_true ?_).symm
                  rw [take_snoc' S m _ HX1.out, take_snoc' G m _ HY1.out, h2]
                · have HE := Lib.hid he
                  go_wp2_with fail
                  go_quiet (fail)
                  go_wp2
                  refine ⟨⟨m + 1, _, by omega, by go_num, rfl, below_drewN hbel4 nq, ?_⟩, by simp [intOf]; omega⟩
                  have h3 : (x == y) = false := by simp [HE.out]
                  rw [h3]
                  refine (decide_eq_false fun e => ?_).symm
                  rw [take_snoc' S m _ HX1.out, take_snoc' G m _ HY1.out, h2] at e
                  have := List.append_cancel_left e
                  simp at this
                  exact HE.out this
            · have hmn : m = n := by omega
              have hbw : Below w.heap.size w wr := (hbel.trans (hbel2.mono hbel.size)).trans (hbel4.mono (Nat.le_trans hbel.size hbel2.size))
              have hRw : Row wr wo.heap.size S := hX.carry (hbel4.block _ hX.lt)
              have hit : Hid (iterG ns (r + 1) = S) := by
                show stepG ns (iterG ns r) = S
                rw [HGG.out]
                exact HSG.out
              have hbb2 : Hid (bb = decide (S = G)) := by
                have := hbb.out
                rwa [List.take_of_length_le (by rw [HSL.out, HN.out]; omega), List.take_of_length_le (by rw [HGL.out, HN.out]; omega)] at this
              cases bb
              · go_wp2
                exact ⟨⟨r + 1, wo.heap.size, by omega, by go_num, rfl, hbw, hbel.size, by rw [hit.out]; exact hRw⟩, by simp [intOf]; omega⟩
              · by_cases hr1 : 0 < r
                · go_wp2
                  go_ret
                  have h2 : S = G := of_decide_eq_true hbb2.out.symm
                  have h3 := iterG_fix (ns := ns) (r := r) (by rw [hit.out, HGG.out, h2]) (n + 1) (by omega)
                  refine ⟨wo.heap.size, by rw [HN.out]; rfl, hbw, hbel.size, ?_⟩
                  rw [HN.out, h3, HGG.out, ← h2]
                  exact hRw
                · go_wp2
                  exact ⟨⟨r + 1, wo.heap.size, by omega, by go_num, rfl, hbw, hbel.size, by rw [hit.out]; exact hRw⟩, by simp [intOf]; omega⟩
    · obtain rfl : r = n + 1 := by omega
      go_wp2
      go_ret
      refine ⟨gb, by rw [HN.out]; rfl, hbel, hgb, ?_⟩
      rw [HN.out]
      exact hG

set_option maxRecDepth 100000 in
theorem groups_nil (w : World) (a : Option Addr) (c : Nat) :
    Calls Tryd.prog 28 #[.slice a 0 c] w (GroupsPost [] w) := by
  have HMK : ∀ w, (Instr.makeSlice 32 (.int .i64 0) (.int .i64 0)).run Tryd.prog w = .ok (.slice (some ⟨w.heap.size, 0, none⟩) 0 0) (w.alloc (.cells (zrow 0) 3)) := make_ints 0 (by omega)
  go_enter Tryd.func28, Tryd.ntmps28
  go_wp2
  go_loopw [3, 4] (fun g i wr => ∃ r gb : Nat, r ≤ 1 ∧ i = .int .i64 r ∧ g = .slice (some ⟨gb, 0, none⟩) 0 0 ∧ Below w.heap.size w wr ∧ w.heap.size ≤ gb ∧ Row wr gb []) (fun g i wr => 1 - (intOf i).toNat)
  case atStart => exact ⟨0, _, by omega, rfl, rfl, below1 _ _, Nat.le_refl _, Row.zeros _ 0⟩
  case round =>
    obtain ⟨r, gb, hr, rfl, rfl, hbel, hgb, hG⟩ := hrel
    generalize wr = wo at *
    have hr2 : r = 0 ∨ r = 1 := by omega
    rcases hr2 with rfl | rfl
    · go_wp2
      go_loopw [6] (fun i w2 => i = .int .i64 0 ∧ w2 = wo.alloc (.cells (zrow 0) 3)) (fun i w2 => 0)
      case atStart => exact ⟨rfl, rfl⟩
      case round =>
        obtain ⟨rfl, rfl⟩ := hrel
        go_wp2
        go_loopw [8, 9] (fun sm i w2 => sm = .bool true ∧ i = .int .i64 0 ∧ w2 = wo.alloc (.cells (zrow 0) 3)) (fun sm i w2 => 0)
        case atStart => exact ⟨rfl, rfl, rfl⟩
        case round =>
          obtain ⟨rfl, rfl, rfl⟩ := hrel
          go_wp2
          exact ⟨⟨1, wo.heap.size, by omega, rfl, rfl, hbel.trans ((below1 _ _).mono hbel.size), hbel.size, Row.zeros _ 0⟩, by simp [intOf]⟩
    · go_wp2
      go_ret
      exact ⟨gb, rfl, hbel, hgb, hG⟩

theorem groups_any (w : World) (P : Nat → Prop) (v : Value) (ns : List Nd) (hv : Nodes w P v ns) (hP : ∀ b, P b → b < w.heap.size) (hk : ∀ d ∈ ns, ∀ k ∈ d.kids, inR ns.length k = true) :
    Calls Tryd.prog 28 #[v] w (GroupsPost ns w) := by
  obtain ⟨h0, ⟨b, o, c, rfl, hb, hc⟩ | ⟨rfl, a, c, rfl⟩⟩ := hv
  · exact groups_go w P b o c _ ns rfl h0 (hP b hb) hP hc hk
  · exact groups_nil w a c
end Go.Proofs.YtjpkmcaogekkdaaDoor.Rm
