/- A map that numbers keys. -/
import Derived.Test.YtjpkmcaogekkdaaDoorRmP2
import Derived.Test.YtjpkmcaogekkdaaDoorRmN
import Derived.Maps.OwnSet
namespace Go.Proofs.YtjpkmcaogekkdaaDoor.Rm
open Go.RowKit Go.Maps
set_option linter.unusedVariables false
set_option linter.unusedSimpArgs false
set_option linter.unusedSectionVars false
set_option linter.unnecessarySimpa false

/-- Block b of w is a map that numbers these keys one after the other. -/
def MapIs {α : Type} [DecidableEq α] (kt : TypeId) (lit : α → Lit) (w : World) (b : Nat) (L : List α) : Prop :=
  ∃ D : DataW Unit, w.ownsMap Tryd.prog kt (plainElem Tryd.prog 3) b L.length D ∧ Maps.Tidy D ∧ Maps.size D = L.length ∧ ∀ x, Maps.has D (lit x) = decide (x ∈ L) ∧ (x ∈ L → D.atKey (lit x) (.lit (.int .i64 0)) = .lit (.int .i64 (ixOf L x : Nat)))

section
variable {α : Type} [DecidableEq α] {kt : TypeId} {lit : α → Lit} {w : World} {b : Nat} {L : List α}

theorem MapIs.made (w : World) : MapIs kt lit (w.alloc (.map #[] 0)) w.heap.size ([] : List α) :=
  ⟨_, World.ownsMap_made _ _ _ _, Maps.tidy_empty, rfl, fun x => ⟨by simp [Maps.has_eq], fun h => by simp at h⟩⟩
theorem MapIs.lt (h : MapIs kt lit w b L) : b < w.heap.size := by
  obtain ⟨D, h1, _⟩ := h
  exact h1.lt
theorem MapIs.carry (h : MapIs kt lit w b L) {w' : World} (hw : w'.heap[b]? = w.heap[b]?) : MapIs kt lit w' b L := by
  obtain ⟨D, ⟨es, clock, hb, r⟩, h2⟩ := h
  exact ⟨D, ⟨es, clock, hw.trans hb, r⟩, h2⟩

theorem zero3 (w : World) : (zeroValue 3).run Tryd.prog w = .ok (.int .i64 0) w := by kernel_rfl

theorem MapIs.look (h : MapIs kt lit w b L) (K : Keyed Tryd.prog kt) {t : TypeId} (ht : Tryd.prog.underlying t = some (.map kt 3)) {key : Value} {x : α} (hkey : keyOf Tryd.prog kt key = some (lit x)) :
    (Instr.lookup t (.map (some b)) key true).run Tryd.prog w = .ok (.tuple #[.int .i64 (if x ∈ L then (ixOf L x : Nat) else 0 : Int), .bool (decide (x ∈ L))]) w := by
  obtain ⟨D, h1, _, _, h2⟩ := h
  obtain ⟨v, ps, hrun, hv⟩ := h1.look_ok K ht (zero3 w) (plainElem_int Tryd.underlying3 (by decide)) hkey
  rw [hrun, (h2 x).1]
  by_cases hx : x ∈ L
  · rw [(h2 x).2 hx] at hv
    obtain ⟨c, rfl, hc, hwc⟩ := plainElem_int_inv Tryd.underlying3 hv
    simp only [Prod.mk.injEq, DataW.lit.injEq, Lit.int.injEq, true_and] at hc
    rw [if_pos hx, hc.1]
  · rw [Maps.atKey_of_not_has (by rw [(h2 x).1]; simp [hx])] at hv
    obtain ⟨c, rfl, hc, hwc⟩ := plainElem_int_inv Tryd.underlying3 hv
    simp only [Prod.mk.injEq, DataW.lit.injEq, Lit.int.injEq, true_and] at hc
    rw [if_neg hx, ← hc.1]

theorem MapIs.look_in (h : MapIs kt lit w b L) (K : Keyed Tryd.prog kt) {t : TypeId} (ht : Tryd.prog.underlying t = some (.map kt 3)) {key : Value} {x : α} (hkey : keyOf Tryd.prog kt key = some (lit x)) (hx : x ∈ L) :
    (Instr.lookup t (.map (some b)) key true).run Tryd.prog w = .ok (.tuple #[.int .i64 (ixOf L x : Nat), .bool true]) w := by
  have := h.look K ht hkey
  rw [if_pos hx, decide_eq_true hx] at this
  exact this
theorem MapIs.look_out (h : MapIs kt lit w b L) (K : Keyed Tryd.prog kt) {t : TypeId} (ht : Tryd.prog.underlying t = some (.map kt 3)) {key : Value} {x : α} (hkey : keyOf Tryd.prog kt key = some (lit x)) (hx : x ∉ L) :
    (Instr.lookup t (.map (some b)) key true).run Tryd.prog w = .ok (.tuple #[.int .i64 0, .bool false]) w := by
  have := h.look K ht hkey
  rw [if_neg hx, decide_eq_false hx] at this
  exact this

theorem MapIs.len (h : MapIs kt lit w b L) {t : TypeId} (ht : Tryd.prog.underlying t = some (.map kt 3)) (ty : TypeId) : (Builtin.len_ #[t] ty #[.map (some b)]).run Tryd.prog w = .ok (.int .i64 L.length) w := by
  obtain ⟨D, h1, _, hs, h2⟩ := h
  rw [h1.len ht ty, hs]

theorem MapIs.store (h : MapIs kt lit w b L) (K : Keyed Tryd.prog kt) {t : TypeId} (ht : Tryd.prog.underlying t = some (.map kt 3)) (hl : ∀ x y : α, lit x = lit y → x = y) {key : Value} {x : α} (hkl : WideAt.IsKeyLit (lit x)) (hkey : keyOf Tryd.prog kt key = some (lit x)) (hn : L.length ≤ 140737488351232) (hx : x ∉ L) :
    ∃ w', (Instr.mapUpdate t (.map (some b)) key (.int .i64 L.length)).run Tryd.prog w = .ok () w' ∧ MapIs kt lit w' b (L ++ [x]) ∧ w.grownBy w' (some b) := by
  obtain ⟨D, h1, htd, hs, h2⟩ := h
  have hwf : (Lit.int .i64 (L.length : Int)).wf = true := WalkArith.wf_i64 (by omega)
  obtain ⟨w', hrun, hown, hgr⟩ := h1.update K ht (by unfold maxLen; omega) hkey (plainElem_int Tryd.underlying3 hwf)
  have hh : Maps.has D (lit x) = false := by rw [(h2 x).1]; simp [hx]
  refine ⟨w', hrun, ⟨D.put (lit x) (.lit (.int .i64 L.length)), ?_, ?_, ?_, fun y => ?_⟩, hgr⟩
  · rw [List.length_append]
    exact hown
  · exact hown.tidy K
  · rw [Maps.size_put htd, hh, hs]
    simp
  · by_cases hy : y = x
    · subst hy
      refine ⟨?_, fun _ => ?_⟩
      · rw [Maps.has_put_same htd.isMap hkl]
        simp
      · rw [Maps.atKey_put_same htd.isMap hkl, ixOf, List.idxOf_append, if_neg hx]
        simp
    · have hne : lit y ≠ lit x := fun e => hy (hl _ _ e)
      refine ⟨?_, fun hm => ?_⟩
      · rw [Maps.has_put_other hne, (h2 y).1]
        simp [hy]
      · have hm2 : y ∈ L := by
          rcases List.mem_append.1 hm with h | h
          · exact h
          · simp at h
            exact (hy h).elim
        rw [Maps.atKey_put_other hne, (h2 y).2 hm2, ixOf, ixOf, List.idxOf_append, if_pos hm2]
end

theorem law9 : Keyed Tryd.prog 9 := string_keyed Tryd.underlying9
theorem law3 : Keyed Tryd.prog 3 := int_keyed Tryd.underlying3
/-- a text as a key -/
def skey (l : List UInt8) : Lit := .string l
def ikey (n : Int) : Lit := .int .i64 n
theorem skey_of (l : List UInt8) (h : l.length ≤ 140737488351232) : keyOf Tryd.prog 9 (.string ⟨l.toArray⟩) = some (skey l) :=
  Go.WideMaps.keyOf_string_mk Tryd.underlying9 (by show l.toArray.size ≤ maxLen; unfold maxLen; simp; omega)
theorem ikey_of (n : Int) (h : -9223372036854775808 ≤ n) (h' : n ≤ 9223372036854775807) : keyOf Tryd.prog 3 (.int .i64 n) = some (ikey n) :=
  keyOf_int_mk Tryd.underlying3 (WalkArith.wf_i64 (by omega))
theorem skey_inj (x y : List UInt8) (h : skey x = skey y) : x = y := by simpa [skey] using h
theorem ikey_inj (x y : Int) (h : ikey x = ikey y) : x = y := by simpa [ikey] using h
end Go.Proofs.YtjpkmcaogekkdaaDoor.Rm
