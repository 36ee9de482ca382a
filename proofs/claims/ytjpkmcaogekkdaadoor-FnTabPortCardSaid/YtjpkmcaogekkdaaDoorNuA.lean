/- Decimals in the reference, walked: trimming, digits, comparing, the text of digits. -/
import Derived.Test.YtjpkmcaogekkdaaDoorNuP
import Derived.Test.YtjpkmcaogekkdaaDoorRmJ
import Derived.Laws.IdiomStrings
namespace Go.Proofs.YtjpkmcaogekkdaaDoor.Nu
open Go.RowKit Go.Proofs.YtjpkmcaogekkdaaDoor.Rm
set_option linter.unusedVariables false
set_option linter.unusedSimpArgs false

theorem trim_drop (l : List UInt8) (k : Nat) (hk : k + 1 < l.length) (h : l[k]? = some 48) : trimL (l.drop k) = trimL (l.drop (k + 1)) := by
  have hk0 : k < l.length := by omega
  have h0 : l[k] = 48 := by rw [List.getElem?_eq_getElem hk0] at h; exact Option.some.inj h
  rw [List.drop_eq_getElem_cons hk0, List.drop_eq_getElem_cons hk, trimL, h0, if_pos rfl]
theorem trim_stop (l : List UInt8) (k : Nat) (h : l.length ≤ k + 1 ∨ l[k]? ≠ some 48) : trimL (l.drop k) = l.drop k := by
  rcases Nat.lt_or_ge k l.length with h1 | h1
  · rw [List.drop_eq_getElem_cons h1]
    rcases Nat.lt_or_ge (k + 1) l.length with h2 | h2
    · rw [List.drop_eq_getElem_cons h2, trimL, if_neg]
      rcases h with h | h
      · omega
      · rw [List.getElem?_eq_getElem h1] at h
        exact fun e => h (by rw [e])
    · rw [List.drop_of_length_le h2]; rfl
  · rw [List.drop_of_length_le h1]; rfl

theorem ext_list (s : ByteArray) (a b : Nat) : (s.extract a b).data.toList = (s.data.toList.drop a).take (b - a) := by
  rw [ByteArray.data_extract, Array.toList_extract, List.extract_eq_take_drop]
theorem ext_drop (s : ByteArray) (k : Nat) : (s.extract k s.size).data.toList = s.data.toList.drop k := by
  rw [ext_list, List.take_of_length_le (by rw [List.length_drop]; exact Nat.le_refl _)]

theorem l1Trim_any (s : ByteArray) (w : World) (hs : s.size ≤ 140737488351232) :
    Calls Tryd.prog 118 #[.string s] w fun e w' => (∃ r : ByteArray, e = .returned (.string r) ∧ r.data.toList = trimL s.data.toList) ∧ w = w' := by
  have hl : s.data.toList.length = s.size := rfl
  go_enter Tryd.func118, Tryd.ntmps118
  go_wp2
  go_loop [3] (fun i => ∃ k : Nat, k ≤ s.size ∧ i = .int .i64 k ∧ Hid (trimL s.data.toList = trimL (s.data.toList.drop k))) (fun i => s.size - (intOf i).toNat)
  case atStart => exact ⟨0, by omega, rfl, by simp [Hid]⟩
  case round =>
    obtain ⟨k, hk, rfl, hd⟩ := hrel
    by_cases hlt : k + 1 < s.size
    · have hk0 : k < s.size := by omega
      have hg : s.data.toList[k]? = some s[k] := by rw [List.getElem?_eq_getElem (by omega)]; rfl
      by_cases h48 : s[k] = 48
      · have hT := Lib.hid (trim_drop s.data.toList k (by omega) (by rw [hg, h48]))
        have hb : ((s[k].toNat : Int) == 48) = true := by rw [h48]; rfl
        clear hg
        go_wp2
        exact ⟨⟨k + 1, by omega, by go_num, hd.out.trans hT.out⟩, by simp [intOf]; omega⟩
      · have hT := Lib.hid (trim_stop s.data.toList k (.inr (by rw [hg]; simpa using h48)))
        have hb : ((s[k].toNat : Int) == 48) = false := by
          rw [beq_eq_false_iff_ne]
          intro e
          exact h48 (UInt8.toNat_inj.1 (show s[k].toNat = 48 by omega))
        clear hg
        go_wp2
        go_ret
        refine ⟨⟨_, rfl, ?_⟩, rfl⟩
        rw [hd.out, hT.out]
        exact ext_drop s k
    · go_wp2
      go_ret
      refine ⟨⟨_, rfl, ?_⟩, rfl⟩
      rw [hd.out, trim_stop _ _ (.inl (by omega))]
      exact ext_drop s k

/-- a byte less the byte of nought -/
def off48 (b : UInt8) : Int := ((b.toNat : Int) - 48) % 256
theorem off48_in (b : UInt8) : 0 ≤ off48 b ∧ off48 b ≤ 255 := by
  unfold off48
  omega
theorem off48_dig {b : UInt8} (h : Dig b) : off48 b = dg b := by
  have h1 := h.1
  have h2 := h.2
  unfold off48 dg
  omega
def atI (l : List UInt8) (k : Nat) : Int := if k < l.length then off48 (l.getD (l.length - 1 - k) 48) else 0
theorem atI_in (l : List UInt8) (k : Nat) : 0 ≤ atI l k ∧ atI l k ≤ 255 := by
  unfold atI
  split
  · exact off48_in _
  · omega
theorem atI_atN {l : List UInt8} (h : Digs l) (k : Nat) : atI l k = atN l k := by
  unfold atI atN
  split
  · rename_i h1
    refine off48_dig ?_
    rw [List.getD_eq_getElem?_getD, List.getElem?_eq_getElem (by omega)]
    exact h _ (List.getElem_mem _)
  · rfl

theorem l1At_any (s : ByteArray) (k : Nat) (w : World) (hs : s.size ≤ 140737488351232) (hk : k ≤ 140737488351232) :
    Calls Tryd.prog 131 #[.string s, .int .i64 k] w fun e w' => e = .returned (.int .i64 (atI s.data.toList k)) ∧ w = w' := by
  by_cases h : k < s.size
  · go_enter Tryd.func131, Tryd.ntmps131
    go_wp2
    go_ret
    refine ⟨?_, rfl⟩
    rw [atI, if_pos (by simpa using h)]
    have e : s.data.toList.getD (s.data.toList.length - 1 - k) 48 = s[s.size - 1 - k] := by
      rw [List.getD_eq_getElem?_getD, List.getElem?_eq_getElem (by simp; omega)]
      rfl
    rw [e]
    rfl
  · go_enter Tryd.func131, Tryd.ntmps131
    go_wp2
    go_ret
    refine ⟨?_, rfl⟩
    rw [atI, if_neg (by simpa using h)]
    rfl

theorem bl_lt : ∀ (a b : List UInt8), Op.bytesLess a b = decide (a < b)
  | [], [] => by simp [Op.bytesLess]
  | _ :: _, [] => by simp [Op.bytesLess]
  | [], _ :: _ => by simp [Op.bytesLess]
  | x :: t, y :: u => by
    rw [Op.bytesLess, bl_lt t u, Bool.eq_iff_iff]
    simp [List.cons_lt_cons_iff]
theorem l1Cmp_any (a b : ByteArray) (w : World) (ha : a.size ≤ 140737488351232) (hb : b.size ≤ 140737488351232) (ka : Dec a.data.toList) (kb : Dec b.data.toList) :
    Calls Tryd.prog 125 #[.string a, .string b] w fun e w' => (∃ x : Int, e = .returned (.int .i64 x) ∧ (0 ≤ x ↔ vl b.data.toList ≤ vl a.data.toList)) ∧ w = w' := by
  have HA := Lib.hid ka
  have HB := Lib.hid kb
  clear ka kb
  go_enter Tryd.func125, Tryd.ntmps125
  go_wp2
  · go_ret
    have := HA.out.len_lt HB.out (by simpa using (by assumption : a.size < b.size))
    exact ⟨⟨-1, rfl, by omega⟩, rfl⟩
  · go_ret
    have hne : a.size ≠ b.size := by
      have := (by assumption : ((a.size : Int) != (b.size : Int)) = true)
      rw [bne_iff_ne] at this
      omega
    have hnl := (by assumption : ¬ a.size < b.size)
    have := HB.out.len_lt HA.out (by show b.size < a.size; omega)
    exact ⟨⟨1, rfl, by omega⟩, rfl⟩
  all_goals
    have he : a.size = b.size := by
      have := (by assumption : ((a.size : Int) != (b.size : Int)) = false)
      rw [bne_eq_false_iff_eq] at this
      omega
    have hlx := lex_lt a.data.toList b.data.toList he HA.out.1 HB.out.1
  · go_ret
    have h := (by assumption : Op.bytesLess a.toList b.toList = true)
    rw [bl_lt, ByteArray.toList_eq, ByteArray.toList_eq, decide_eq_true_eq, hlx] at h
    exact ⟨⟨-1, rfl, by omega⟩, rfl⟩
  all_goals
    have h := (by assumption : Op.bytesLess a.toList b.toList = false)
    rw [bl_lt, ByteArray.toList_eq, ByteArray.toList_eq, decide_eq_false_iff_not, hlx] at h
  · go_ret
    exact ⟨⟨1, rfl, by omega⟩, rfl⟩
  · go_ret
    exact ⟨⟨0, rfl, by omega⟩, rfl⟩

/-- a bool with a consequence -/
def BoolP (e : Ending) (p : Bool → Prop) : Prop := ∃ b : Bool, e = .returned (.bool b) ∧ p b

theorem digitsOk_any (s : ByteArray) (w : World) (hs : s.size ≤ 140737488351232) :
    Calls Tryd.prog 115 #[.string s] w fun e w' => BoolP e (fun b => b = true → Dec s.data.toList) ∧ w = w' := by
  by_cases h0 : s.size = 0
  · have hb : ((s.size : Int) == 0) = true := by rw [h0]; rfl
    go_enter Tryd.func115, Tryd.ntmps115
    go_wp2
    go_ret
    exact ⟨⟨false, rfl, by simp⟩, rfl⟩
  have hb : ((s.size : Int) == 0) = false := by rw [beq_eq_false_iff_ne]; omega
  have hz : 0 < s.size := by omega
  by_cases h2 : 1 < s.size ∧ s[0]'hz = 48
  · have h1 : 1 < s.size := h2.1
    have h3 : (((s[0]'hz).toNat : Int) == 48) = true := by rw [h2.2]; rfl
    go_enter Tryd.func115, Tryd.ntmps115
    go_wp2
    go_ret
    exact ⟨⟨false, rfl, by simp⟩, rfl⟩
  have HH : Hid (s.size = 1 ∨ s.data.toList.head? ≠ some 48) := by
    rcases Nat.lt_or_ge 1 s.size with h1 | h1
    · right
      have h3 : s[0]'hz ≠ 48 := fun e => h2 ⟨h1, e⟩
      rw [List.head?_eq_getElem?, List.getElem?_eq_getElem (show 0 < s.data.toList.length by show 0 < s.size; omega)]
      intro e
      exact h3 (Option.some.inj e)
    · exact .inl (by omega)
  have h3 : 1 < s.size → (((s[0]'hz).toNat : Int) == 48) = false := by
    intro h1
    rw [beq_eq_false_iff_ne]
    intro e
    exact h2 ⟨h1, UInt8.toNat_inj.1 (show (s[0]'hz).toNat = 48 by omega)⟩
  clear h2
  go_enter Tryd.func115, Tryd.ntmps115
  by_cases h1 : 1 < s.size
  all_goals
    have h4 := h3
    clear h3
    first | (have h5 := h4 h1; clear h4; go_wp2) | (clear h4; go_wp2)
    go_loop [3] (fun i => ∃ k : Nat, k ≤ s.size ∧ i = .int .i64 k ∧ Hid (Digs (s.data.toList.take k))) (fun i => s.size - (intOf i).toNat)
    case atStart => exact ⟨0, by omega, rfl, fun _ h => by simp at h⟩
    case round =>
      obtain ⟨k, hk, rfl, hd⟩ := hrel
      by_cases hlt : k < s.size
      · go_wp2
        all_goals first | (go_ret; exact ⟨⟨false, rfl, by simp⟩, rfl⟩) | skip
        refine ⟨⟨k + 1, by omega, by go_num, ?_⟩, by simp [intOf]; omega⟩
        have hx := (by assumption : 48 ≤ (s[k].toNat : Int) ∧ (s[k].toNat : Int) ≤ 57)
        show Digs _
        rw [List.take_add_one, List.getElem?_eq_getElem (show k < s.data.toList.length from hlt)]
        refine Digs.app hd.out (Digs.one ?_)
        show 48 ≤ s[k].toNat ∧ s[k].toNat ≤ 57
        omega
      · go_wp2
        go_ret
        refine ⟨⟨true, rfl, fun _ => ⟨?_, ?_, HH.out⟩⟩, rfl⟩
        · have := hd.out
          rwa [List.take_of_length_le (show s.data.toList.length ≤ k by show s.size ≤ k; omega)] at this
        · intro e
          have : s.data.toList.length = 0 := by rw [e]; rfl
          exact h0 this
end Go.Proofs.YtjpkmcaogekkdaaDoor.Nu
