/- The classes of the program, walked. -/
import Derived.Test.YtjpkmcaogekkdaaDoorRmQ
import Derived.Deep.RegionHeld3
namespace Go.Proofs.YtjpkmcaogekkdaaDoor.Rm
open Go.RowKit Go.Maps
set_option linter.unusedVariables false
set_option linter.unusedSimpArgs false
set_option linter.unusedSectionVars false
set_option linter.unnecessarySimpa false

/-! ### operations whose run is known -/
theorem wpList_lookup_run {P : Program} {w : World} {ops : Array Oper} {rest : List Oper} {o : Oper} {a : Act} {Q : Exit → Act → World → Prop} (hgd : o.guard = none) (m x : Operand) (t : TypeId) (hop : o.op = Op.lookup t m x true)
    {mv kv v : Value} (hm : a.eval m = mv) (hx : a.eval x = kv) (hr : (Instr.lookup t mv kv true).run P w = .ok v w) (h : wpList P ops Q rest (a.put o.dst v) w) : wpList P ops Q (o :: rest) a w := by
  refine wpList_plain hgd fun K' hK' => ?_
  unfold Oper.wp
  simp [execOp, hop, hm, hx, hr, Result.andThen]
  exact hK' _ _ h
theorem wpList_len_run {P : Program} {w : World} {ops : Array Oper} {rest : List Oper} {o : Oper} {a : Act} {Q : Exit → Act → World → Prop} (hgd : o.guard = none) (m : Operand) (t : TypeId) (hop : o.op = Op.call { callee := Callee.builtin Builtin.len, args := #[m], argTypes := #[t] })
    {mv v : Value} (hm : a.eval m = mv) (hr : (Builtin.len_ #[t] o.type #[mv]).run P w = .ok v w) (h : wpList P ops Q rest (a.put o.dst v) w) : wpList P ops Q (o :: rest) a w := by
  refine wpList_plain hgd fun K' hK' => ?_
  unfold Oper.wp
  simp [execOp, hop, resolve, invoke, builtin, hm, hr, Result.andThen]
  exact hK' _ _ h
theorem wpList_mapUpdate_run {P : Program} {w w' : World} {ops : Array Oper} {rest : List Oper} {o : Oper} {a : Act} {Q : Exit → Act → World → Prop} (hgd : o.guard = none) (m x v : Operand) (t : TypeId) (hop : o.op = Op.mapUpdate t m x v)
    {mv kv vv : Value} (hm : a.eval m = mv) (hx : a.eval x = kv) (hv : a.eval v = vv) (hr : (Instr.mapUpdate t mv kv vv).run P w = .ok () w') (h : wpList P ops Q rest (a.put o.dst undef) w') : wpList P ops Q (o :: rest) a w := by
  refine wpList_plain hgd fun K' hK' => ?_
  unfold Oper.wp
  simp [execOp, hop, hm, hx, hv, hr, Result.andThen]
  exact hK' _ _ h

theorem grown_of_below {w w' : World} (h : Below w.heap.size w w') : w.grownBy w' none :=
  ⟨h.os, h.tape, h.output, h.size, fun k hk _ => h.block k hk⟩
theorem builder_below {T e : TypeId} {B b : Nat} {bs : List Value} {w w' : World} (h : Lib.IsBuilderF T e B b bs w) (hb : Below w.heap.size w w') : Lib.IsBuilderF T e B b bs w' := by
  have key : ∀ p, Lib.BuilderAtF T e B b p bs w → Lib.BuilderAtF T e B b p bs w' := by
    rintro p ⟨h1, v, h2, h3, h4⟩
    exact ⟨h1, v, (hb.block b (Array.getElem?_eq_some_iff.1 h2).1).trans h2, h3.kept (grown_of_below hb) (by cases v.ownBlock <;> simp), h4⟩
  rcases h with h | h
  · exact .inl (key _ h)
  · exact .inr (key _ h)
theorem builder_new (w : World) : Lib.IsBuilderF 87 5 w.heap.size w.heap.size [] (w.alloc (.cells #[.pointer none, .slice none 0 0] 87)) :=
  .inl ⟨Nat.le_refl _, _, Blk.new _ _ _, World.ownsRowF_nil _ _ _ _, by simp [Value.ownBlock]⟩

/-- the text of a key's head, as the program lays it -/
def tx (x : Int) : ByteArray := ⟨(Lib.itoa x).toArray⟩
theorem tx_size (x : Int) (h0 : -9223372036854775808 ≤ x) (h1 : x ≤ 9223372036854775807) : (tx x).size ≤ 21 := by
  show (Lib.itoa x).toArray.size ≤ 21
  simpa using Lib.itoa_length_le x h0 h1

theorem head_size (s : Int) (t : ByteArray) (n : Nat) (h1 : (tx s).size ≤ 21) (h2 : (tx t.size).size ≤ 21) (h3 : (tx n).size ≤ 21) (h4 : t.size ≤ 1048576) : (tx s ++ ⟨#[32]⟩ ++ tx t.size ++ ⟨#[32]⟩ ++ t ++ ⟨#[32]⟩ ++ tx n).size ≤ 2000000 := by
  simp only [ByteArray.size_append]
  have : (⟨#[32]⟩ : ByteArray).size = 1 := rfl
  omega
theorem head_cells (d : Nd) : Lib.strCells (tx d.sort ++ ⟨#[32]⟩ ++ tx d.text.size ++ ⟨#[32]⟩ ++ d.text ++ ⟨#[32]⟩ ++ tx d.kids.length) = Lib.byteCells (key0 d) := by
  unfold Lib.strCells Lib.byteCells key0 tx
  simp
theorem firsts_take_in {ks : List (List UInt8)} {k : Nat} {x : List UInt8} (h : ks[k]? = some x) (hin : x ∈ firsts (ks.take k)) : firsts (ks.take (k + 1)) = firsts (ks.take k) := by
  rw [take_snoc' ks k x h, firsts_snoc, addNew, if_pos hin]
theorem firsts_take_new {ks : List (List UInt8)} {k : Nat} {x : List UInt8} (h : ks[k]? = some x) (hin : x ∉ firsts (ks.take k)) : firsts (ks.take (k + 1)) = firsts (ks.take k) ++ [x] := by
  rw [take_snoc' ks k x h, firsts_snoc, addNew, if_neg hin]
theorem idxOf_new {α : Type} [DecidableEq α] {L : List α} {x : α} (h : x ∉ L) : ixOf (L ++ [x]) x = L.length := by
  rw [ixOf, List.idxOf_append, if_neg h]
  simp
theorem foldl_addNew_len {α : Type} [DecidableEq α] : ∀ (ks acc : List α), (ks.foldl addNew acc).length ≤ acc.length + ks.length
  | [], acc => Nat.le_refl _
  | k :: ks, acc => by
    have h1 := foldl_addNew_len ks (addNew acc k)
    have h2 : (addNew acc k).length ≤ acc.length + 1 := by
      unfold addNew
      split <;> simp
    rw [List.foldl_cons, List.length_cons]
    omega
theorem firsts_len {α : Type} [DecidableEq α] (ks : List α) : (firsts ks).length ≤ ks.length := by
  have := foldl_addNew_len ks []
  simpa [firsts] using this
theorem row_next {ks : List (List UInt8)} {X : List Int} {n k : Nat} {x : List UInt8} {c : Int} (hX : X.length = n ∧ ∀ j, j < k → X[j]? = (clsOf ks)[j]?) (h : ks[k]? = some x) (hc : c = (ixOf (firsts (ks.take (k + 1))) x : Nat)) (hl : ks.length = n) :
    (X.set k c).length = n ∧ ∀ j, j < k + 1 → (X.set k c)[j]? = (clsOf ks)[j]? := by
  have hk := (List.getElem?_eq_some_iff.1 h).1
  refine ⟨by rw [List.length_set]; exact hX.1, fun j hj => ?_⟩
  by_cases hjk : j = k
  · subst hjk
    rw [List.getElem?_set_self (by rw [hX.1, ← hl]; exact hk), clsOf, List.getElem?_map, h, hc]
    have hm : x ∈ firsts (ks.take (j + 1)) := by
      rw [mem_firsts, take_snoc' ks j x h]
      simp
    rw [Option.map_some, ixOf, ixOf, idxOf_prefix (firsts_take ks (j + 1)) hm]
  · rw [List.getElem?_set_ne (by omega)]
    exact hX.2 j (by omega)
theorem key_len0 (d : Nd) (h1 : -9223372036854775808 ≤ d.sort) (h2 : d.sort ≤ 9223372036854775807) (h3 : d.text.size ≤ 1048576) (h4 : d.kids.length ≤ 40) : (key0 d).length ≤ 1100000 := by
  have a1 := Lib.itoa_length_le d.sort h1 h2
  have a2 := Lib.itoa_length_le d.text.size (by omega) (by omega)
  have a3 := Lib.itoa_length_le d.kids.length (by omega) (by omega)
  have a4 : d.text.data.toList.length = d.text.size := rfl
  unfold key0
  simp only [List.length_append, List.length_cons]
  omega
theorem clsOf_bd {α : Type} [DecidableEq α] (ks : List α) : ∀ x ∈ clsOf ks, 0 ≤ x ∧ x ≤ (ks.length : Int) := by
  intro x hx
  obtain ⟨k, hk, rfl⟩ := List.mem_map.1 hx
  have h1 := List.idxOf_lt_length_of_mem ((mem_firsts ks k).2 hk)
  have h2 := firsts_len ks
  unfold ixOf
  omega

/-- where the round stands -/
def ofAt (ns : List Nd) : Nat → List Int
  | 0 => List.replicate ns.length 0
  | r + 1 => clsI ns r
def cntAt (ns : List Nd) : Nat → Nat
  | 0 => 0
  | r + 1 => cntI ns r

theorem ofAt_len (ns : List Nd) (r : Nat) : (ofAt ns r).length = ns.length := by
  cases r with
  | zero => simp [ofAt]
  | succ r => exact clsI_len ns r
theorem ofAt_bd (ns : List Nd) (r : Nat) : ∀ x ∈ ofAt ns r, 0 ≤ x ∧ x ≤ (ns.length : Int) := by
  intro x hx
  cases r with
  | zero =>
    rw [ofAt, List.mem_replicate] at hx
    omega
  | succ r =>
    have := clsOf_bd (keysI ns r) x hx
    rw [keysI_len] at this
    exact this
theorem key_at {ns : List Nd} {r k : Nat} {d : Nd} (hr : 0 < r) (hd : ns[k]? = some d) : (keysI ns r)[k]? = some (keyC (ofAt ns r) d) := by
  obtain ⟨q, rfl⟩ : ∃ q, r = q + 1 := ⟨r - 1, by omega⟩
  rw [keysI, List.getElem?_map, hd]
  rfl
theorem kidKey_len (C : List Int) (h : ∀ x ∈ C, 0 ≤ x ∧ x ≤ 140737488351232) : ∀ ks, (kidKey C ks).length ≤ 22 * ks.length
  | [] => by simp [kidKey]
  | k :: ks => by
    have h1 := kidKey_len C h ks
    have hg : 0 ≤ gat C k ∧ gat C k ≤ 140737488351232 := by
      unfold gat
      rw [List.getD]
      cases hq : C[k.toNat]? with
      | none => simp
      | some q => exact h q (List.mem_of_getElem? hq)
    have h2 := Lib.itoa_length_le (gat C k) (by omega) (by omega)
    have h3 : kidKey C (k :: ks) = 32 :: (Lib.itoa (gat C k) ++ kidKey C ks) := by simp [kidKey]
    rw [h3]
    simp only [List.length_cons, List.length_append]
    omega
theorem kidKey_snoc (C ks : List Int) (k : Int) : kidKey C (ks ++ [k]) = kidKey C ks ++ 32 :: Lib.itoa (gat C k) := by simp [kidKey]
theorem blank_cells (l : List UInt8) (x : Int) : Lib.byteCells l ++ Lib.strCells (⟨#[32]⟩ ++ tx x) = Lib.byteCells (l ++ 32 :: Lib.itoa x) := by
  unfold Lib.strCells Lib.byteCells tx
  simp
theorem row_all {ks : List (List UInt8)} {X : List Int} {n k : Nat} (hX : X.length = n ∧ ∀ j, j < k → X[j]? = (clsOf ks)[j]?) (hk : ¬ k < n) (hl : ks.length = n) : X = clsOf ks := by
  apply List.ext_getElem?
  intro j
  by_cases hj : j < k
  · exact hX.2 j hj
  · rw [List.getElem?_eq_none (by omega), List.getElem?_eq_none (by rw [clsOf_len]; omega)]
theorem cls_nonneg {ns : List Nd} {r : Nat} (h : ns.length ≤ 140737488351232) : ∀ x ∈ clsI ns r, 0 ≤ x ∧ x ≤ 140737488351232 := by
  intro x hx
  have := clsOf_bd (keysI ns r) x hx
  rw [keysI_len] at this
  omega
theorem parts_at {ns : List Nd} (hk : ∀ d ∈ ns, ∀ k ∈ d.kids, inR ns.length k = true) {r ct : Nat} (h0 : 0 < r) (hc : cntAt ns r = ct) (he : cntI ns r = ct) (h : r = 0 ∨ r ≤ ct ∨ ns.length = 0 ∧ r = 1) : Parts ns (clsI ns r) := by
  obtain ⟨q, rfl⟩ : ∃ q, r = q + 1 := ⟨r - 1, by omega⟩
  rcases h with h | h | h
  · omega
  · have := cnt_le hk (q + 1)
    exact parts_stop hk q (by rw [he, ← hc]; rfl) (by omega)
  · have h1 := List.length_eq_zero_iff.1 h.1
    subst h1
    have h2 : clsI [] (q + 1) = [] := List.length_eq_zero_iff.1 (clsI_len _ _)
    rw [h2]
    exact parts_nil
theorem on_at {ns : List Nd} (hk : ∀ d ∈ ns, ∀ k ∈ d.kids, inR ns.length k = true) {r ct : Nat} (h0 : 0 < r) (hc : cntAt ns r = ct) (he : ¬ cntI ns r = ct) (h : r = 0 ∨ r ≤ ct ∨ ns.length = 0 ∧ r = 1) : r + 1 ≤ cntI ns r ∧ r + 1 ≤ ns.length + 1 := by
  obtain ⟨q, rfl⟩ : ∃ q, r = q + 1 := ⟨r - 1, by omega⟩
  have h1 := cnt_le hk (q + 1)
  have h2 := cnt_mono hk q
  have h3 : cntI ns q = ct := hc
  omega

def ClassesPost (ns : List Nd) (w : World) (e : Ending) (w' : World) : Prop :=
  ∃ gb C, e = .returned (.slice (some ⟨gb, 0, none⟩) ns.length ns.length) ∧ Below w.heap.size w w' ∧ w.heap.size ≤ gb ∧ Row w' gb C ∧ Parts ns C ∧ ∀ x ∈ C, 0 ≤ x ∧ x ≤ 140737488351232

set_option maxHeartbeats 10000000 in
set_option maxRecDepth 100000 in
theorem classes_go (w : World) (P : Nat → Prop) (b o c n : Nat) (ns : List Nd) (hb : b < w.heap.size) (hP : ∀ b, P b → b < w.heap.size) (hn : ns.length = n) (hsz : n * 48 ≤ 140737488351232)
    (hx : ∀ i d, ns[i]? = some d → w.cell? ⟨b, o + i * 3, none⟩ = some (.int .i64 d.sort) ∧ w.cell? ⟨b, o + i * 3 + 1, none⟩ = some (.string d.text) ∧ d.text.size ≤ 140737488351232 ∧ ∃ kb ko kc, w.cell? ⟨b, o + i * 3 + 2, none⟩ = some (.slice (some ⟨kb, ko, none⟩) d.kids.length kc) ∧ P kb ∧ ∀ j x, d.kids[j]? = some x → w.cell? ⟨kb, ko + j, none⟩ = some (.int .i64 x))
    (hk : ∀ d ∈ ns, ∀ k ∈ d.kids, inR ns.length k = true) (h40 : ∀ d ∈ ns, d.kids.length ≤ 40) (ht : Tab w) (hso : ∀ d ∈ ns, -9223372036854775808 ≤ d.sort ∧ d.sort ≤ 9223372036854775807) (htx : ∀ d ∈ ns, d.text.size ≤ 1048576) :
    Calls Tryd.prog 36 #[.slice (some ⟨b, o, none⟩) n c] w (ClassesPost ns w) := by
  have HX := Lib.hid hx
  have HN := Lib.hid hn
  have HP := Lib.hid hP
  have HK := Lib.hid hk
  have H40 := Lib.hid h40
  have HT := Lib.hid ht
  have HSO := Lib.hid hso
  have HTX := Lib.hid htx
  have HMK := make_ints n (by omega)
  have hmm := @run_makeMap Tryd.prog
  clear hx hn hP hk h40 ht hso htx
  go_enter Tryd.func36, Tryd.ntmps36
  go_wp2
  go_loopw [3, 4, 5] (fun ov cv rv wr => ∃ (r gb ct : Nat) (C : List Int), rv = .int .i64 r ∧ cv = .int .i64 ct ∧ ov = .slice (some ⟨gb, 0, none⟩) n n ∧ Below w.heap.size w wr ∧ w.heap.size ≤ gb ∧ Row wr gb C ∧ Hid (ofAt ns r = C) ∧ Hid (cntAt ns r = ct) ∧ Hid (r ≤ n + 1) ∧ Hid (r = 0 ∨ r ≤ ct ∨ n = 0 ∧ r = 1)) (fun ov cv rv wr => n + 2 - (intOf rv).toNat)
  case atStart => exact ⟨0, _, 0, _, rfl, rfl, rfl, below1 _ _, Nat.le_refl _, Row.zeros _ _, by rw [← HN.out]; rfl, rfl, Nat.zero_le _, .inl rfl⟩
  case round =>
    obtain ⟨r, gb, ct, C, rfl, rfl, rfl, hbel, hgb, hC, HCO, HCT, hr1, hr2⟩ := hrel
    have hr0 : (0 : Int) ≤ r := by omega
    have hgl := hC.lt
    generalize wr = wo at *
    have hm1 := MapIs.made (kt := 9) (lit := skey) wo
    have hm2 := hm1.carry (Below.heap_alloc _ (.cells (zrow n) 3) _ hm1.lt)
    have hz := Row.zeros (wo.alloc (.map #[] 0)) n
    have hzs : (wo.alloc (.map #[] 0)).heap.size = wo.heap.size + 1 := by simp
    rw [hzs] at hz
    clear hm1 hzs
    by_cases h0 : r = 0
    · subst h0
      go_wp2
      go_loopw [26] (fun i wr => ∃ k : Nat, k ≤ n ∧ i = .int .i64 k ∧ Below wo.heap.size wo wr ∧ MapIs 9 skey wr wo.heap.size (firsts ((keysI ns 0).take k)) ∧ ∃ X : List Int, Row wr (wo.heap.size + 1) X ∧ Hid (X.length = n ∧ ∀ j, j < k → X[j]? = (clsI ns 0)[j]?)) (fun i wr => n - (intOf i).toNat)
      case atStart => exact ⟨0, by omega, rfl, below2 _ _ _, hm2, _, hz, by simp, fun j hj => by omega⟩
      case round =>
        obtain ⟨k, hk, rfl, hbel2, hM, X, hX, hXX⟩ := hrel
        have hk0 : (0 : Int) ≤ k := by omega
        by_cases hlt : k < n
        · obtain ⟨d, hd⟩ := getSome ns k (by rw [HN.out]; exact hlt)
          obtain ⟨a0, a1, a2, kb, ko, kc, a3, hPk, hcx⟩ := HX.out k d hd
          have hbw : Below w.heap.size w wr := hbel.trans (hbel2.mono hbel.size)
          have e0 := (hbw.cell (p := ⟨b, o + k * 3, none⟩) hb).trans a0
          have e1 := (hbw.cell (p := ⟨b, o + k * 3 + 1, none⟩) hb).trans a1
          have e2 := (hbw.cell (p := ⟨b, o + k * 3 + 2, none⟩) hb).trans a3
          have hk1 : (k : Int) < n := by omega
          go_wp2
          have hW := below2 wr (.cells #[.int .i64 d.sort, .string d.text, .slice (some ⟨kb, ko, none⟩) d.kids.length kc] 58) (.cells #[.pointer none, .slice none 0 0] 87)
          have hNB := (Blk.two wr #[.int .i64 d.sort, .string d.text, .slice (some ⟨kb, ko, none⟩) d.kids.length kc] #[.pointer none, .slice none 0 0] 58 87).1
          have hBu := builder_new (wr.alloc (.cells #[.int .i64 d.sort, .string d.text, .slice (some ⟨kb, ko, none⟩) d.kids.length kc] 58))
          have hz1 : (wr.alloc (.cells #[.int .i64 d.sort, .string d.text, .slice (some ⟨kb, ko, none⟩) d.kids.length kc] 58)).heap.size = wr.heap.size + 1 := by simp
          rw [hz1] at hBu
          have hWs : wr.heap.size + 1 < ((wr.alloc (.cells #[.int .i64 d.sort, .string d.text, .slice (some ⟨kb, ko, none⟩) d.kids.length kc] 58)).alloc (.cells #[.pointer none, .slice none 0 0] 87)).heap.size := by simp
          clear hz1
          generalize ((wr.alloc (.cells #[.int .i64 d.sort, .string d.text, .slice (some ⟨kb, ko, none⟩) d.kids.length kc] 58)).alloc (.cells #[.pointer none, .slice none 0 0] 87)) = W at *
          have n0 := hNB.cell0 (o := 0) (v := .int .i64 d.sort) rfl
          have n1 := hNB.cell0 (o := 1) (v := .string d.text) rfl
          have n2 := hNB.cell0 (o := 2) (v := .slice (some ⟨kb, ko, none⟩) d.kids.length kc) rfl
          have hTW : Tab W := HT.out.on (hbw.trans (hW.mono hbw.size))
          have KS := Lib.hid (fun w' (h : Below (wr.heap.size + 1) W w') => (⟨(h.cell (p := ⟨wr.heap.size, 0, none⟩) (Nat.lt_succ_self _)).trans n0, (h.cell (p := ⟨wr.heap.size, 1, none⟩) (Nat.lt_succ_self _)).trans n1, (h.cell (p := ⟨wr.heap.size, 2, none⟩) (Nat.lt_succ_self _)).trans n2⟩ : w'.cell? ⟨wr.heap.size, 0, none⟩ = some (.int .i64 d.sort) ∧ w'.cell? ⟨wr.heap.size, 1, none⟩ = some (.string d.text) ∧ w'.cell? ⟨wr.heap.size, 2, none⟩ = some (.slice (some ⟨kb, ko, none⟩) d.kids.length kc)))
          have HIT := Lib.hid (fun (x : Int) w' (h0 : -9223372036854775808 ≤ x) (h1 : x ≤ 9223372036854775807) (h : Below W.heap.size W w') => (itoa_any x w' h0 h1 (hTW.on h)).mono (fun e w2 h2 => (⟨h2.1, h.trans (h2.2.mono h.size)⟩ : e = .returned (.string (tx x)) ∧ Below W.heap.size W w2)))
          have HWS := Lib.hid (fun (s : ByteArray) w' (hs : s.size ≤ 2000000) (h : Below W.heap.size W w') => (writeString_f (wr.heap.size + 1) (wr.heap.size + 1) [] s w' (builder_below hBu h) (by simp; omega) (Nat.le_trans (Nat.le_of_lt hWs) h.size)).mono (fun e w2 h2 => (⟨h2.1, .inr h2.2.1, (h.mono (Nat.le_of_lt hWs)).trans h2.2.2⟩ : e = .returned (.tuple #[.int .i64 s.size, .nilIface]) ∧ Lib.IsBuilderF 87 5 (wr.heap.size + 1) (wr.heap.size + 1) (Lib.strCells s) w2 ∧ Below (wr.heap.size + 1) W w2)))
          have hW0 : Below W.heap.size W W.drew := (Below.refl _ _).drew
          have hsrt := HSO.out d (List.mem_of_getElem? hd)
          have htxt := HTX.out d (List.mem_of_getElem? hd)
          have h40 := H40.out d (List.mem_of_getElem? hd)
          have hso1 := hsrt.1
          have hso2 := hsrt.2
          have hx1 := tx_size d.sort hso1 hso2
          have hx2 := tx_size d.text.size (by omega) (by omega)
          have hx3 := tx_size d.kids.length (by omega) (by omega)
          have q1 : ¬ 9223372036854775807 < (tx d.sort).size + 1 := by omega
          have q2 : ¬ 9223372036854775807 < (tx d.sort).size + 1 + (tx d.text.size).size := by omega
          have q3 : ¬ 9223372036854775807 < (tx d.sort).size + 1 + (tx d.text.size).size + 1 := by omega
          have q4 : ¬ 9223372036854775807 < (tx d.sort).size + 1 + (tx d.text.size).size + 1 + d.text.size := by omega
          have q5 : ¬ 9223372036854775807 < (tx d.sort).size + 1 + (tx d.text.size).size + 1 + d.text.size + 1 := by omega
          have q6 : ¬ 9223372036854775807 < (tx d.sort).size + 1 + (tx d.text.size).size + 1 + d.text.size + 1 + (tx d.kids.length).size := by omega
          have hkb := head_size d.sort d.text d.kids.length hx1 hx2 hx3 htxt
          have HKI : Hid ((keysI ns 0)[k]? = some (key0 d)) := (by rw [keysI, List.getElem?_map, hd]; rfl)
          have HCX := Lib.hid hcx
          have HDM : Hid (d ∈ ns) := List.mem_of_getElem? hd
          have HM := Lib.hid hM
          have HX2 := Lib.hid hX
          clear a0 a1 a3 hcx e0 e1 e2 hsrt hd hM hX hTW hBu
          go_wp2_with fail
          go_region_held3 (fun w' => w'.cell? ⟨wr.heap.size, 0, none⟩ = some (.int .i64 d.sort) ∧ w'.cell? ⟨wr.heap.size, 1, none⟩ = some (.string d.text) ∧ w'.cell? ⟨wr.heap.size, 2, none⟩ = some (.slice (some ⟨kb, ko, none⟩) d.kids.length kc))
            (first | exact ⟨n0, n1, n2⟩ | exact KS.out _ (Below.mono (by assumption) (Nat.le_of_lt hWs)) | exact KS.out _ (by assumption) | fail)
            (first | (go_at_call 54; refine (HIT.out _ _ (by omega) (by omega) (by assumption)).mono ?_; rintro e w1 ⟨rfl, hb1⟩) | (go_at_call 53; refine (HWS.out _ _ hkb (by assumption)).mono ?_; rintro e w2 ⟨rfl, hu2, hb2⟩) | fail)
          have hu := Lib.hid (head_cells d ▸ hu2 : Lib.IsBuilderF 87 5 (wr.heap.size + 1) (wr.heap.size + 1) (Lib.byteCells (key0 d)) w2)
          clear q1 q2 q3 q4 q5 q6 hu2 hkb HWS hW0 hx1 hx2 hx3 n0 n1 n2
          have hbt := hb2
          have hbtw : Below wr.heap.size wr w2 := hW.trans (hbt.mono (Nat.le_succ _))
          have hle : wr.heap.size + 1 ≤ w2.heap.size := Nat.le_trans (Nat.le_of_lt hWs) hbt.size
          have HST := Lib.hid (Builder_String_any_f (wr.heap.size + 1) (wr.heap.size + 1) (key0 d) w2 hu.out hle)
          have hkl : ((key0 d)).length ≤ 2000000 := (Nat.le_trans (key_len0 d hso1 hso2 htxt h40) (by decide))
          go_wp2_with fail
          refine HST.out.mono ?_
          rintro e w5 ⟨rfl, hu5, hb5⟩
          have hu5' := Lib.hid hu5
          clear hu5 HST
          have hb5w : Below wr.heap.size wr w5 := hbtw.trans (hb5.mono (Nat.le_succ _))
          have hM5 := HM.out.carry (hb5w.block _ HM.out.lt)
          have hX5 := HX2.out.below hb5w
          have hle5 : wr.heap.size + 1 ≤ w5.heap.size := Nat.le_trans hle hb5.size
          have hol : wo.heap.size ≤ wr.heap.size := hbel2.size
          have hXl := HX2.out.lt
          have hML := HM.out.lt
          obtain ⟨old, ho⟩ : ∃ x, X[k]? = some x := getSome X k (by rw [hXX.out.1]; exact hlt)
          by_cases hin : (key0 d) ∈ firsts ((keysI ns 0).take k)
          · have hlook := hM5.look_in law9 Tryd.underlying84 (skey_of (key0 d) (Nat.le_trans hkl (by decide))) hin
            have c0 := hX5.cell ho
            have f0 := hX5.free k
            have HIN := Lib.hid hin
            have HO := Lib.hid ho
            have HM5 := Lib.hid hM5
            have HX5 := Lib.hid hX5
            clear hin ho hM5 hX5
            go_wp2_with (at_lookup; refine wpList_lookup_run rfl _ _ 84 rfl rfl rfl hlook ?_)
            refine ⟨⟨k + 1, by omega, by go_num, (hbel2.trans (hb5w.mono hol)).setCell (by simp) _, ?_, _, HX5.out.set k _, ?_⟩, by simp [intOf]; omega⟩
            · rw [firsts_take_in HKI.out HIN.out]
              exact HM5.out.carry (Below.heap_setCell _ _ _ _ (by simp))
            · exact row_next hXX.out HKI.out (by rw [firsts_take_in HKI.out HIN.out]) (by rw [keysI_len, HN.out])
          · have hlook := hM5.look_out law9 Tryd.underlying84 (skey_of (key0 d) (Nat.le_trans hkl (by decide))) hin
            have hlen := hM5.len Tryd.underlying84 3
            have HIN := Lib.hid hin
            have HO := Lib.hid ho
            have HM5 := Lib.hid hM5
            have HX5 := Lib.hid hX5
            have HFL : Hid ((firsts ((keysI ns 0).take k)).length ≤ 140737488351232) := Nat.le_trans (firsts_len _) (Nat.le_trans (List.length_take_le _ _) (by omega))
            have HST2 := Lib.hid (Builder_String_any_f (wr.heap.size + 1) (wr.heap.size + 1) (key0 d) w5 hu5'.out hle5)
            clear hin ho hM5 hX5
            generalize hfl : (firsts ((keysI ns 0).take k)).length = fl at *
            have HFE := Lib.hid hfl
            clear hfl
            go_wp2_with (first | (at_lookup; refine wpList_lookup_run rfl _ _ 84 rfl rfl rfl hlook ?_) | (at_len; refine wpList_len_run rfl _ 84 rfl rfl hlen ?_) | (at_mapUpdate; refine wpList_mapUpdate_run rfl _ _ _ 84 rfl rfl rfl rfl hrun7 ?_) | (go_at_call 55; refine HST2.out.mono ?_; rintro e w6 ⟨rfl, hu6, hb6⟩; have hb6w : Below wr.heap.size wr w6 := hb5w.trans (hb6.mono (Nat.le_succ _)); have hM6 := HM.out.carry (hb6w.block _ HM.out.lt); have hX6 := HX2.out.below hb6w; obtain ⟨w7, hrun7, hM7, hgr7⟩ := hM6.store law9 Tryd.underlying84 skey_inj trivial (skey_of (key0 d) (Nat.le_trans hkl (by decide))) (by rw [HFE.out]; exact HFL.out) HIN.out; rw [HFE.out] at hrun7; have hX7 := hX6.carry (hgr7.block _ hX6.lt (by simp)); have c0 := hX7.cell HO.out; have f0 := hX7.free k; have HM7 := Lib.hid hM7; have HX7 := Lib.hid hX7; have HG7 := Lib.hid hgr7; clear hu6 hM6 hX6 hM7 hX7 hgr7))
            refine ⟨⟨k + 1, by omega, by go_num, ((hbel2.trans (hb6w.mono hol)).trans (grown_below HG7.out (fun g hg => by cases hg; exact Nat.le_refl _) (Nat.le_trans hol hb6w.size))).setCell (by simp) _, ?_, _, HX7.out.set k _, ?_⟩, by simp [intOf]; omega⟩
            · rw [firsts_take_new HKI.out HIN.out]
              exact HM7.out.carry (Below.heap_setCell _ _ _ _ (by simp))
            · exact row_next hXX.out HKI.out (by rw [firsts_take_new HKI.out HIN.out, idxOf_new HIN.out, HFE.out]) (by rw [keysI_len, HN.out])

        · have hXe : X = clsI ns 0 := row_all hXX.out hlt (by rw [keysI_len, HN.out])
          have hTK : (keysI ns 0).take k = keysI ns 0 := List.take_of_length_le (by rw [keysI_len, HN.out]; omega)
          rw [hTK] at hM
          rw [hXe] at hX
          have hlen := hM.len Tryd.underlying84 3
          have hcn : (firsts (keysI ns 0)).length = cntI ns 0 := rfl
          rw [hcn] at hlen
          have hcl : cntI ns 0 ≤ n := HN.out ▸ cnt_le HK.out 0
          have HX2 := Lib.hid hX
          have HCL2 := Lib.hid hcl
          clear hXX hXe hTK hcn hM hX
          generalize hcc : cntI ns 0 = cn at *
          have HCC := Lib.hid hcc
          clear hcc
          go_wp2
          refine ⟨⟨1, wo.heap.size + 1, cn, clsI ns 0, rfl, rfl, rfl, hbel.trans (hbel2.mono hbel.size), Nat.le_trans hbel.size (Nat.le_succ _), HX2.out, rfl, HCC.out, by show _ ≤ _; omega, ?_⟩, by simp [intOf]⟩
          show _ ∨ _
          by_cases hn0 : n = 0
          · exact .inr (.inr ⟨hn0, rfl⟩)
          · refine .inr (.inl ?_)
            rw [← HCC.out]
            exact cnt_pos (fun e => hn0 (by rw [← HN.out, e]; rfl)) 0

    · have hrp : (0 : Int) < r := by omega
      have hrpn : 0 < r := by omega
      go_wp2
      go_loopw [26] (fun i wr => ∃ k : Nat, k ≤ n ∧ i = .int .i64 k ∧ Below wo.heap.size wo wr ∧ MapIs 9 skey wr wo.heap.size (firsts ((keysI ns r).take k)) ∧ ∃ X : List Int, Row wr (wo.heap.size + 1) X ∧ Hid (X.length = n ∧ ∀ j, j < k → X[j]? = (clsI ns r)[j]?)) (fun i wr => n - (intOf i).toNat)
      case atStart => exact ⟨0, by omega, rfl, below2 _ _ _, hm2, _, hz, by simp, fun j hj => by omega⟩
      case round =>
        obtain ⟨k, hk, rfl, hbel2, hM, X, hX, hXX⟩ := hrel
        have hk0 : (0 : Int) ≤ k := by omega
        by_cases hlt : k < n
        · obtain ⟨d, hd⟩ := getSome ns k (by rw [HN.out]; exact hlt)
          obtain ⟨a0, a1, a2, kb, ko, kc, a3, hPk, hcx⟩ := HX.out k d hd
          have hbw : Below w.heap.size w wr := hbel.trans (hbel2.mono hbel.size)
          have e0 := (hbw.cell (p := ⟨b, o + k * 3, none⟩) hb).trans a0
          have e1 := (hbw.cell (p := ⟨b, o + k * 3 + 1, none⟩) hb).trans a1
          have e2 := (hbw.cell (p := ⟨b, o + k * 3 + 2, none⟩) hb).trans a3
          have hk1 : (k : Int) < n := by omega
          go_wp2
          have hW := below2 wr (.cells #[.int .i64 d.sort, .string d.text, .slice (some ⟨kb, ko, none⟩) d.kids.length kc] 58) (.cells #[.pointer none, .slice none 0 0] 87)
          have hNB := (Blk.two wr #[.int .i64 d.sort, .string d.text, .slice (some ⟨kb, ko, none⟩) d.kids.length kc] #[.pointer none, .slice none 0 0] 58 87).1
          have hBu := builder_new (wr.alloc (.cells #[.int .i64 d.sort, .string d.text, .slice (some ⟨kb, ko, none⟩) d.kids.length kc] 58))
          have hz1 : (wr.alloc (.cells #[.int .i64 d.sort, .string d.text, .slice (some ⟨kb, ko, none⟩) d.kids.length kc] 58)).heap.size = wr.heap.size + 1 := by simp
          rw [hz1] at hBu
          have hWs : wr.heap.size + 1 < ((wr.alloc (.cells #[.int .i64 d.sort, .string d.text, .slice (some ⟨kb, ko, none⟩) d.kids.length kc] 58)).alloc (.cells #[.pointer none, .slice none 0 0] 87)).heap.size := by simp
          clear hz1
          generalize ((wr.alloc (.cells #[.int .i64 d.sort, .string d.text, .slice (some ⟨kb, ko, none⟩) d.kids.length kc] 58)).alloc (.cells #[.pointer none, .slice none 0 0] 87)) = W at *
          have n0 := hNB.cell0 (o := 0) (v := .int .i64 d.sort) rfl
          have n1 := hNB.cell0 (o := 1) (v := .string d.text) rfl
          have n2 := hNB.cell0 (o := 2) (v := .slice (some ⟨kb, ko, none⟩) d.kids.length kc) rfl
          have hTW : Tab W := HT.out.on (hbw.trans (hW.mono hbw.size))
          have KS := Lib.hid (fun w' (h : Below (wr.heap.size + 1) W w') => (⟨(h.cell (p := ⟨wr.heap.size, 0, none⟩) (Nat.lt_succ_self _)).trans n0, (h.cell (p := ⟨wr.heap.size, 1, none⟩) (Nat.lt_succ_self _)).trans n1, (h.cell (p := ⟨wr.heap.size, 2, none⟩) (Nat.lt_succ_self _)).trans n2⟩ : w'.cell? ⟨wr.heap.size, 0, none⟩ = some (.int .i64 d.sort) ∧ w'.cell? ⟨wr.heap.size, 1, none⟩ = some (.string d.text) ∧ w'.cell? ⟨wr.heap.size, 2, none⟩ = some (.slice (some ⟨kb, ko, none⟩) d.kids.length kc)))
          have HIT := Lib.hid (fun (x : Int) w' (h0 : -9223372036854775808 ≤ x) (h1 : x ≤ 9223372036854775807) (h : Below W.heap.size W w') => (itoa_any x w' h0 h1 (hTW.on h)).mono (fun e w2 h2 => (⟨h2.1, h.trans (h2.2.mono h.size)⟩ : e = .returned (.string (tx x)) ∧ Below W.heap.size W w2)))
          have HWS := Lib.hid (fun (s : ByteArray) w' (hs : s.size ≤ 2000000) (h : Below W.heap.size W w') => (writeString_f (wr.heap.size + 1) (wr.heap.size + 1) [] s w' (builder_below hBu h) (by simp; omega) (Nat.le_trans (Nat.le_of_lt hWs) h.size)).mono (fun e w2 h2 => (⟨h2.1, .inr h2.2.1, (h.mono (Nat.le_of_lt hWs)).trans h2.2.2⟩ : e = .returned (.tuple #[.int .i64 s.size, .nilIface]) ∧ Lib.IsBuilderF 87 5 (wr.heap.size + 1) (wr.heap.size + 1) (Lib.strCells s) w2 ∧ Below (wr.heap.size + 1) W w2)))
          have hW0 : Below W.heap.size W W.drew := (Below.refl _ _).drew
          have hsrt := HSO.out d (List.mem_of_getElem? hd)
          have htxt := HTX.out d (List.mem_of_getElem? hd)
          have h40 := H40.out d (List.mem_of_getElem? hd)
          have hso1 := hsrt.1
          have hso2 := hsrt.2
          have hx1 := tx_size d.sort hso1 hso2
          have hx2 := tx_size d.text.size (by omega) (by omega)
          have hx3 := tx_size d.kids.length (by omega) (by omega)
          have q1 : ¬ 9223372036854775807 < (tx d.sort).size + 1 := by omega
          have q2 : ¬ 9223372036854775807 < (tx d.sort).size + 1 + (tx d.text.size).size := by omega
          have q3 : ¬ 9223372036854775807 < (tx d.sort).size + 1 + (tx d.text.size).size + 1 := by omega
          have q4 : ¬ 9223372036854775807 < (tx d.sort).size + 1 + (tx d.text.size).size + 1 + d.text.size := by omega
          have q5 : ¬ 9223372036854775807 < (tx d.sort).size + 1 + (tx d.text.size).size + 1 + d.text.size + 1 := by omega
          have q6 : ¬ 9223372036854775807 < (tx d.sort).size + 1 + (tx d.text.size).size + 1 + d.text.size + 1 + (tx d.kids.length).size := by omega
          have hkb := head_size d.sort d.text d.kids.length hx1 hx2 hx3 htxt
          have HKI : Hid ((keysI ns r)[k]? = some (keyC C d)) := (by show _ = _; rw [key_at hrpn hd, HCO.out])
          have HCX := Lib.hid hcx
          have HDM : Hid (d ∈ ns) := List.mem_of_getElem? hd
          have HM := Lib.hid hM
          have HX2 := Lib.hid hX
          clear a0 a1 a3 hcx e0 e1 e2 hsrt hd hM hX hTW hBu
          go_wp2_with fail
          go_region_held3 (fun w' => w'.cell? ⟨wr.heap.size, 0, none⟩ = some (.int .i64 d.sort) ∧ w'.cell? ⟨wr.heap.size, 1, none⟩ = some (.string d.text) ∧ w'.cell? ⟨wr.heap.size, 2, none⟩ = some (.slice (some ⟨kb, ko, none⟩) d.kids.length kc))
            (first | exact ⟨n0, n1, n2⟩ | exact KS.out _ (Below.mono (by assumption) (Nat.le_of_lt hWs)) | exact KS.out _ (by assumption) | fail)
            (first | (go_at_call 54; refine (HIT.out _ _ (by omega) (by omega) (by assumption)).mono ?_; rintro e w1 ⟨rfl, hb1⟩) | (go_at_call 53; refine (HWS.out _ _ hkb (by assumption)).mono ?_; rintro e w2 ⟨rfl, hu2, hb2⟩) | fail)
          have hu := Lib.hid (head_cells d ▸ hu2 : Lib.IsBuilderF 87 5 (wr.heap.size + 1) (wr.heap.size + 1) (Lib.byteCells (key0 d)) w2)
          clear q1 q2 q3 q4 q5 q6 hu2 hkb HWS hW0 hx1 hx2 hx3 n0 n1 n2
          have HCB : Hid (∀ x ∈ C, 0 ≤ x ∧ x ≤ 140737488351232) := fun x hx => by have := ofAt_bd ns r x (HCO.out ▸ hx); have h2 := HN.out; omega
          have HCL : Hid (C.length = ns.length) := by have := ofAt_len ns r; rwa [HCO.out] at this
          have n2 := (KS.out _ hb2).2.2
          go_wp2
          generalize wr = wi at *
          go_loopw [56] (fun i w3 => ∃ j : Nat, j ≤ d.kids.length ∧ i = .int .i64 j ∧ Below (wi.heap.size + 1) W w3 ∧ Hid (Lib.IsBuilderF 87 5 (wi.heap.size + 1) (wi.heap.size + 1) (Lib.byteCells (key0 d ++ kidKey C (d.kids.take j))) w3)) (fun i w3 => d.kids.length - (intOf i).toNat)
          case atStart => exact ⟨0, by omega, rfl, hb2, by simpa [Hid, kidKey] using hu.out⟩
          case round =>
            obtain ⟨j, hj, rfl, hbt, hu3⟩ := hrel
            have hj0 : (0 : Int) ≤ j := by omega
            have hwi : Below w.heap.size w wr := hbw.trans ((hW.trans (hbt.mono (Nat.le_succ _))).mono hbw.size)
            have hwo : Below wo.heap.size wo wr := hbel2.trans ((hW.trans (hbt.mono (Nat.le_succ _))).mono hbel2.size)
            by_cases hlj : j < d.kids.length
            · have hj1 : (j : Int) < d.kids.length := by omega
              obtain ⟨x, hxj⟩ := getSome d.kids j hlj
              have hxin := HK.out d HDM.out x (List.mem_of_getElem? hxj)
              rw [← HCL.out] at hxin
              obtain ⟨t1, t2, t3, t4⟩ := gat_some hxin
              have HXJ := Lib.hid hxj
              have cx := (hwi.cell (p := ⟨kb, ko + j, none⟩) (HP.out kb hPk)).trans (HCX.out j x hxj)
              have cg := (hwo.cell (p := ⟨gb, x.toNat, none⟩) hgl).trans (hC.cell t1)
              have hgx := HCB.out _ (List.mem_of_getElem? t1)
              have hsn : Hid (kidKey C (d.kids.take (j + 1)) = kidKey C (d.kids.take j) ++ 32 :: Lib.itoa (gat C x)) := by
                show _ = _
                rw [take_snoc' d.kids j x hxj, kidKey_snoc]
              generalize gat C x = gx at *
              rw [HCL.out, HN.out] at t3
              generalize x.toNat = xn at *
              subst t4
              have hxn : (xn : Int) < n := by omega
              have hgx1 : -9223372036854775808 ≤ gx := by omega
              have hgx2 : gx ≤ 9223372036854775807 := by omega
              have hts := tx_size gx hgx1 hgx2
              have q1 : ¬ 9223372036854775807 < 1 + (tx gx).size := by omega
              have HI3 : Hid (Calls Tryd.prog 54 #[.int .i64 gx] wr fun e w' => e = .returned (.string (tx gx)) ∧ Below wr.heap.size wr w') := itoa_any gx wr hgx1 hgx2 (HT.out.on hwi)
              have hle3 : wi.heap.size + 1 ≤ wr.heap.size := Nat.le_trans (Nat.le_of_lt hWs) hbt.size
              have hkl3 : (Lib.byteCells (key0 d ++ kidKey C (d.kids.take j))).length ≤ 2001000 := by
                have h1 := kidKey_len C HCB.out (d.kids.take j)
                have h2 := key_len0 d hso1 hso2 htxt h40
                rw [List.length_take] at h1
                rw [Lib.byteCells_length, List.length_append]
                omega
              have hs3 : (⟨#[32]⟩ ++ tx gx : ByteArray).size ≤ 22 := by
                rw [ByteArray.size_append]
                have : (⟨#[32]⟩ : ByteArray).size = 1 := rfl
                omega
              have HW3 := Lib.hid (fun w4 (h : Below wr.heap.size wr w4) => writeString_f (wi.heap.size + 1) (wi.heap.size + 1) (Lib.byteCells (key0 d ++ kidKey C (d.kids.take j))) (⟨#[32]⟩ ++ tx gx) w4 (builder_below hu3.out h) (by omega) (Nat.le_trans hle3 h.size))
              clear hxj hxin t1 hts hs3 hkl3
              go_wp2_with (first | (go_at_call 54; refine HI3.out.mono ?_; rintro e w4 ⟨rfl, hb4⟩) | (go_at_call 53; refine (HW3.out _ hb4).mono ?_; rintro e w5 ⟨rfl, hu5, hb5⟩))
              refine ⟨⟨j + 1, by omega, by go_num, (hbt.trans (hb4.mono hle3)).trans hb5, ?_⟩, by simp [intOf]; omega⟩
              show Lib.IsBuilderF _ _ _ _ _ _
              rw [hsn.out, ← List.append_assoc, ← blank_cells]
              exact .inr hu5
            · have hjk : j = d.kids.length := by omega
              have hu : Hid (Lib.IsBuilderF 87 5 (wi.heap.size + 1) (wi.heap.size + 1) (Lib.byteCells (keyC C d)) wr) := by
                have := hu3.out
                rwa [List.take_of_length_le (by omega)] at this
              clear hjk hu3
              have hbtw : Below wi.heap.size wi wr := hW.trans (hbt.mono (Nat.le_succ _))
              have hle : wi.heap.size + 1 ≤ wr.heap.size := Nat.le_trans (Nat.le_of_lt hWs) hbt.size
              have HST := Lib.hid (Builder_String_any_f (wi.heap.size + 1) (wi.heap.size + 1) (keyC C d) wr hu.out hle)
              have hkl : ((keyC C d)).length ≤ 2000000 := (by have h1 := kidKey_len C HCB.out d.kids; have h2 := key_len0 d hso1 hso2 htxt h40; unfold keyC; rw [List.length_append]; omega)
              go_wp2_with fail
              refine HST.out.mono ?_
              rintro e w5 ⟨rfl, hu5, hb5⟩
              have hu5' := Lib.hid hu5
              clear hu5 HST
              have hb5w : Below wi.heap.size wi w5 := hbtw.trans (hb5.mono (Nat.le_succ _))
              have hM5 := HM.out.carry (hb5w.block _ HM.out.lt)
              have hX5 := HX2.out.below hb5w
              have hle5 : wi.heap.size + 1 ≤ w5.heap.size := Nat.le_trans hle hb5.size
              have hol : wo.heap.size ≤ wi.heap.size := hbel2.size
              have hXl := HX2.out.lt
              have hML := HM.out.lt
              obtain ⟨old, ho⟩ : ∃ x, X[k]? = some x := getSome X k (by rw [hXX.out.1]; exact hlt)
              by_cases hin : (keyC C d) ∈ firsts ((keysI ns r).take k)
              · have hlook := hM5.look_in law9 Tryd.underlying84 (skey_of (keyC C d) (Nat.le_trans hkl (by decide))) hin
                have c0 := hX5.cell ho
                have f0 := hX5.free k
                have HIN := Lib.hid hin
                have HO := Lib.hid ho
                have HM5 := Lib.hid hM5
                have HX5 := Lib.hid hX5
                clear hin ho hM5 hX5
                go_wp2_with (at_lookup; refine wpList_lookup_run rfl _ _ 84 rfl rfl rfl hlook ?_)
                refine ⟨⟨k + 1, by omega, by go_num, (hbel2.trans (hb5w.mono hol)).setCell (by simp) _, ?_, _, HX5.out.set k _, ?_⟩, by simp [intOf]; omega⟩
                · rw [firsts_take_in HKI.out HIN.out]
                  exact HM5.out.carry (Below.heap_setCell _ _ _ _ (by simp))
                · exact row_next hXX.out HKI.out (by rw [firsts_take_in HKI.out HIN.out]) (by rw [keysI_len, HN.out])
              · have hlook := hM5.look_out law9 Tryd.underlying84 (skey_of (keyC C d) (Nat.le_trans hkl (by decide))) hin
                have hlen := hM5.len Tryd.underlying84 3
                have HIN := Lib.hid hin
                have HO := Lib.hid ho
                have HM5 := Lib.hid hM5
                have HX5 := Lib.hid hX5
                have HFL : Hid ((firsts ((keysI ns r).take k)).length ≤ 140737488351232) := Nat.le_trans (firsts_len _) (Nat.le_trans (List.length_take_le _ _) (by omega))
                have HST2 := Lib.hid (Builder_String_any_f (wi.heap.size + 1) (wi.heap.size + 1) (keyC C d) w5 hu5'.out hle5)
                clear hin ho hM5 hX5
                generalize hfl : (firsts ((keysI ns r).take k)).length = fl at *
                have HFE := Lib.hid hfl
                clear hfl
                go_wp2_with (first | (at_lookup; refine wpList_lookup_run rfl _ _ 84 rfl rfl rfl hlook ?_) | (at_len; refine wpList_len_run rfl _ 84 rfl rfl hlen ?_) | (at_mapUpdate; refine wpList_mapUpdate_run rfl _ _ _ 84 rfl rfl rfl rfl hrun7 ?_) | (go_at_call 55; refine HST2.out.mono ?_; rintro e w6 ⟨rfl, hu6, hb6⟩; have hb6w : Below wi.heap.size wi w6 := hb5w.trans (hb6.mono (Nat.le_succ _)); have hM6 := HM.out.carry (hb6w.block _ HM.out.lt); have hX6 := HX2.out.below hb6w; obtain ⟨w7, hrun7, hM7, hgr7⟩ := hM6.store law9 Tryd.underlying84 skey_inj trivial (skey_of (keyC C d) (Nat.le_trans hkl (by decide))) (by rw [HFE.out]; exact HFL.out) HIN.out; rw [HFE.out] at hrun7; have hX7 := hX6.carry (hgr7.block _ hX6.lt (by simp)); have c0 := hX7.cell HO.out; have f0 := hX7.free k; have HM7 := Lib.hid hM7; have HX7 := Lib.hid hX7; have HG7 := Lib.hid hgr7; clear hu6 hM6 hX6 hM7 hX7 hgr7))
                refine ⟨⟨k + 1, by omega, by go_num, ((hbel2.trans (hb6w.mono hol)).trans (grown_below HG7.out (fun g hg => by cases hg; exact Nat.le_refl _) (Nat.le_trans hol hb6w.size))).setCell (by simp) _, ?_, _, HX7.out.set k _, ?_⟩, by simp [intOf]; omega⟩
                · rw [firsts_take_new HKI.out HIN.out]
                  exact HM7.out.carry (Below.heap_setCell _ _ _ _ (by simp))
                · exact row_next hXX.out HKI.out (by rw [firsts_take_new HKI.out HIN.out, idxOf_new HIN.out, HFE.out]) (by rw [keysI_len, HN.out])

        · have hXe : X = clsI ns r := row_all hXX.out hlt (by rw [keysI_len, HN.out])
          have hTK : (keysI ns r).take k = keysI ns r := List.take_of_length_le (by rw [keysI_len, HN.out]; omega)
          rw [hTK] at hM
          rw [hXe] at hX
          have hlen := hM.len Tryd.underlying84 3
          have hcn : (firsts (keysI ns r)).length = cntI ns r := rfl
          rw [hcn] at hlen
          have hcl : cntI ns r ≤ n := HN.out ▸ cnt_le HK.out r
          have HX2 := Lib.hid hX
          have HCL2 := Lib.hid hcl
          clear hXX hXe hTK hcn hM hX
          have hr2' : Hid (r = 0 ∨ r ≤ ct ∨ ns.length = 0 ∧ r = 1) := HN.out.symm ▸ hr2.out
          have hrn := hr1.out
          by_cases hec : cntI ns r = ct
          · have HPT := Lib.hid (parts_at HK.out hrpn HCT.out hec hr2'.out)
            rw [hec] at hlen
            clear hec
            go_wp2
            go_ret
            refine ⟨wo.heap.size + 1, clsI ns r, by rw [HN.out]; rfl, hbel.trans (hbel2.mono hbel.size), Nat.le_trans hbel.size (Nat.le_succ _), HX2.out, HPT.out, cls_nonneg (by rw [HN.out]; omega)⟩
          · have HON := Lib.hid (on_at HK.out hrpn HCT.out hec hr2'.out)
            generalize hcc : cntI ns r = cn at *
            have hec2 : ¬ (cn : Int) = ct := by omega
            have hq1 : ((cn : Int) == ct) = false := by simpa using hec2
            have hq2 : (cn == ct) = false := by simpa using hec
            have HCC := Lib.hid hcc
            clear hcc
            go_wp2
            have hon := HON.out
            have hnn := HN.out
            refine ⟨⟨r + 1, wo.heap.size + 1, cn, clsI ns r, by go_num, rfl, rfl, hbel.trans (hbel2.mono hbel.size), Nat.le_trans hbel.size (Nat.le_succ _), HX2.out, rfl, HCC.out, by show _ ≤ _; omega, .inr (.inl hon.1)⟩, by simp [intOf]; omega⟩

end Go.Proofs.YtjpkmcaogekkdaaDoor.Rm
