/- The way in and out of a node in the reference's writer, walked. -/
import Derived.Test.YtjpkmcaogekkdaaDoorWrE
import Derived.StillTailTactics
namespace Go.Proofs.YtjpkmcaogekkdaaDoor.Wr
open Go.RowKit Go.Proofs.YtjpkmcaogekkdaaDoor.Rm Go.Proofs.YtjpkmcaogekkdaaDoor.Nu Go.Proofs.YtjpkmcaogekkdaaDoor.Gr
set_option linter.unusedVariables false
set_option linter.unusedSimpArgs false

theorem FrW.of_blk {w w' : World} {b : Nat} {v0 v1 av mv v4 v5 v6 u0 u1 av' mv' u4 u5 u6 : Value} (hB : Blk w b #[v0, v1, av, mv, v4, v5, v6] 124) (hB' : Blk w' b #[u0, u1, av', mv', u4, u5, u6] 124)
    (hos : w'.os = w.os) (htape : w'.tape = w.tape) (hout : w'.output = w.output) (hsz : w.heap.size ≤ w'.heap.size)
    (hkeep : ∀ g, g < w.heap.size → g ≠ b → av.ownBlock ≠ some g → mv.ownBlock ≠ some g → w'.heap[g]? = w.heap[g]?)
    (ha : ∀ g, g < w.heap.size → av'.ownBlock = some g → av.ownBlock = some g) (hm : ∀ g, g < w.heap.size → mv'.ownBlock = some g → mv.ownBlock = some g) : FrW b w w' :=
  ⟨hos, htape, hout, hsz, fun g hg hne ho => by
    have h1 : ¬ (av.ownBlock = some g ∨ mv.ownBlock = some g) := fun h => ho ((own_iff hB).2 h)
    refine ⟨hkeep g hg hne (fun h => h1 (.inl h)) (fun h => h1 (.inr h)), fun h => ?_⟩
    rcases (own_iff hB').1 h with h2 | h2
    · exact h1 (.inl (ha g hg h2))
    · exact h1 (.inr (hm g hg h2))⟩

/-- a row without its last -/
theorem OwnRow.pop {w : World} {lo : Nat} {aa : Option Addr} {ac : Nat} {xs : List Int} {x : Int} (h : OwnRow w lo (.slice aa (xs ++ [x]).length ac) (xs ++ [x])) : OwnRow w lo (.slice aa xs.length ac) xs ∧ xs.length < ac ∧ ∃ g, aa = some ⟨g, 0, none⟩ := by
  obtain ⟨h1, ⟨h2, h3⟩ | ⟨g, cap, cur, he, hb, hg, hc, hmx, hs, ht⟩⟩ := h
  · simp at h3
  · injection he with e1 e2 e3
    subst e1 e3
    have hlen : (xs ++ [x]).length = xs.length + 1 := by simp
    rw [hlen] at hc ht
    refine ⟨⟨by simp [icells], .inr ⟨g, ac, cur, rfl, hb, hg, by omega, hmx, hs, ?_⟩⟩, by omega, g, rfl⟩
    have h4 := congrArg (List.take (xs.length * 1)) ht
    rw [List.take_take, Nat.min_eq_left (by omega)] at h4
    rw [h4, icells, icells, List.map_append, Nat.mul_one, List.take_left' (by simp)]

set_option maxHeartbeats 2000000 in
set_option maxRecDepth 100000 in
theorem leave_any (w : World) (b : Nat) (nv : Value) (A M : List Int) (x m : Int) (cnt : Int) (out : ByteArray) (ov : Bool) (h : Wt w b nv (A ++ [x]) (M ++ [m]) cnt out ov) :
    Calls Tryd.prog 99 #[.pointer (some ⟨b, 0, none⟩)] w (Done b nv A M w) := by
  obtain ⟨av, mv, hB, hA, hM, hne, hl, ho, hc, hm, hA1⟩ := h
  obtain ⟨aa, ac, rfl, _⟩ := hA.shape
  obtain ⟨ma, mc, rfl, _⟩ := hM.shape
  obtain ⟨hA2, hac, ga, rfl⟩ := OwnRow.pop hA
  obtain ⟨hM2, hmc, gm, rfl⟩ := OwnRow.pop hM
  have hlA : (A ++ [x]).length = A.length + 1 := by simp
  have hlM : (M ++ [m]).length = M.length + 1 := by simp
  rw [hlA, hlM] at hB
  rw [hlA, hlM] at hl
  have c2 := hB.drew.cell0 (o := 2) (v := .slice (some ⟨ga, 0, none⟩) (A.length + 1) ac) rfl
  have c3 := hB.cell0 (o := 3) (v := .slice (some ⟨gm, 0, none⟩) (M.length + 1) mc) rfl
  have f2 := hB.drew.free 2
  have f3 := hB.free 3
  have hb := hB.lt
  go_enter Tryd.func99, Tryd.ntmps99
  go_wp2_with fail
  have c2w := hB.cell0 (o := 2) (v := .slice (some ⟨ga, 0, none⟩) (A.length + 1) ac) rfl
  have f2w := hB.free 2
  have hn1 : IntKind.i64.wrap (((A.length + 1 : Nat) : Int) - 1) = A.length := by rw [i64_w]; unfold wrap64; omega
  have hn0 : (0 : Int) ≤ A.length := by omega
  have hn2 : (A.length : Int) ≤ ac := by omega
  go_region
  have hB2 : Blk (w.setCell ⟨b, 2, none⟩ (.slice (some ⟨ga, 0, none⟩) A.length ac)).drew b #[nv, .bool false, .slice (some ⟨ga, 0, none⟩) A.length ac, .slice (some ⟨gm, 0, none⟩) (M.length + 1) mc, .int .i64 cnt, .string out, .bool ov] 124 := (hB.set 2 _).drew
  have hF2 : FrW b w (w.setCell ⟨b, 2, none⟩ (.slice (some ⟨ga, 0, none⟩) A.length ac)).drew :=
    FrW.of_blk hB hB2 rfl rfl rfl (by simp) (fun g hg hne _ _ => Below.heap_setCell _ _ _ _ hne) (fun g _ h => h) (fun g _ h => h)
  have hA3 : OwnRow (w.setCell ⟨b, 2, none⟩ (.slice (some ⟨ga, 0, none⟩) A.length ac)).drew (b + 1) (.slice (some ⟨ga, 0, none⟩) A.length ac) A := OwnRow.farB hA2 2 _
  have hM3 : OwnRow (w.setCell ⟨b, 2, none⟩ (.slice (some ⟨ga, 0, none⟩) A.length ac)).drew (b + 1) (.slice (some ⟨gm, 0, none⟩) M.length mc) M := OwnRow.farB hM2 2 _
  clear c2 c3 f2 f3 c2w f2w hn1 hn0 hn2 hA hM hA2 hM2
  generalize (w.setCell ⟨b, 2, none⟩ (.slice (some ⟨ga, 0, none⟩) A.length ac)).drew = w2 at *
  have c3 := hB2.drew.cell0 (o := 3) (v := .slice (some ⟨gm, 0, none⟩) (M.length + 1) mc) rfl
  have f3 := hB2.drew.free 3
  have c3w := hB2.cell0 (o := 3) (v := .slice (some ⟨gm, 0, none⟩) (M.length + 1) mc) rfl
  have f3w := hB2.free 3
  have hb2 := hB2.lt
  have hn1 : IntKind.i64.wrap (((M.length + 1 : Nat) : Int) - 1) = M.length := by rw [i64_w]; unfold wrap64; omega
  have hn0 : (0 : Int) ≤ M.length := by omega
  have hn2 : (M.length : Int) ≤ mc := by omega
  go_wp2_with fail
  go_region
  go_wp2
  go_end0
  have hml : M.length = A.length := by omega
  rw [← hml]
  have hB3 : Blk (w2.setCell ⟨b, 3, none⟩ (.slice (some ⟨gm, 0, none⟩) M.length mc)).drew b #[nv, .bool false, .slice (some ⟨ga, 0, none⟩) A.length ac, .slice (some ⟨gm, 0, none⟩) M.length mc, .int .i64 cnt, .string out, .bool ov] 124 := (hB2.set 3 _).drew
  refine ⟨cnt, out, ov, rfl, ⟨_, _, hB3, OwnRow.farB hA3 3 _, OwnRow.farB hM3 3 _, hne, by omega, ho, hc, fun y hy => hm y (List.mem_append.2 (.inl hy)), by simp at hA1; omega⟩, hF2.trans ?_⟩
  exact FrW.of_blk hB2 hB3 rfl rfl rfl (by simp) (fun g hg hne' _ _ => Below.heap_setCell _ _ _ _ hne') (fun g _ h => h) (fun g _ h => h)
end Go.Proofs.YtjpkmcaogekkdaaDoor.Wr
