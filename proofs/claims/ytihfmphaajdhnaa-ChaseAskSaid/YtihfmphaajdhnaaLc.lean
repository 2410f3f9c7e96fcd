import Derived.Test.YtihfmphaajdhnaaPBase
import Derived.WalkKit
import Derived.ProofKit
import Derived.OpenShut
import Derived.ChangeOld
import Derived.Below
import Derived.SizedLaws
import Derived.Deep.Matrix
import Derived.Lib.SmallJoins
/-! A chase that comes in, as a law reads it. -/
namespace Go.Proofs.Ytihfmphaajdhnaa.P
open Go.ChangeShapes Go.WideShapes Go.ChangeAt Go.RowKit Go.Joins Go.Deep Go.Proofs.YtihfmphaajdhnaaW.PrintWords Go.Proofs.YtihfmphaajdhnaaW.PrintLast Go.Proofs.YtihfmphaajdhnaaW.PrintMore
set_option linter.unusedVariables false
set_option maxRecDepth 100000 in
theorem open_chase {H : Type} {enc : TypeId × Value → H} {W : World} {base : Nat} {v : Value} {d : DataW H} {p : List MemPlace}
    (hv : Value.okWide Try.prog W .any base 32 v) (h : DataW.Trod enc Try.prog W 0 (fun _ => true) true 32 v d p) :
    ∃ (e f : Int) (A : Option Addr) (c : Nat) (ps : List (List Int)), v = .agg #[.int .i64 e, .int .i64 f, .slice A ps.length c] ∧ Kd.C (Kd.slice 3 (Kd.int .i64)) W A ps.length ps ∧ ps.length ≤ c ∧ (Lit.int .i64 e).wf = true ∧ (Lit.int .i64 f).wf = true ∧
      ∀ l ∈ ps, ∀ n ∈ l, (Lit.int .i64 n).wf = true := by
  obtain ⟨v0, v1, v2, y0, y1, y2, m, rfl, rfl, rfl, h0, h1, h2⟩ := open_agg3 Try.underlying32 (by kernel_rfl) (by kernel_rfl) hv h
  obtain ⟨e, he, _, hwe⟩ := DataW.trod_int Try.underlying3 h0
  obtain ⟨f, hf, _, hwf⟩ := DataW.trod_int Try.underlying3 h1
  simp only [List.cons.injEq, and_true] at he hf
  subst he hf
  rcases open_int_rows Try.underlying30 Try.underlying40 Try.underlying3 (by kernel_rfl) (by kernel_rfl) h2 with ⟨hc, _⟩ | ⟨a, len, cap, A, L, C, Z, hc, _, hl, hm, _, hr⟩
  · simp only [List.cons.injEq, and_true] at hc
    subst hc
    exact ⟨e, f, none, 0, [], rfl, ⟨rfl, by simp, fun h => absurd h (by decide)⟩, Nat.le_refl _, hwe, hwf, fun l hl => by cases hl⟩
  · simp only [List.cons.injEq, and_true] at hc
    subst hc
    refine ⟨e, f, some a, cap, (List.range len).map fun r => (Z r).take (L r), by simp, ⟨rfl, by simp; unfold maxLen at hm; omega, fun _ => ⟨a, rfl, fun j pj hj => ?_⟩⟩, by simpa using hl, hwe, hwf, ?_⟩
    · obtain ⟨hj1, hj2⟩ := List.getElem?_eq_some_iff.1 hj
      have hj3 : j < len := by simpa using hj1
      obtain ⟨c1, c2, c3, c4, c5, c6, c7⟩ := hr j (by omega)
      have hp : pj = (Z j).take (L j) := by rw [← hj2]; simp
      subst hp
      have hlen : ((Z j).take (L j)).length = L j := by rw [List.length_take]; omega
      refine ⟨[.slice (A j) (L j) (C j)], rfl, ⟨A j, C j, by rw [hlen], by rw [hlen]; exact c2, ⟨rfl, by rw [hlen]; unfold maxLen at c3; omega, fun hpos => ?_⟩⟩, fun i u hu => ?_⟩
      · rw [hlen] at hpos
        cases hA : A j with
        | none => have := c6 hA; omega
        | some a' =>
          obtain ⟨_, hcell⟩ := c7 a' hA
          refine ⟨a', rfl, fun i q hq => ?_⟩
          obtain ⟨hq1, hq2⟩ := List.getElem?_eq_some_iff.1 hq
          rw [hlen] at hq1
          refine ⟨[.int .i64 q], rfl, rfl, fun k u hu => ?_⟩
          have hk : k = 0 := by
            have := (List.getElem?_eq_some_iff.1 hu).1
            simp at this; omega
          subst hk
          simp only [List.getElem?_cons_zero, Option.some.injEq] at hu
          subst hu
          have hz := hcell i (by omega)
          show W.cell? (a'.add (i * 1 + 0)) = _
          rw [Nat.mul_one, Nat.add_zero, hz, ← hq2]
          simp [List.getD_eq_getElem?_getD, List.getElem?_eq_getElem (show i < (Z j).length by omega)]
      · have hi : i = 0 := by
          have := (List.getElem?_eq_some_iff.1 hu).1
          simp at this; omega
        subst hi
        simp only [List.getElem?_cons_zero, Option.some.injEq] at hu
        subst hu
        show W.cell? (a.add (j * 1 + 0)) = _
        rw [Nat.mul_one, Nat.add_zero]
        exact c1
    · intro l hl n hn
      obtain ⟨r, hr', rfl⟩ := List.mem_map.1 hl
      have hr3 := List.mem_range.1 hr'
      exact (hr r (by omega)).2.2.2.2.1 n (List.mem_of_mem_take hn)
end Go.Proofs.Ytihfmphaajdhnaa.P
