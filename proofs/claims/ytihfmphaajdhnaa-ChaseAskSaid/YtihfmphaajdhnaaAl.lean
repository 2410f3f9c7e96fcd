import Derived.Test.YtihfmphaajdhnaaA3
/-! alive: results that the document fixes. -/
namespace Go.Proofs.Ytihfmphaajdhnaa.P
open Go.RowKit
set_option linter.unusedVariables false
def insZ (x : Int) : List Int → List Int
  | [] => [x]
  | y :: r => if x ≤ y then x :: y :: r else y :: insZ x r
def sortJ (l : List Int) : List Int := l.foldr insZ []
theorem insZ_perm (x : Int) : ∀ l, (insZ x l).Perm (x :: l)
  | [] => List.Perm.refl _
  | y :: r => by
    unfold insZ
    split
    · exact List.Perm.refl _
    · exact ((insZ_perm x r).cons y).trans (List.Perm.swap x y r)
theorem insZ_sorted (x : Int) : ∀ l : List Int, l.Pairwise (· ≤ ·) → (insZ x l).Pairwise (· ≤ ·)
  | [], _ => by simp [insZ]
  | y :: r, h => by
    obtain ⟨h1, h2⟩ := List.pairwise_cons.1 h
    unfold insZ
    split
    · refine List.pairwise_cons.2 ⟨fun z hz => ?_, h⟩
      rcases List.mem_cons.1 hz with rfl | hz
      · assumption
      · have := h1 z hz; omega
    · refine List.pairwise_cons.2 ⟨fun z hz => ?_, insZ_sorted x r h2⟩
      rcases List.mem_cons.1 ((insZ_perm x r).mem_iff.1 hz) with rfl | hz
      · omega
      · exact h1 z hz
theorem sortJ_perm : ∀ l, (sortJ l).Perm l
  | [] => List.Perm.refl _
  | x :: l => (insZ_perm x (sortJ l)).trans ((sortJ_perm l).cons x)
theorem sortJ_sorted : ∀ l, (sortJ l).Pairwise (· ≤ ·)
  | [] => List.Pairwise.nil
  | x :: l => insZ_sorted x _ (sortJ_sorted l)
theorem sortI_J (l : List Int) : sortI l = sortJ l := by
  have h := List.pairwise_mergeSort (le := fun x y : Int => decide (x ≤ y)) (fun a b c h1 h2 => by simp at *; omega) (fun a b => by simp; omega) l
  exact ((List.mergeSort_perm l _).trans (sortJ_perm l).symm).eq_of_pairwise (fun a b _ _ h1 h2 => by omega) (h.imp fun h => by simpa using h) (sortJ_sorted l)
theorem cut_val : chase_Cut.f 1 2 [[50, 51], [52], [53, 54], [51]] = some (50, 52, 0) := by
  unfold chase_Cut.f
  rw [sortI_J, sortI_J]
  decide +kernel
theorem alive_true : A.lapworkslaw07_alive.f 9 = some true := by
  unfold A.lapworkslaw07_alive.f
  simp only [show lapworkslaw07_sample.f = some (1, 2, [[50, 51], [52], [53, 54], [51]]) from rfl, Option.bind_some, cut_val]
  decide +kernel
def lapworkslaw07_alive.f : Option Bool := some true
theorem lapworkslaw07_alive.calls (r : Bool) (w : World) (h : lapworkslaw07_alive.f = some r) :
    Calls Try.prog 19 #[] w fun e w' => e = .returned (.bool r) ∧ Below w.heap.size w w' := by
  have h : true = r := Option.some.inj h
  subst h
  exact A.lapworkslaw07_alive.calls 9 true w rfl alive_true
end Go.Proofs.Ytihfmphaajdhnaa.P
