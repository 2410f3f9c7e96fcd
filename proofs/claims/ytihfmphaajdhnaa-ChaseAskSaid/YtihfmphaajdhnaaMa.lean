import Derived.Test.YtihfmphaajdhnaaPBase
import Derived.WalkSpells
import Derived.WalkLawsBesides
import Derived.Recover
import Derived.WideLaws
import Derived.LaidEql
import Derived.Outline
import Derived.Deep.RegionWith
import Derived.Lib.Hide
/-! Package chase in plain Lean: what is valid, the clocks. -/
namespace Go.Proofs.Ytihfmphaajdhnaa.P
open Go.RowKit Go.Proofs.YtihfmphaajdhnaaW.PrintWords Go.Proofs.YtihfmphaajdhnaaW.PrintLast Go.Proofs.YtihfmphaajdhnaaW.PrintMore
set_option linter.unusedVariables false
set_option linter.unusedSimpArgs false

def okN (n : Int) : Bool := decide (0 ≤ n) && decide (n ≤ 200)
def okL (l : List Int) : Bool := decide (1 ≤ l.length) && decide (l.length ≤ 3) && l.all okN
def okH (e f : Int) (n : Nat) : Bool := decide (0 ≤ e) && decide (e ≤ 3) && decide (1 ≤ n) && decide (n ≤ 6) && decide (1 ≤ f) && decide (f ≤ n)
/-- Is a chase valid? -/
def vld (e f : Int) (ps : List (List Int)) : Bool := okH e f ps.length && ps.all okL
def nar (e : Int) (k : Int × Int) (n : Int) : Int × Int := (mx k.1 (n - e), mn k.2 (n + e))
/-- A pair's clock by its watches. -/
def clk (e : Int) (l : List Int) : Int × Int := l.foldl (nar e) (0, 203)
def mkc (e : Int) (l : List Int) (i : Nat) : S65 := ⟨⟨(clk e l).1, (clk e l).2⟩, (i : Int)⟩
def clks (e : Int) (ps : List (List Int)) : List S65 := ps.zipIdx.map fun x => mkc e x.1 x.2
theorem clks_len (e : Int) (ps : List (List Int)) : (clks e ps).length = ps.length := by simp [clks]
theorem clks_take (e : Int) (ps : List (List Int)) (k : Nat) (h : k < ps.length) : clks e (ps.take (k + 1)) = clks e (ps.take k) ++ [mkc e (ps.getD k []) k] := by
  rw [List.take_succ_eq_append_getElem h, clks, List.zipIdx_append]
  simp [clks, List.getElem?_eq_getElem h, Nat.min_eq_left (Nat.le_of_lt h)]
theorem clk_take (e : Int) (l : List Int) (k : Nat) (h : k < l.length) : clk e (l.take (k + 1)) = nar e (clk e (l.take k)) (l.getD k 0) := by
  rw [List.take_succ_eq_append_getElem h, clk, List.foldl_append]
  simp [clk, List.getElem?_eq_getElem h]
theorem clk_bd (e : Int) (he : 0 ≤ e) (he3 : e ≤ 3) (l : List Int) (h : ∀ n ∈ l, 0 ≤ n ∧ n ≤ 200) : 0 ≤ (clk e l).1 ∧ (clk e l).1 ≤ 203 ∧ -3 ≤ (clk e l).2 ∧ (clk e l).2 ≤ 203 := by
  have key : ∀ (l : List Int) (k : Int × Int), (0 ≤ k.1 ∧ k.1 ≤ 203 ∧ -3 ≤ k.2 ∧ k.2 ≤ 203) → (∀ n ∈ l, 0 ≤ n ∧ n ≤ 200) → 0 ≤ (l.foldl (nar e) k).1 ∧ (l.foldl (nar e) k).1 ≤ 203 ∧ -3 ≤ (l.foldl (nar e) k).2 ∧ (l.foldl (nar e) k).2 ≤ 203 := by
    intro l
    induction l with
    | nil => intro k hk _; exact hk
    | cons n l ih =>
      intro k hk hn
      have h0 := hn n (by simp)
      refine ih _ ?_ (fun m hm => hn m (by simp [hm]))
      unfold nar mx mn
      simp only
      refine ⟨?_, ?_, ?_, ?_⟩ <;> split <;> omega
  exact key l _ (by simp) h
/-- Pairs that are valid so far, and what refuses. -/
theorem vld_head {e f : Int} {ps : List (List Int)} (h : okH e f ps.length = true) : 0 ≤ e ∧ e ≤ 3 ∧ 1 ≤ ps.length ∧ ps.length ≤ 6 ∧ 1 ≤ f ∧ f ≤ ps.length := by
  simpa [okH, and_assoc] using h
theorem okL_iff (l : List Int) : okL l = true ↔ 1 ≤ l.length ∧ l.length ≤ 3 ∧ ∀ n ∈ l, 0 ≤ n ∧ n ≤ 200 := by
  simp [okL, okN, and_assoc]
theorem not_vld_at {e f : Int} {ps : List (List Int)} (k : Nat) (hk : k < ps.length) (h : okL (ps.getD k []) = false) : vld e f ps = false := by
  unfold vld
  rw [Bool.and_eq_false_iff]
  right
  rw [List.all_eq_false]
  refine ⟨ps[k], List.getElem_mem hk, ?_⟩
  rw [List.getD_eq_getElem?_getD, List.getElem?_eq_getElem hk] at h
  simpa using h
theorem vld_all {e f : Int} {ps : List (List Int)} (hh : okH e f ps.length = true) (h : ∀ j, j < ps.length → okL (ps.getD j []) = true) : vld e f ps = true := by
  unfold vld
  rw [hh, Bool.true_and, List.all_eq_true]
  intro l hl
  obtain ⟨j, hj, rfl⟩ := List.getElem_of_mem hl
  have := h j hj
  rwa [List.getD_eq_getElem?_getD, List.getElem?_eq_getElem hj] at this
end Go.Proofs.Ytihfmphaajdhnaa.P
/-! Hand-made contracts of package chase, first part: refusals, their recovery. -/
namespace Go.Proofs.Ytihfmphaajdhnaa.P
open Go.RowKit Go.Proofs.YtihfmphaajdhnaaW.PrintWords Go.Proofs.YtihfmphaajdhnaaW.PrintLast Go.Proofs.YtihfmphaajdhnaaW.PrintMore
set_option linter.unusedVariables false
set_option linter.unusedSimpArgs false

theorem blk_nth {w : World} {g : Nat} {t : TypeId} {cs : Array Value} {v : Value} (h : w.heap[g]? = some (.cells cs t (0, 0))) (i : Nat) (hv : cs[i]? = some v) : w.cell? ⟨g, i, none⟩ = some v := (blk_cell h i).trans hv
theorem lt_of_cell {w : World} {a : Addr} {v : Value} (h : w.cell? a = some v) : a.block < w.heap.size := by
  unfold World.cell? at h
  rcases Nat.lt_or_ge a.block w.heap.size with h1 | h1
  · exact h1
  · rw [Array.getElem?_eq_none h1] at h; cases h
theorem cell_alloc {w : World} {a : Addr} {v : Value} (h : w.cell? a = some v) (o : Obj) : (w.alloc o).cell? a = some v :=
  ((Below.refl w.heap.size w).alloc (Nat.le_refl _) o).cell (p := a) (lt_of_cell h) |>.trans h
theorem frozen_alloc' {w : World} {a : Addr} (hb : a.block < w.heap.size) (o : Obj) : (w.alloc o).frozen? a = w.frozen? a :=
  ((Below.refl w.heap.size w).alloc (Nat.le_refl _) o).frozen (p := a) hb

/-- What lay in w1 lies in W as it lay, but for a row. -/
def SK (w1 : World) (row : Option Nat) (W : World) : Prop := w1.heap.size ≤ W.heap.size ∧ ∀ k, k < w1.heap.size → some k ≠ row → W.heap[k]? = w1.heap[k]?
theorem SK.refl (w1 : World) (row : Option Nat) : SK w1 row w1 := ⟨Nat.le_refl _, fun _ _ _ => rfl⟩
theorem SK.drew {w1 W : World} {row : Option Nat} (h : SK w1 row W) : SK w1 row W.drew := h
theorem SK.alloc {w1 W : World} {row : Option Nat} (h : SK w1 row W) (o : Obj) : SK w1 row (W.alloc o) := ⟨by simp; exact Nat.le_succ_of_le h.1, fun k hk hne => (Below.heap_alloc W o k (Nat.lt_of_lt_of_le hk h.1)).trans (h.2 k hk hne)⟩
theorem SK.grown {w1 W W' : World} {row : Option Nat} (h : SK w1 row W) (hg : W.grownBy W' row) : SK w1 row W' := ⟨Nat.le_trans h.1 hg.size, fun k hk hne => (hg.block k (Nat.lt_of_lt_of_le hk h.1) hne).trans (h.2 k hk hne)⟩
theorem SK.below {w1 W W' : World} {row : Option Nat} (h : SK w1 row W) (hb : Below W.heap.size W W') : SK w1 row W' := ⟨Nat.le_trans h.1 hb.size, fun k hk hne => (hb.block k (Nat.lt_of_lt_of_le hk h.1)).trans (h.2 k hk hne)⟩
theorem SK.blk {w1 W : World} {row : Option Nat} (h : SK w1 row W) {g : Nat} {o : Obj} (hb : w1.heap[g]? = some o) (hne : some g ≠ row) : W.heap[g]? = some o := (h.2 g (blk_lt hb) hne).trans hb
theorem SK.nth {w1 W : World} {row : Option Nat} (h : SK w1 row W) {g : Nat} {t : TypeId} {cs : Array Value} {v : Value} (hb : w1.heap[g]? = some (.cells cs t (0, 0))) (hne : some g ≠ row) (i : Nat) (hv : cs[i]? = some v) : W.cell? ⟨g, i, none⟩ = some v := blk_nth (h.blk hb hne) i hv
theorem SK.cell {w1 W : World} {row : Option Nat} (h : SK w1 row W) {a : Addr} {v : Value} (hc : w1.cell? a = some v) (hne : some a.block ≠ row) : W.cell? a = some v := (World.cell?_of_block (w := w1) (h.2 a.block (lt_of_cell hc) hne)).trans hc

/-- What a refusal panics with. -/
def refused (e : Int) : List PanicEntry := [{ v := .iface 95 (.agg #[.int .i64 e]), recovered := false }]

theorem as_ref (v : Value) (w : World) : (Instr.typeAssert (.iface 95 v) 20 95 true).run Try.prog w = .ok (.tuple #[v, .bool true]) w := by kernel_rfl
theorem zero_ref (w : World) : (zeroValue 95).run Try.prog w = .ok (.agg #[.int .i64 0]) w := by kernel_rfl
theorem any_under : Try.prog.underlying 20 = some (.interface (Try.prog.methodsAt 20)) := by kernel_rfl
attribute [local go_sem] as_ref zero_ref any_under

set_option maxHeartbeats 400000 in
theorem within_yes (a b c : Int) (h1 : b ≤ a) (h2 : a ≤ c) (w : World) :
    Calls Try.prog 64 #[.int .i64 a, .int .i64 b, .int .i64 c] w fun e w' => e = .returned (.bool true) ∧ w = w' := by
  go_enter Try.func64, Try.ntmps64
  go_wp2
  go_ret
  exact ⟨by simp, rfl⟩
set_option maxHeartbeats 400000 in
theorem within_no (a b c : Int) (h : ¬ (b ≤ a ∧ a ≤ c)) (w : World) :
    Calls Try.prog 64 #[.int .i64 a, .int .i64 b, .int .i64 c] w fun e w' => e = .returned (.bool false) ∧ w = w' := by
  by_cases h1 : b ≤ a
  · have h2 : ¬ a ≤ c := fun h2 => h ⟨h1, h2⟩
    clear h
    go_enter Try.func64, Try.ntmps64
    go_wp2
    go_ret
    exact ⟨by simp, rfl⟩
  · clear h
    go_enter Try.func64, Try.ntmps64
    go_wp2
    go_ret
    exact ⟨rfl, rfl⟩

set_option maxHeartbeats 400000 in
theorem want_yes (e : Int) (w : World) :
    Calls Try.prog 51 #[.bool true, .int .i64 e] w fun e' w' => e' = .returned (.tuple #[]) ∧ w = w' := by
  go_enter Try.func51, Try.ntmps51
  go_wp2
  go_end0
  exact ⟨rfl, rfl⟩

set_option maxHeartbeats 400000 in
theorem want_no (e : Int) (w : World) :
    Calls Try.prog 51 #[.bool false, .int .i64 e] w fun e' w' => e' = .panicked (refused e) ∧ w = w' := by
  go_enter Try.func51, Try.ntmps51
  go_wp2
  exact ⟨rfl, rfl, rfl⟩

set_option maxHeartbeats 400000 in
theorem said_nil (a : Addr) (w : World) :
    Calls Try.prog 37 #[.nilIface, .pointer (some a)] w fun e' w' => e' = .returned (.tuple #[]) ∧ w = w' := by
  go_enter Try.func37, Try.ntmps37
  go_wp2
  refine bodyPost_ret (results_none rfl _ _ _) rfl ?_
  exact ⟨rfl, rfl⟩

set_option maxHeartbeats 400000 in
theorem said_some (a : Addr) (e e0 : Int) (w : World) (h : w.cell? a = some (.int .i64 e0)) (hf : w.frozen? a = false) :
    Calls Try.prog 37 #[.iface 95 (.agg #[.int .i64 e]), .pointer (some a)] w fun e' w' => e' = .returned (.tuple #[]) ∧ w' = (w.alloc (.cells #[.int .i64 e] 95)).setCell a (.int .i64 e) := by
  have h1 := cell_alloc h
  have h2 := fun o => (frozen_alloc' (lt_of_cell h) o).trans hf
  go_enter Try.func37, Try.ntmps37
  go_wp2
  go_end0
  exact ⟨rfl, rfl⟩

/-- The deferred closures of the exported functions: each recovers, and says the error. -/
structure Recovers (k : FuncId) : Prop where
  enters : ∀ {args : Array Value} {w : World}, (callFunc k args).run Try.prog w = .ok (.enter k args) w
  ret : ∀ (a : Addr) (w : World), CallsD Try.prog k #[.pointer (some a)] .returning w fun e u' w' => e = .returned (.tuple #[]) ∧ u' = .returning ∧ w' = w
  pan : ∀ (a : Addr) (e e0 : Int) (w : World), w.cell? a = some (.int .i64 e0) → w.frozen? a = false →
    CallsD Try.prog k #[.pointer (some a)] (.panicking (refused e)) w fun e' u' w' => e' = .returned (.tuple #[]) ∧ u' = .panicking [{ v := .iface 95 (.agg #[.int .i64 e]), recovered := true }] ∧ w' = (w.alloc (.cells #[.int .i64 e] 95)).setCell a (.int .i64 e)

theorem rec_Time : Recovers 36 := by
  constructor
  · intro args w
    exact enters_ Try.func36 (by kernel_rfl) rfl args w
  · intro a w
    refine callsD_of_wpS Try.func36 rfl fun c₀ cs hu => ?_
    apply wpS_region
    simp [wpOpsS, go_sem, recoverD, hu, Try.ntmps36]
    refine (said_nil _ _).mono ?_
    rintro e w' ⟨rfl, rfl⟩
    cases c₀
    simp_all [bodyPostS, results, Try.results36]
  · intro a e e0 w h hf
    refine callsD_of_wpS Try.func36 rfl fun c₀ cs hu => ?_
    apply wpS_region
    simp [wpOpsS, go_sem, recoverD, hu, Try.ntmps36, refused]
    refine (said_some _ _ _ _ h hf).mono ?_
    rintro e w' ⟨rfl, rfl⟩
    cases c₀
    simp_all [bodyPostS, results, Try.results36]
theorem rec_Place : Recovers 41 := by
  constructor
  · intro args w
    exact enters_ Try.func41 (by kernel_rfl) rfl args w
  · intro a w
    refine callsD_of_wpS Try.func41 rfl fun c₀ cs hu => ?_
    apply wpS_region
    simp [wpOpsS, go_sem, recoverD, hu, Try.ntmps41]
    refine (said_nil _ _).mono ?_
    rintro e w' ⟨rfl, rfl⟩
    cases c₀
    simp_all [bodyPostS, results, Try.results41]
  · intro a e e0 w h hf
    refine callsD_of_wpS Try.func41 rfl fun c₀ cs hu => ?_
    apply wpS_region
    simp [wpOpsS, go_sem, recoverD, hu, Try.ntmps41, refused]
    refine (said_some _ _ _ _ h hf).mono ?_
    rintro e w' ⟨rfl, rfl⟩
    cases c₀
    simp_all [bodyPostS, results, Try.results41]
theorem rec_Final : Recovers 43 := by
  constructor
  · intro args w
    exact enters_ Try.func43 (by kernel_rfl) rfl args w
  · intro a w
    refine callsD_of_wpS Try.func43 rfl fun c₀ cs hu => ?_
    apply wpS_region
    simp [wpOpsS, go_sem, recoverD, hu, Try.ntmps43]
    refine (said_nil _ _).mono ?_
    rintro e w' ⟨rfl, rfl⟩
    cases c₀
    simp_all [bodyPostS, results, Try.results43]
  · intro a e e0 w h hf
    refine callsD_of_wpS Try.func43 rfl fun c₀ cs hu => ?_
    apply wpS_region
    simp [wpOpsS, go_sem, recoverD, hu, Try.ntmps43, refused]
    refine (said_some _ _ _ _ h hf).mono ?_
    rintro e w' ⟨rfl, rfl⟩
    cases c₀
    simp_all [bodyPostS, results, Try.results43]
theorem rec_Wrong : Recovers 45 := by
  constructor
  · intro args w
    exact enters_ Try.func45 (by kernel_rfl) rfl args w
  · intro a w
    refine callsD_of_wpS Try.func45 rfl fun c₀ cs hu => ?_
    apply wpS_region
    simp [wpOpsS, go_sem, recoverD, hu, Try.ntmps45]
    refine (said_nil _ _).mono ?_
    rintro e w' ⟨rfl, rfl⟩
    cases c₀
    simp_all [bodyPostS, results, Try.results45]
  · intro a e e0 w h hf
    refine callsD_of_wpS Try.func45 rfl fun c₀ cs hu => ?_
    apply wpS_region
    simp [wpOpsS, go_sem, recoverD, hu, Try.ntmps45, refused]
    refine (said_some _ _ _ _ h hf).mono ?_
    rintro e w' ⟨rfl, rfl⟩
    cases c₀
    simp_all [bodyPostS, results, Try.results45]
theorem rec_Cut : Recovers 56 := by
  constructor
  · intro args w
    exact enters_ Try.func56 (by kernel_rfl) rfl args w
  · intro a w
    refine callsD_of_wpS Try.func56 rfl fun c₀ cs hu => ?_
    apply wpS_region
    simp [wpOpsS, go_sem, recoverD, hu, Try.ntmps56]
    refine (said_nil _ _).mono ?_
    rintro e w' ⟨rfl, rfl⟩
    cases c₀
    simp_all [bodyPostS, results, Try.results56]
  · intro a e e0 w h hf
    refine callsD_of_wpS Try.func56 rfl fun c₀ cs hu => ?_
    apply wpS_region
    simp [wpOpsS, go_sem, recoverD, hu, Try.ntmps56, refused]
    refine (said_some _ _ _ _ h hf).mono ?_
    rintro e w' ⟨rfl, rfl⟩
    cases c₀
    simp_all [bodyPostS, results, Try.results56]
theorem rec_Orders : Recovers 58 := by
  constructor
  · intro args w
    exact enters_ Try.func58 (by kernel_rfl) rfl args w
  · intro a w
    refine callsD_of_wpS Try.func58 rfl fun c₀ cs hu => ?_
    apply wpS_region
    simp [wpOpsS, go_sem, recoverD, hu, Try.ntmps58]
    refine (said_nil _ _).mono ?_
    rintro e w' ⟨rfl, rfl⟩
    cases c₀
    simp_all [bodyPostS, results, Try.results58]
  · intro a e e0 w h hf
    refine callsD_of_wpS Try.func58 rfl fun c₀ cs hu => ?_
    apply wpS_region
    simp [wpOpsS, go_sem, recoverD, hu, Try.ntmps58, refused]
    refine (said_some _ _ _ _ h hf).mono ?_
    rintro e w' ⟨rfl, rfl⟩
    cases c₀
    simp_all [bodyPostS, results, Try.results58]
theorem rec_First : Recovers 60 := by
  constructor
  · intro args w
    exact enters_ Try.func60 (by kernel_rfl) rfl args w
  · intro a w
    refine callsD_of_wpS Try.func60 rfl fun c₀ cs hu => ?_
    apply wpS_region
    simp [wpOpsS, go_sem, recoverD, hu, Try.ntmps60]
    refine (said_nil _ _).mono ?_
    rintro e w' ⟨rfl, rfl⟩
    cases c₀
    simp_all [bodyPostS, results, Try.results60]
  · intro a e e0 w h hf
    refine callsD_of_wpS Try.func60 rfl fun c₀ cs hu => ?_
    apply wpS_region
    simp [wpOpsS, go_sem, recoverD, hu, Try.ntmps60, refused]
    refine (said_some _ _ _ _ h hf).mono ?_
    rintro e w' ⟨rfl, rfl⟩
    cases c₀
    simp_all [bodyPostS, results, Try.results60]
theorem rec_Meet : Recovers 49 := by
  constructor
  · intro args w
    exact enters_ Try.func49 (by kernel_rfl) rfl args w
  · intro a w
    refine callsD_of_wpS Try.func49 rfl fun c₀ cs hu => ?_
    apply wpS_region
    simp [wpOpsS, go_sem, recoverD, hu, Try.ntmps49]
    refine (said_nil _ _).mono ?_
    rintro e w' ⟨rfl, rfl⟩
    cases c₀
    simp_all [bodyPostS, results, Try.results49]
  · intro a e e0 w h hf
    refine callsD_of_wpS Try.func49 rfl fun c₀ cs hu => ?_
    apply wpS_region
    simp [wpOpsS, go_sem, recoverD, hu, Try.ntmps49, refused]
    refine (said_some _ _ _ _ h hf).mono ?_
    rintro e w' ⟨rfl, rfl⟩
    cases c₀
    simp_all [bodyPostS, results, Try.results49]
theorem rec_Ask : Recovers 50 := by
  constructor
  · intro args w
    exact enters_ Try.func50 (by kernel_rfl) rfl args w
  · intro a w
    refine callsD_of_wpS Try.func50 rfl fun c₀ cs hu => ?_
    apply wpS_region
    simp [wpOpsS, go_sem, recoverD, hu, Try.ntmps50]
    refine (said_nil _ _).mono ?_
    rintro e w' ⟨rfl, rfl⟩
    cases c₀
    simp_all [bodyPostS, results, Try.results50]
  · intro a e e0 w h hf
    refine callsD_of_wpS Try.func50 rfl fun c₀ cs hu => ?_
    apply wpS_region
    simp [wpOpsS, go_sem, recoverD, hu, Try.ntmps50, refused]
    refine (said_some _ _ _ _ h hf).mono ?_
    rintro e w' ⟨rfl, rfl⟩
    cases c₀
    simp_all [bodyPostS, results, Try.results50]
end Go.Proofs.Ytihfmphaajdhnaa.P
/-! Hand-made contracts of package chase: open, told. -/
namespace Go.Proofs.Ytihfmphaajdhnaa.P
open Go.RowKit Go.Proofs.YtihfmphaajdhnaaW.PrintWords Go.Proofs.YtihfmphaajdhnaaW.PrintLast Go.Proofs.YtihfmphaajdhnaaW.PrintMore
set_option linter.unusedVariables false
set_option linter.unusedSimpArgs false

theorem info_clock : (Try.prog.info? 65).map (fun i => (i.zero, i.size, i.bytes)) = some (some (.agg #[.int .i64 0, .int .i64 0, .int .i64 0]), 3, 24) := by kernel_rfl
/-- A chase that is looked at, in memory. -/
def Opened (w : World) (base : Nat) (g : Nat) (e f : Int) (A : Option Addr) (c : Nat) (ps : List (List Int)) (cs : List S65) : Prop :=
  ∃ v, w.heap[g]? = some (.cells #[.int .i64 e, .int .i64 f, .slice A ps.length c, v] 68 (0, 0)) ∧ base ≤ g ∧ Kd.R k65 65 w base (fun k => k ≠ g) v cs

def OpenPost (e f : Int) (A : Option Addr) (c : Nat) (ps : List (List Int)) (is : Bool) (w : World) (en : Ending) (w' : World) : Prop :=
  Below w.heap.size w w' ∧
  ((vld e f ps = true ∧ is = true ∧ ∃ g, en = .returned (.pointer (some ⟨g, 0, none⟩)) ∧ Opened w' w.heap.size g e f A c ps (clks e ps)) ∨
   (vld e f ps = false ∧ en = .panicked (refused 1)) ∨ (vld e f ps = true ∧ is = false ∧ en = .panicked (refused 2)))

theorem row_at {w : World} {A : Option Addr} {n : Nat} {xs : List (List Int)} (h : Kd.C (Kd.slice 3 (Kd.int .i64)) w A n xs) (k : Nat) (hk : k < n) :
    ∃ ad A0 c0, A = some ad ∧ w.cell? (ad.add k) = some (.slice A0 (xs.getD k []).length c0) ∧ (xs.getD k []).length ≤ c0 ∧ (Kd.int .i64).C w A0 (xs.getD k []).length (xs.getD k []) := at_L1 h (k : Int) (by omega) (by omega)
theorem int_at {w : World} {A : Option Addr} {n : Nat} {xs : List Int} (h : Kd.C (Kd.int .i64) w A n xs) (k : Nat) (hk : k < n) :
    ∃ ad, A = some ad ∧ w.cell? (ad.add k) = some (.int .i64 (xs.getD k 0)) := by
  obtain ⟨ad, c, e, _, hK, hc⟩ := Kd.C_get h 0 (k : Int) (by omega) (by omega)
  have hK' : c = [.int .i64 (xs.getD k 0)] := hK
  subst hK'
  exact ⟨ad, e, by have := hc 0 _ rfl; rwa [show (k : Int).toNat * (Kd.int .i64).sz + 0 = k from by show k * 1 + 0 = k; omega] at this⟩
theorem C_len {α : Type} {d : Kd α} {w : World} {A : Option Addr} {n : Nat} {xs : List α} (h : d.C w A n xs) : xs.length = n ∧ n ≤ 9223372036854775807 := ⟨h.1, h.2.1⟩

theorem narrowed_any (lo hi p n e : Int) (w : World) (he : 0 ≤ e) (he3 : e ≤ 3) (h0 : 0 ≤ n) (h1 : n ≤ 200) :
    Calls Try.prog 48 #[.agg #[.int .i64 lo, .int .i64 hi, .int .i64 p], .int .i64 n, .int .i64 e] w fun en w' =>
      en = .returned (.agg #[.int .i64 (nar e (lo, hi) n).1, .int .i64 (nar e (lo, hi) n).2, .int .i64 p]) ∧ Below w.heap.size w w' :=
  chase_clock_narrowed.calls lo hi p n e _ _ _ w (by
    unfold chase_clock_narrowed.f nar
    rw [show wrap64 (n - e) = n - e from by unfold wrap64; omega, show wrap64 (n + e) = n + e from by unfold wrap64; omega])

/-- At the head of open's inner loop: the clock by the watches so far. -/
def ClockRel (e : Int) (l : List Int) (p : Nat) (wr : World) (i : Value) (wi : World) : Prop :=
  ∃ j : Nat, i = .int .i64 j ∧ j ≤ l.length ∧ (∀ m, m < j → okN (l.getD m 0) = true) ∧ Below wr.heap.size wr wi ∧
    wi.heap[wr.heap.size]? = some (.cells #[.int .i64 (clk e (l.take j)).1, .int .i64 (clk e (l.take j)).2, .int .i64 p] 65 (0, 0))

/-- At the head of open's outer loop. -/
def OpenRel (e f : Int) (A : Option Addr) (c : Nat) (ps : List (List Int)) (w : World) (i : Value) (wr : World) : Prop :=
  ∃ k : Nat, i = .int .i64 k ∧ k ≤ ps.length ∧ (∀ j, j < k → okL (ps.getD j []) = true) ∧ Below w.heap.size w wr ∧
    wr.heap[w.heap.size]? = some (.cells #[.int .i64 e, .int .i64 f, .slice A ps.length c] 32 (0, 0)) ∧
    ∃ v, wr.heap[w.heap.size + 1]? = some (.cells #[.int .i64 e, .int .i64 f, .slice A ps.length c, v] 68 (0, 0)) ∧
      Kd.R k65 65 wr w.heap.size (fun k => k ≠ w.heap.size + 1 ∧ k ≠ w.heap.size) v (clks e (ps.take k))

set_option maxHeartbeats 1000000 in
set_option maxRecDepth 100000 in
theorem open_any (e f : Int) (A : Option Addr) (c : Nat) (ps : List (List Int)) (is : Bool) (w : World) (hr : Kd.C (Kd.slice 3 (Kd.int .i64)) w A ps.length ps) :
    Calls Try.prog 38 #[.agg #[.int .i64 e, .int .i64 f, .slice A ps.length c], .bool is] w (OpenPost e f A c ps is w) := by
  by_cases h1 : 0 ≤ e ∧ e ≤ 3
  · by_cases h2 : 1 ≤ ps.length ∧ ps.length ≤ 6
    · by_cases h3 : 1 ≤ f ∧ f ≤ ps.length
      · obtain ⟨h1a, h1b⟩ := h1
        obtain ⟨h2a, h2b⟩ := h2
        obtain ⟨h3a, h3b⟩ := h3
        have HR := Lib.hid hr
        clear hr
        go_enter Try.func38, Try.ntmps38
        go_wp2_with (first | (go_at_call 51; (with_reducible refine (want_yes _ _).mono ?_); rintro e' w' ⟨rfl, rfl⟩) | (go_at_call 64; (with_reducible refine (within_yes _ _ _ (by omega) (by omega) _).mono ?_); rintro e' w' ⟨rfl, rfl⟩))
        go_loopw [35] (fun i wr => OpenRel e f A c ps w i wr) (fun i _ => ps.length - (intOf i).toNat)
        case atStart =>
          refine ⟨0, rfl, Nat.zero_le _, fun j hj => absurd hj (by omega), ?_, ?_, .slice none 0 0, ?_, ?_⟩
          · exact ((Below.refl _ _).alloc (Nat.le_refl _) _).alloc (by simp) _
          · exact blk_alloc (blk_new _ _) _
          · have := blk_new (w.alloc (.cells #[.int .i64 e, .int .i64 f, .slice A ps.length c] 32)) (.cells #[.int .i64 e, .int .i64 f, .slice A ps.length c, .slice none 0 0] 68)
            simpa using this
          · exact Kd.R_nil _ _ _ _ _
        case round =>
          obtain ⟨k, rfl, hk, hok, hB, hb0, v, hb1, hv⟩ := hrel
          by_cases hlt : k < ps.length
          · obtain ⟨ad, A0, c0, hA, hcell, hc0, hl⟩ := row_at (Kd.C_below HR.out hB) k hlt
            obtain ⟨l, hl0⟩ : ∃ l, l = ps.getD k [] := ⟨_, rfl⟩
            rw [← hl0] at hcell hc0 hl
            have HL0 := Lib.hid hl0
            clear hl0
            have HC := Lib.hid hl
            obtain ⟨hll, hlm⟩ := C_len hl
            clear hl hll
            obtain ⟨b0, hb0'⟩ : ∃ b, b = w.heap.size := ⟨_, rfl⟩
            have he0 := blk_nth hb0 0 rfl
            have HV := Lib.hid hv
            have HB := Lib.hid hB
            have HB0 := Lib.hid hb0
            have HB1 := Lib.hid hb1
            have HOK := Lib.hid hok
            clear hv hB hb0 hb1 hok
            subst hA
            by_cases hlen : 1 ≤ l.length ∧ l.length ≤ 3
            · obtain ⟨hl1, hl3⟩ := hlen
              go_wp2_with (first | (go_at_call 51; (with_reducible refine (want_yes _ _).mono ?_); rintro e' w' ⟨rfl, rfl⟩) | (go_at_call 64; (with_reducible refine (within_yes _ _ _ (by omega) (by omega) _).mono ?_); rintro e' w' ⟨rfl, rfl⟩))
              obtain ⟨wo, hwo⟩ : ∃ wo : World, wo = wr := ⟨_, rfl⟩
              go_loopw [49] (fun i wi => ClockRel e l k wo i wi) (fun i _ => l.length - (intOf i).toNat)
              case atStart =>
                subst hwo
                exact ⟨0, rfl, Nat.zero_le _, fun m hm => absurd hm (by omega), (Below.refl _ _).alloc (Nat.le_refl _) _, blk_new _ _⟩
              case round =>
                obtain ⟨j, rfl, hj, hjo, hjb, hjk⟩ := hrel
                subst hwo
                by_cases hjl : j < l.length
                · obtain ⟨al, hal, hcl⟩ := int_at (Kd.C_below HC.out hjb) j hjl
                  obtain ⟨n, hn0⟩ : ∃ n, n = l.getD j 0 := ⟨_, rfl⟩
                  rw [← hn0] at hcl
                  have HN := Lib.hid hn0
                  clear hn0
                  subst hal
                  obtain ⟨lo, hlo⟩ : ∃ x, x = (clk e (l.take j)).1 := ⟨_, rfl⟩
                  obtain ⟨hi, hhi⟩ : ∃ x, x = (clk e (l.take j)).2 := ⟨_, rfl⟩
                  rw [← hlo, ← hhi] at hjk
                  have HLO := Lib.hid hlo
                  have HHI := Lib.hid hhi
                  clear hlo hhi
                  have k0 := blk_nth hjk 0 rfl
                  have k1 := blk_nth hjk 1 rfl
                  have k2 := blk_nth hjk 2 rfl
                  have e0 := (blk_nth (blk_below (blk_below HB0.out (Below.refl _ _)) hjb) 0 rfl)
                  have HJB := Lib.hid hjb
                  have HJK := Lib.hid hjk
                  have HJO := Lib.hid hjo
                  clear hjb hjk hjo
                  by_cases hn : 0 ≤ n ∧ n ≤ 200
                  · obtain ⟨hn0, hn1⟩ := hn
                    go_wp2_with (first | (go_at_call 51; (with_reducible refine (want_yes _ _).mono ?_); rintro e' w' ⟨rfl, rfl⟩) | (go_at_call 64; (with_reducible refine (within_yes _ _ _ (by omega) (by omega) _).mono ?_); rintro e' w' ⟨rfl, rfl⟩) | (go_at_call 48; (with_reducible refine (narrowed_any _ _ _ _ _ _ h1a h1b hn0 hn1).mono ?_); rintro e' w2 ⟨rfl, hb2⟩; have hk2 := blk_below HJK.out hb2; have c0' := blk_nth hk2 0 rfl; have c1' := blk_nth hk2 1 rfl; have c2' := blk_nth hk2 2 rfl; have z0 := blk_frozen hk2 0; have z1 := blk_frozen hk2 1; have z2 := blk_frozen hk2 2; have HB2 := Lib.hid hb2; have HK2 := Lib.hid hk2; clear hb2 hk2))
                    refine ⟨⟨j + 1, by go_num, by omega, ?_, ?_, ?_⟩, by simp [intOf]; omega⟩
                    · intro m hm
                      by_cases hmj : m = j
                      · rw [hmj, ← HN.out]; simp [okN, hn0, hn1]
                      · exact HJO.out m (by omega)
                    · exact (((HJB.out.trans (HB2.out.mono HJB.out.size)).setCell (Nat.le_refl _) _).setCell (Nat.le_refl _) _).setCell (Nat.le_refl _) _
                    · rw [clk_take e l j hjl, ← HN.out, show clk e (List.take j l) = (lo, hi) from by rw [HLO.out, HHI.out]]
                      exact blk_put (blk_put (blk_put HK2.out 0 _ rfl) 1 _ rfl) 2 _ rfl
                  · go_wp2_with (first | (go_at_call 51; (with_reducible refine (want_no _ _).mono ?_); rintro e' w' ⟨rfl, rfl⟩) | (go_at_call 64; (with_reducible refine (within_no _ _ _ hn _).mono ?_); rintro e' w' ⟨rfl, rfl⟩))
                    refine ⟨rfl, HB.out.trans (HJB.out.mono HB.out.size), .inr (.inl ⟨not_vld_at k hlt ?_, rfl⟩)⟩
                    rw [← HL0.out, Bool.eq_false_iff]
                    intro hok
                    have := ((okL_iff l).1 hok).2.2 n (by rw [HN.out, List.getD_eq_getElem?_getD, List.getElem?_eq_getElem hjl]; exact List.getElem_mem hjl)
                    exact hn this
                · obtain rfl : j = l.length := by omega
                  have HJB := Lib.hid hjb
                  have HJK := Lib.hid hjk
                  have HJO := Lib.hid hjo
                  clear hjb hjk hjo
                  go_wp2_with fail
                  have hb1r := blk_below HB1.out HJB.out
                  have hne1 : some (w.heap.size + 1) ≠ v.ownBlock := fun e1 => (HV.out.1 _ e1.symm).1 rfl
                  have hnek : some wo.heap.size ≠ v.ownBlock := fun e1 => by
                    obtain ⟨inner, ho⟩ := Kd.R_own HV.out
                    have := own_lt ho _ e1.symm
                    omega
                  have HB1R := Lib.hid hb1r
                  clear hb1r
                  refine start_ (n := 11) (ds := [10]) (S := fun W => SK wr v.ownBlock W) #[false, false, false, false, false, false, false, false, false, false, false] (by kernel_rfl) rfl rfl (SK.drew (SK.refl _ _)) ?_
                  intro hS
                  obtain ⟨wd, hwd⟩ : ∃ wd, World.drew wr = wd := ⟨_, rfl⟩
                  rw [hwd] at hS ⊢
                  have hbd : Below wr.heap.size wr wd := hwd ▸ below_drew (Below.refl _ _)
                  have HBD := Lib.hid hbd
                  clear hbd hwd
                  refine take_ (i := 0) (N := (some 62)) (v := ?_) #[true, false, false, false, false, false, false, false, false, false, false] rfl rfl (by kernel_rfl) (fun _ _ _ h => h) (Or.inl ⟨by rfl, ?_⟩) hS rfl ?_
                  rotate_left
                  · intro W hW; go_simp; with_reducible rfl
                  simp only [Act.put, List.setIfInBounds_toArray, List.set_cons_zero, List.set_cons_succ]
                  refine take_ (i := 1) (N := (some 63)) (v := ?_) #[true, true, false, false, false, false, false, false, false, false, false] rfl rfl (by kernel_rfl) (fun _ _ _ h => h) (Or.inl ⟨by rfl, ?_⟩) hS rfl ?_
                  rotate_left
                  · intro W hW; go_simp; with_reducible rfl
                  simp only [Act.put, List.setIfInBounds_toArray, List.set_cons_zero, List.set_cons_succ]
                  refine take_ (i := 2) (N := (some 64)) (v := ?_) #[true, true, true, false, false, false, false, false, false, false, false] rfl rfl (by kernel_rfl) (fun _ _ _ h => h) (Or.inl ⟨by rfl, ?_⟩) hS rfl ?_
                  rotate_left
                  · intro W hW; go_simp; with_reducible rfl
                  simp only [Act.put, List.setIfInBounds_toArray, List.set_cons_zero, List.set_cons_succ]
                  refine take_ (i := 3) (N := (some 65)) (v := ?_) #[true, true, true, true, false, false, false, false, false, false, false] rfl rfl (by kernel_rfl) (fun _ _ _ h => h) (Or.inl ⟨by rfl, ?_⟩) hS rfl ?_
                  rotate_left
                  · intro W hW; go_simp; with_reducible rfl
                  simp only [Act.put, List.setIfInBounds_toArray, List.set_cons_zero, List.set_cons_succ]
                  refine take_ (i := 4) (N := (some 66)) (v := ?_) #[true, true, true, true, true, false, false, false, false, false, false] rfl rfl (by kernel_rfl) (fun _ _ _ h => h) (Or.inl ⟨by rfl, ?_⟩) hS rfl ?_
                  rotate_left
                  · intro W hW; have c3 := SK.nth hW HB1R.out hne1 3 rfl; go_simp; with_reducible rfl
                  simp only [Act.put, List.setIfInBounds_toArray, List.set_cons_zero, List.set_cons_succ]
                  refine take_ (i := 5) (N := (some 67)) (v := ?_) #[true, true, true, true, true, true, false, false, false, false, false] rfl rfl (by kernel_rfl) (fun _ _ _ h => h) (Or.inl ⟨by rfl, ?_⟩) hS rfl ?_
                  rotate_left
                  · intro W hW; have c0 := SK.nth hW HJK.out hnek 0 rfl; have c1 := SK.nth hW HJK.out hnek 1 rfl; have c2 := SK.nth hW HJK.out hnek 2 rfl; go_simp; with_reducible rfl
                  simp only [Act.put, List.setIfInBounds_toArray, List.set_cons_zero, List.set_cons_succ]
                  refine one_ (i := 6) (N := (some 68)) #[true, true, true, true, true, true, true, false, false, false, false] rfl rfl (by kernel_rfl) (by decide) ?_
                  intro K hK
                  have hS0 := hS
                  go_simp
                  refine hK.out _ _ (SK.alloc hS _) (fun hS => ?_)
                  (try simp only [Act.put, List.setIfInBounds_toArray, List.set_cons_zero, List.set_cons_succ])
                  refine one_ (i := 7) (N := (some 69)) #[true, true, true, true, true, true, true, true, false, false, false] rfl rfl (by kernel_rfl) (by decide) ?_
                  intro K hK
                  have hlw : w.heap.size + 1 < wd.heap.size := Nat.lt_of_lt_of_le (blk_lt HB1R.out) HBD.out.size
                  have hbw : Below wo.heap.size wo wd := HJB.out.trans (HBD.out.mono HJB.out.size)
                  refine Kd.R_append_step k65 (w0 := w) w.heap.size (by rfl) (.tmp 66) (.tmp 68) 66 65 (.agg #[.int .i64 0, .int .i64 0, .int .i64 0]) 24 rfl Try.underlying66 info_clock rfl (by decide) (by decide) v (clks e (ps.take k)) (mkc e l k) [.int .i64 (clk e l).1, .int .i64 (clk e l).2, .int .i64 k] (fun k => k ≠ w.heap.size + 1 ∧ k ≠ w.heap.size) (fun _ => False) rfl rfl (k65_mkM _ _ _ _) (fun _ hk => hk.elim) (fun k hk => ⟨by omega, by omega⟩) (Kd.R_below HV.out hbw) (HB.out.trans (hbw.mono HB.out.size)) (by omega) (by rw [clks_len, List.length_take]; omega) ?_
                  intro v1 w1 hr1 hbel1 hg1 _
                  obtain ⟨A1, c1, rfl⟩ := Kd.R_slice hr1
                  have hch := blk_grown (HBD.out.block _ (blk_lt HB1R.out) |>.trans HB1R.out) hg1 hne1
                  have hx0 := blk_grown (blk_below (blk_below HB0.out HJB.out) HBD.out) hg1 (fun e1 => (HV.out.1 _ e1.symm).2 rfl)
                  have HR1 := Lib.hid hr1
                  have HBEL1 := Lib.hid hbel1
                  have HCH := Lib.hid hch
                  have HX0 := Lib.hid hx0
                  have hs1 := SK.grown hS0 hg1
                  clear hr1 hbel1 hg1 hbw hch hx0
                  refine hK.out _ _ hs1 (fun hS => ?_)
                  (try simp only [Act.put, List.setIfInBounds_toArray, List.set_cons_zero, List.set_cons_succ])
                  refine take_ (i := 8) (N := (some 70)) (v := ?_) #[true, true, true, true, true, true, true, true, true, false, false] rfl rfl (by kernel_rfl) (fun _ _ _ h => h) (Or.inl ⟨by rfl, ?_⟩) hS rfl ?_
                  rotate_left
                  · intro W hW; go_simp; with_reducible rfl
                  simp only [Act.put, List.setIfInBounds_toArray, List.set_cons_zero, List.set_cons_succ]
                  refine take_ (i := 9) (N := (some 71)) (v := ?_) #[true, true, true, true, true, true, true, true, true, true, false] rfl rfl (by kernel_rfl) (fun _ _ _ h => h) (Or.inl ⟨by rfl, ?_⟩) hS rfl ?_
                  rotate_left
                  · intro W hW; go_simp; with_reducible rfl
                  simp only [Act.put, List.setIfInBounds_toArray, List.set_cons_zero, List.set_cons_succ]
                  refine last_ (i := 10) (N := none) #[true, true, true, true, true, true, true, true, true, true, true] rfl rfl (by kernel_rfl) (by decide) ?_
                  intro K hK
                  have hc := blk_nth HCH.out 3 rfl
                  have hz := blk_frozen HCH.out 3
                  go_simp
                  refine hK.out _ _ ?_
                  clear hc hz
                  (try simp only [Act.put, List.setIfInBounds_toArray, List.set_cons_zero, List.set_cons_succ])
                  refine done_ (by kernel_rfl) ?_
                  clear hS0 hS hs1
                  go_wp2
                  refine ⟨⟨k + 1, by go_num, by omega, ?_, HBEL1.out.setCell (by simp) _, blk_far HX0.out (by simp) _, _, blk_put HCH.out 3 _ rfl, ?_⟩, by simp [intOf]; omega⟩
                  · intro m hm
                    by_cases hmk : m = k
                    · rw [hmk, ← HL0.out, okL_iff]
                      refine ⟨hl1, hl3, fun n hn => ?_⟩
                      obtain ⟨q, hq, rfl⟩ := List.getElem_of_mem hn
                      have := HJO.out q hq
                      rw [List.getD_eq_getElem?_getD, List.getElem?_eq_getElem hq] at this
                      simpa [okN] using this
                    · exact HOK.out m (by omega)
                  · rw [clks_take e ps k hlt, ← HL0.out]
                    have h := Kd.R_far (p := ⟨w.heap.size + 1, 3, none⟩) HR1.out (fun k hk => hk.1) (.slice A1 ((clks e (List.take k ps)).length + 1) c1)
                    rw [List.length_append, List.length_singleton] at h
                    exact h
            · go_wp2_with (first | (go_at_call 51; (with_reducible refine (want_no _ _).mono ?_); rintro e' w' ⟨rfl, rfl⟩) | (go_at_call 64; (with_reducible refine (within_no _ _ _ (by omega) _).mono ?_); rintro e' w' ⟨rfl, rfl⟩))
              refine ⟨rfl, HB.out, .inr (.inl ⟨not_vld_at k hlt ?_, rfl⟩)⟩
              rw [← HL0.out, Bool.eq_false_iff]
              intro hok
              exact hlen ⟨((okL_iff l).1 hok).1, ((okL_iff l).1 hok).2.1⟩
          · obtain rfl : k = ps.length := by omega
            have hv1 : vld e f ps = true := vld_all (by simp [okH]; omega) hok
            have HV1 := Lib.hid hv1
            have HV := Lib.hid hv
            have HB := Lib.hid hB
            have HB1 := Lib.hid hb1
            clear hv hB hb0 hb1 hok hv1
            cases is
            · go_wp2_with (first | (go_at_call 51; (with_reducible refine (want_no _ _).mono ?_); rintro e' w' ⟨rfl, rfl⟩))
              exact ⟨rfl, HB.out, .inr (.inr ⟨HV1.out, rfl, rfl⟩)⟩
            · go_wp2_with (first | (go_at_call 51; (with_reducible refine (want_yes _ _).mono ?_); rintro e' w' ⟨rfl, rfl⟩))
              go_ret
              refine ⟨HB.out, .inl ⟨HV1.out, rfl, _, rfl, v, HB1.out, by omega, ?_⟩⟩
              have h := HV.out
              rw [List.take_length] at h
              exact Kd.R_mono h (fun _ hk => hk.1)
      · have hv0 : vld e f ps = false := by
          have : okH e f ps.length = false := by simp only [okH, Bool.and_eq_false_iff, decide_eq_false_iff_not]; omega
          simp [vld, this]
        have HV0 := Lib.hid hv0
        clear hv0
        go_enter Try.func38, Try.ntmps38
        go_wp2_with (first | (go_at_call 51; (with_reducible refine (want_no _ _).mono ?_); rintro e' w' ⟨rfl, rfl⟩) | (go_at_call 64; (first | (with_reducible refine (within_yes _ _ _ (by omega) (by omega) _).mono ?_) | (with_reducible refine (within_no _ _ _ (by omega) _).mono ?_)); rintro e' w' ⟨rfl, rfl⟩))
        exact ⟨rfl, (Below.refl _ _).alloc (Nat.le_refl _) _, .inr (.inl ⟨HV0.out, rfl⟩)⟩
    · have hv0 : vld e f ps = false := by
        have : okH e f ps.length = false := by simp only [okH, Bool.and_eq_false_iff, decide_eq_false_iff_not]; omega
        simp [vld, this]
      have HV0 := Lib.hid hv0
      clear hv0
      go_enter Try.func38, Try.ntmps38
      go_wp2_with (first | (go_at_call 51; (with_reducible refine (want_no _ _).mono ?_); rintro e' w' ⟨rfl, rfl⟩) | (go_at_call 64; (first | (with_reducible refine (within_yes _ _ _ (by omega) (by omega) _).mono ?_) | (with_reducible refine (within_no _ _ _ (by omega) _).mono ?_)); rintro e' w' ⟨rfl, rfl⟩))
      exact ⟨rfl, (Below.refl _ _).alloc (Nat.le_refl _) _, .inr (.inl ⟨HV0.out, rfl⟩)⟩
  · have hv0 : vld e f ps = false := by
      have : okH e f ps.length = false := by simp only [okH, Bool.and_eq_false_iff, decide_eq_false_iff_not]; omega
      simp [vld, this]
    have HV0 := Lib.hid hv0
    clear hv0
    go_enter Try.func38, Try.ntmps38
    go_wp2_with (first | (go_at_call 51; (with_reducible refine (want_no _ _).mono ?_); rintro e' w' ⟨rfl, rfl⟩) | (go_at_call 64; (first | (with_reducible refine (within_yes _ _ _ (by omega) (by omega) _).mono ?_) | (with_reducible refine (within_no _ _ _ (by omega) _).mono ?_)); rintro e' w' ⟨rfl, rfl⟩))
    exact ⟨rfl, (Below.refl _ _).alloc (Nat.le_refl _) _, .inr (.inl ⟨HV0.out, rfl⟩)⟩
end Go.Proofs.Ytihfmphaajdhnaa.P
/-! Hand-made contracts of package chase: told, place; what an exported function's refusal comes to. -/
namespace Go.Proofs.Ytihfmphaajdhnaa.P
open Go.RowKit Go.Proofs.YtihfmphaajdhnaaW.PrintWords Go.Proofs.YtihfmphaajdhnaaW.PrintLast Go.Proofs.YtihfmphaajdhnaaW.PrintMore
set_option linter.unusedVariables false
set_option linter.unusedSimpArgs false

def bad (cs : List S65) : Bool := cs.any fun k => decide (k.f0.f1 < k.f0.f0)
def cl (cs : List S65) (k : Nat) : S65 := cs.getD k z65
theorem bad_at {cs : List S65} (k : Nat) (hk : k < cs.length) (h : (cl cs k).f0.f1 < (cl cs k).f0.f0) : bad cs = true := by
  unfold bad
  rw [List.any_eq_true]
  refine ⟨cs[k], List.getElem_mem hk, ?_⟩
  rw [cl, List.getD_eq_getElem?_getD, List.getElem?_eq_getElem hk] at h
  simpa using h
theorem bad_none {cs : List S65} (h : ∀ k, k < cs.length → (cl cs k).f0.f0 ≤ (cl cs k).f0.f1) : bad cs = false := by
  unfold bad
  rw [List.any_eq_false]
  intro x hx
  obtain ⟨k, hk, rfl⟩ := List.getElem_of_mem hx
  have := h k hk
  rw [cl, List.getD_eq_getElem?_getD, List.getElem?_eq_getElem hk] at this
  simpa using this
theorem clock_at {w : World} {A : Option Addr} {n : Nat} {cs : List S65} (h : Kd.C k65 w A n cs) (k : Nat) (hk : k < n) :
    ∃ ad, A = some ad ∧ w.cell? (ad.add (k * 3)) = some (.int .i64 (cl cs k).f0.f0) ∧ w.cell? ⟨(ad.add (k * 3)).block, (ad.add (k * 3)).off + 1, none⟩ = some (.int .i64 (cl cs k).f0.f1) ∧
      w.cell? ⟨(ad.add (k * 3)).block, (ad.add (k * 3)).off + 2, none⟩ = some (.int .i64 (cl cs k).f1) := at_T65 h (k : Int) (by omega) (by omega)

theorem Opened.below {w w' : World} {base g : Nat} {e f : Int} {A : Option Addr} {c : Nat} {ps : List (List Int)} {cs : List S65}
    (h : Opened w base g e f A c ps cs) (hb : Below w.heap.size w w') : Opened w' base g e f A c ps cs := by
  obtain ⟨v, h1, h2, h3⟩ := h
  exact ⟨v, blk_below h1 hb, h2, Kd.R_below h3 hb⟩

def ToldPost (g : Nat) (cs : List S65) (w : World) (en : Ending) (w' : World) : Prop :=
  Below w.heap.size w w' ∧ ((bad cs = false ∧ en = .returned (.pointer (some ⟨g, 0, none⟩))) ∨ (bad cs = true ∧ en = .panicked (refused 10)))

set_option maxHeartbeats 1000000 in
set_option maxRecDepth 100000 in
theorem told_any {base g : Nat} {e f : Int} {A : Option Addr} {c : Nat} {ps : List (List Int)} {cs : List S65} (w : World) (h : Opened w base g e f A c ps cs) :
    Calls Try.prog 40 #[.pointer (some ⟨g, 0, none⟩)] w (ToldPost g cs w) := by
  obtain ⟨v, hb1, hbase, hv⟩ := h
  obtain ⟨Av, cv, rfl, hlc, hC⟩ := Kd.R_reads hv
  obtain ⟨_, hmax⟩ := C_len hC
  have c3 := blk_nth hb1 3 rfl
  have HB1 := Lib.hid hb1
  have HC := Lib.hid hC
  clear hb1 hv hC
  go_enter Try.func40, Try.ntmps40
  go_wp2
  go_loopw [10] (fun i wr => ∃ k : Nat, i = .int .i64 k ∧ k ≤ cs.length ∧ Hid (∀ j, j < k → (cl cs j).f0.f0 ≤ (cl cs j).f0.f1) ∧ Hid (Below w.heap.size w wr)) (fun i _ => cs.length - (intOf i).toNat)
  case atStart => exact ⟨0, rfl, Nat.zero_le _, fun j hj => absurd hj (by omega), Below.refl _ _⟩
  case round =>
    obtain ⟨k, rfl, hk, HO, HB⟩ := hrel
    by_cases hlt : k < cs.length
    · obtain ⟨ad, rfl, q0, q1, q2⟩ := clock_at (Kd.C_below HC.out HB.out) k hlt
      by_cases hle : (cl cs k).f0.f0 ≤ (cl cs k).f0.f1
      · go_wp2_with (first | (go_at_call 51; (with_reducible refine (want_yes _ _).mono ?_); rintro e' w' ⟨rfl, rfl⟩))
        refine ⟨⟨k + 1, by go_num, by omega, fun j hj => ?_, HB.out.alloc HB.out.size _⟩, by simp [intOf]; omega⟩
        by_cases hjk : j = k
        · rw [hjk]; exact hle
        · exact HO.out j (by omega)
      · have hd : decide ((cl cs k).f0.f0 ≤ (cl cs k).f0.f1) = false := by simpa using hle
        go_wp2_with (first | (go_at_call 51; (with_reducible refine (want_no _ _).mono ?_); rintro e' w' ⟨rfl, rfl⟩))
        exact ⟨rfl, HB.out.alloc HB.out.size _, .inr ⟨bad_at k hlt (by omega), rfl⟩⟩
    · obtain rfl : k = cs.length := by omega
      go_wp2
      go_ret
      exact ⟨HB.out, .inl ⟨bad_none HO.out, rfl⟩⟩

/-- Can a clock's pair come before another one's, if this has its greatest time? -/
def bef (a b : S65) : Bool := decide (a.f0.f0 < b.f0.f1) || (decide (a.f0.f0 = b.f0.f1) && decide (a.f1 < b.f1))
theorem cmp_f (a b : Int) : cmp_Compare_int.f a b = some (if a < b then -1 else if b < a then 1 else 0) := by
  unfold cmp_Compare_int.f cmp_isNaN_int.f
  simp
  split <;> (try split) <;> rfl
theorem or_two (x y : Int) : cmp_Or_int.f 4 [x, y] = some (if x = 0 then y else x) := by
  unfold cmp_Or_int.f
  by_cases hx : x = 0
  · by_cases hy : y = 0
    · simp [cmp_Or_int.l0, rd, hx, hy, wrap64]
    · simp [cmp_Or_int.l0, rd, hx, hy, wrap64]
  · simp [cmp_Or_int.l0, rd, hx]
theorem can_any (a b : S65) (w : World) :
    Calls Try.prog 65 #[.agg #[.int .i64 a.f0.f0, .int .i64 a.f0.f1, .int .i64 a.f1], .agg #[.int .i64 b.f0.f0, .int .i64 b.f0.f1, .int .i64 b.f1]] w fun en w' =>
      en = .returned (.bool (bef a b)) ∧ Below w.heap.size w w' :=
  chase_clock_can.calls 4 _ _ _ _ _ _ _ w (by
    unfold chase_clock_can.f chase_first.f
    rw [cmp_f, cmp_f]
    simp only [Option.bind_some, or_two, bef]
    congr 1
    by_cases h1 : a.f0.f0 < b.f0.f1
    · simp [h1]
    · by_cases h2 : b.f0.f1 < a.f0.f0
      · have : ¬ a.f0.f0 = b.f0.f1 := by omega
        simp [h1, h2, this]
      · have : a.f0.f0 = b.f0.f1 := by omega
        by_cases h3 : a.f1 < b.f1
        · simp [h1, h2, this, h3]
        · by_cases h4 : b.f1 < a.f1
          · simp [h1, h2, this, h3, h4]
          · simp [h1, h2, this, h3, h4])

def lows (cs : List S65) (p : Nat) : S65 → Bool := fun o => decide (o.f1 ≠ p) && !bef (cl cs p) o
def highs (cs : List S65) (p : Nat) : S65 → Bool := fun o => decide (o.f1 ≠ p) && bef o (cl cs p)
def placeLo (cs : List S65) (p : Nat) : Nat := cs.countP (lows cs p)
def placeHi (cs : List S65) (p : Nat) : Nat := cs.countP (highs cs p)
theorem count_take (P : S65 → Bool) (cs : List S65) (k : Nat) (hk : k < cs.length) : (cs.take (k + 1)).countP P = (cs.take k).countP P + if P (cl cs k) then 1 else 0 := by
  rw [List.take_succ_eq_append_getElem hk, List.countP_append]
  simp [cl, List.getElem?_eq_getElem hk, List.countP_cons]

def PlaceRel (cs : List S65) (p : Nat) (w : World) (i : Value) (wr : World) : Prop :=
  ∃ k : Nat, i = .int .i64 k ∧ k ≤ cs.length ∧ Below w.heap.size w wr ∧
    wr.heap[w.heap.size]? = some (.cells #[.int .i64 ((cs.take k).countP (lows cs p)), .int .i64 ((cs.take k).countP (highs cs p))] 23 (0, 0)) ∧
    wr.heap[w.heap.size + 1]? = some (.cells #[.int .i64 (cl cs p).f0.f0, .int .i64 (cl cs p).f0.f1, .int .i64 (cl cs p).f1] 65 (0, 0))

set_option maxHeartbeats 2000000 in
set_option maxRecDepth 100000 in
theorem place_any {base g : Nat} {e f : Int} {A : Option Addr} {c : Nat} {ps : List (List Int)} {cs : List S65} (w : World) (h : Opened w base g e f A c ps cs) (p : Nat) (hp : p < cs.length) :
    Calls Try.prog 42 #[.pointer (some ⟨g, 0, none⟩), .int .i64 p] w fun en w' =>
      en = .returned (.agg #[.int .i64 (placeLo cs p), .int .i64 (placeHi cs p)]) ∧ Below w.heap.size w w' := by
  obtain ⟨v, hb1, hbase, hv⟩ := h
  obtain ⟨Av, cv, rfl, hlc, hC⟩ := Kd.R_reads hv
  obtain ⟨_, hmax⟩ := C_len hC
  have hg := blk_lt hb1
  have c3 := blk_nth hb1 3 rfl
  have c3' := fun o => cell_alloc c3 o
  have HC := Lib.hid hC
  have hC1 := Kd.C_below hC ((Below.refl w.heap.size w).alloc (Nat.le_refl _) (.cells #[.int .i64 0, .int .i64 0] 23))
  obtain ⟨ap, hap, p0, p1, p2⟩ := clock_at hC1 p hp
  obtain ⟨own, hown⟩ : ∃ own, own = cl cs p := ⟨_, rfl⟩
  rw [← hown] at p0 p1 p2
  have HOWN := Lib.hid hown
  clear hb1 hv hC hC1 hown
  subst hap
  go_enter Try.func42, Try.ntmps42
  go_wp2
  go_loopw [21] (fun i wr => PlaceRel cs p w i wr) (fun i _ => cs.length - (intOf i).toNat)
  case atStart =>
    refine ⟨0, rfl, Nat.zero_le _, ?_, by simpa using blk_alloc (blk_new _ _) _, ?_⟩
    · exact ((Below.refl _ _).alloc (Nat.le_refl _) _).alloc (by simp) _
    · have := blk_new (w.alloc (.cells #[.int .i64 0, .int .i64 0] 23)) (.cells #[.int .i64 own.f0.f0, .int .i64 own.f0.f1, .int .i64 own.f1] 65)
      rw [HOWN.out] at this
      rw [HOWN.out]
      simpa using this
  case round =>
    obtain ⟨k, rfl, hk, hB, hs, ho⟩ := hrel
    rw [← HOWN.out] at ho
    by_cases hlt : k < cs.length
    · obtain ⟨ad, had, q0, q1, q2⟩ := clock_at (Kd.C_below HC.out hB) k hlt
      obtain ⟨o, hok⟩ : ∃ o, o = cl cs k := ⟨_, rfl⟩
      rw [← hok] at q0 q1 q2
      have HOK := Lib.hid hok
      cases had
      have HB := Lib.hid hB
      have HS := Lib.hid hs
      have HO := Lib.hid ho
      clear hB hs ho hok
      by_cases e1 : o.f1 = p
      · have t1 : (o.f1 == (p : Int)) = true := by simpa using e1
        have E1 := Lib.hid e1
        clear e1
        go_wp2
        refine ⟨⟨k + 1, by go_num, by omega, HB.out.alloc HB.out.size _, ?_, blk_alloc (HOWN.out ▸ HO.out) _⟩, by simp [intOf]; omega⟩
        rw [count_take _ _ _ hlt, count_take _ _ _ hlt, show lows cs p (cl cs k) = false from by simp [lows, ← HOK.out, E1.out], show highs cs p (cl cs k) = false from by simp [highs, ← HOK.out, E1.out]]
        exact blk_alloc HS.out _
      · have t1 : (o.f1 == (p : Int)) = false := by simpa using e1
        have E1 := Lib.hid e1
        clear e1
        have z0 := fun x => cell_alloc (blk_nth HO.out 0 rfl) x
        have z1 := fun x => cell_alloc (blk_nth HO.out 1 rfl) x
        have z2 := fun x => cell_alloc (blk_nth HO.out 2 rfl) x
        go_wp2_with fail
        clear z0 z1 z2 q0 q1 q2
        refine (can_any o own _).mono ?_
        rintro e' w1 ⟨rfl, hb⟩
        have hs1 := blk_below (blk_alloc HS.out _) hb
        have ho1 := blk_below (blk_alloc HO.out _) hb
        have hk1 := blk_below (blk_new wr _) hb
        have HB1 := Lib.hid ((HB.out.alloc HB.out.size _).trans (hb.mono (by simp; exact Nat.le_succ_of_le HB.out.size)))
        have hsz : w.heap.size + 1 < wr.heap.size := blk_lt HO.out
        have HLT1 := Lib.hid (blk_lt hk1)
        have cs0 := blk_nth hs1 0 rfl
        have cs1 := blk_nth hs1 1 rfl
        have fs1 := blk_frozen hs1 1
        have co0 := blk_nth ho1 0 rfl
        have co1 := blk_nth ho1 1 rfl
        have co2 := blk_nth ho1 2 rfl
        have ck0 := blk_nth hk1 0 rfl
        have ck1 := blk_nth hk1 1 rfl
        have ck2 := blk_nth hk1 2 rfl
        have HS1 := Lib.hid hs1
        have HO1 := Lib.hid ho1
        have HK1 := Lib.hid hk1
        clear hb hs1 ho1 hk1
        have hcl : (cs.take k).countP (highs cs p) ≤ k := Nat.le_trans List.countP_le_length (by rw [List.length_take]; omega)
        have hcl2 : (cs.take k).countP (lows cs p) ≤ k := Nat.le_trans List.countP_le_length (by rw [List.length_take]; omega)
        obtain ⟨nh, hnh⟩ : ∃ n, n = (cs.take k).countP (highs cs p) := ⟨_, rfl⟩
        obtain ⟨nl, hnl⟩ : ∃ n, n = (cs.take k).countP (lows cs p) := ⟨_, rfl⟩
        rw [← hnh] at hcl cs1 HS1
        rw [← hnl] at hcl2 cs0 HS1
        have HNH := Lib.hid hnh
        have HNL := Lib.hid hnl
        clear hnh hnl
        by_cases b1 : bef o own = true
        · skip
          go_wp2_with fail
          refine (can_any own o _).mono ?_
          rintro e' w2 ⟨rfl, hb⟩
          have hs2 := blk_below (blk_put HS1.out 1 (.int .i64 (nh + 1)) rfl) hb
          have ho2 := blk_below (blk_far HO1.out (by simp) _) hb
          have hb2 : Below w.heap.size w w2 := (HB1.out.setCell (Nat.le_refl _) _).trans (hb.mono (by simp; exact HB1.out.size))
          have cs0' := blk_nth hs2 0 rfl
          have fs0' := blk_frozen hs2 0
          have HS2 := Lib.hid hs2
          have HO2 := Lib.hid ho2
          have HB2 := Lib.hid hb2
          clear hb hs2 ho2 hb2 cs0 cs1 fs1 co0 co1 co2 ck0 ck1 ck2
          by_cases b2 : bef own o = true
          · go_wp2
            refine ⟨⟨k + 1, by go_num, by omega, HB2.out, ?_, HOWN.out ▸ HO2.out⟩, by simp [intOf]; omega⟩
            rw [count_take _ _ _ hlt, count_take _ _ _ hlt, ← HNL.out, ← HNH.out, show lows cs p (cl cs k) = false from by simp [lows, ← HOK.out, ← HOWN.out, E1.out, b2], show highs cs p (cl cs k) = true from by simp [highs, ← HOK.out, ← HOWN.out, E1.out, b1]]
            simpa using HS2.out
          · simp only [Bool.not_eq_true] at b2
            go_wp2
            refine ⟨⟨k + 1, by go_num, by omega, HB2.out.setCell (Nat.le_refl _) _, ?_, HOWN.out ▸ blk_far HO2.out (by simp) _⟩, by simp [intOf]; omega⟩
            rw [count_take _ _ _ hlt, count_take _ _ _ hlt, ← HNL.out, ← HNH.out, show lows cs p (cl cs k) = true from by simp [lows, ← HOK.out, ← HOWN.out, E1.out, b2], show highs cs p (cl cs k) = true from by simp [highs, ← HOK.out, ← HOWN.out, E1.out, b1]]
            simpa using blk_put HS2.out 0 (.int .i64 (nl + 1)) rfl
        · simp only [Bool.not_eq_true] at b1
          go_wp2_with fail
          refine (can_any own o _).mono ?_
          rintro e' w2 ⟨rfl, hb⟩
          have hs2 := blk_below HS1.out hb
          have ho2 := blk_below HO1.out hb
          have hb2 : Below w.heap.size w w2 := HB1.out.trans (hb.mono HB1.out.size)
          have cs0' := blk_nth hs2 0 rfl
          have fs0' := blk_frozen hs2 0
          have HS2 := Lib.hid hs2
          have HO2 := Lib.hid ho2
          have HB2 := Lib.hid hb2
          clear hb hs2 ho2 hb2 cs0 cs1 fs1 co0 co1 co2 ck0 ck1 ck2
          by_cases b2 : bef own o = true
          · go_wp2
            refine ⟨⟨k + 1, by go_num, by omega, HB2.out, ?_, HOWN.out ▸ HO2.out⟩, by simp [intOf]; omega⟩
            rw [count_take _ _ _ hlt, count_take _ _ _ hlt, ← HNL.out, ← HNH.out, show lows cs p (cl cs k) = false from by simp [lows, ← HOK.out, ← HOWN.out, E1.out, b2], show highs cs p (cl cs k) = false from by simp [highs, ← HOK.out, ← HOWN.out, E1.out, b1]]
            simpa using HS2.out
          · simp only [Bool.not_eq_true] at b2
            go_wp2
            refine ⟨⟨k + 1, by go_num, by omega, HB2.out.setCell (Nat.le_refl _) _, ?_, HOWN.out ▸ blk_far HO2.out (by simp) _⟩, by simp [intOf]; omega⟩
            rw [count_take _ _ _ hlt, count_take _ _ _ hlt, ← HNL.out, ← HNH.out, show lows cs p (cl cs k) = true from by simp [lows, ← HOK.out, ← HOWN.out, E1.out, b2], show highs cs p (cl cs k) = false from by simp [highs, ← HOK.out, ← HOWN.out, E1.out, b1]]
            simpa using blk_put HS2.out 0 (.int .i64 (nl + 1)) rfl
    · obtain rfl : k = cs.length := by omega
      have cs0 := blk_nth hs 0 rfl
      have cs1 := blk_nth hs 1 rfl
      have fs0 := blk_frozen hs 0
      have fs1 := blk_frozen hs 1
      have HB := Lib.hid hB
      have HS := Lib.hid hs
      clear hB hs ho
      go_wp2
      have hs2 := blk_put (blk_put HS.out 0 (.int .i64 ((cs.take cs.length).countP (lows cs p))) rfl) 1 (.int .i64 ((cs.take cs.length).countP (highs cs p))) rfl
      refine bodyPost_ret (results_cell_row rfl _ _ w.heap.size 23 _ (0, 0) _ rfl (by simpa using hs2) Try.underlying23 rfl (by kernel_rfl)) rfl ?_
      exact ⟨by simp [placeLo, placeHi], by simpa using (HB.out.setCell (Nat.le_refl _) _).setCell (Nat.le_refl _) _⟩
end Go.Proofs.Ytihfmphaajdhnaa.P
/-! Hand-made contracts of package chase: Time, Place. -/
namespace Go.Proofs.Ytihfmphaajdhnaa.P
open Go.RowKit Go.Proofs.YtihfmphaajdhnaaW.PrintWords Go.Proofs.YtihfmphaajdhnaaW.PrintLast Go.Proofs.YtihfmphaajdhnaaW.PrintMore
set_option linter.unusedVariables false
set_option linter.unusedSimpArgs false

/-- What a panic comes to hangs on two slots of the frame alone. -/
def Ins (Q : Exit → Act → World → Prop) (c1 c2 : Nat) : Exit → Act → World → Prop
  | .panic ch, a, w => ∀ a' : Act, a'.tmps[c1]? = a.tmps[c1]? → a'.tmps[c2]? = a.tmps[c2]? → a'.defers = a.defers → Q (.panic ch) a' w
  | e, a, w => Q e a w
theorem wp_ins {P : Program} {c : Code} {Q : Exit → Act → World → Prop} (c1 c2 : Nat) {a : Act} {w : World} (h : c.wp P (Ins Q c1 c2) a w) : c.wp P Q a w :=
  Code.wp_mono (fun e a w hq => by cases e <;> first | exact hq | exact hq a rfl rfl rfl) h
theorem ins_put {Q : Exit → Act → World → Prop} {c1 c2 d : Nat} {v : Value} (h1 : d ≠ c1) (h2 : d ≠ c2) :
    ∀ (c : List PanicEntry) (a : Act) (w : World), Ins Q c1 c2 (.panic c) (a.put (some d) v) w → Ins Q c1 c2 (.panic c) a w := by
  intro c a w h a' e1 e2 e3
  refine h a' ?_ ?_ e3
  · rw [e1]; simp [Act.put, Array.getElem?_setIfInBounds, h1]
  · rw [e2]; simp [Act.put, Array.getElem?_setIfInBounds, h2]

def isP (ps : List (List Int)) (p : Int) : Bool := decide (0 ≤ p) && decide (p < ps.length)
theorem isPair_any (e f : Int) (A : Option Addr) (c : Nat) (ps : List (List Int)) (p : Int) (w : World) (hr : Kd.C (Kd.slice 3 (Kd.int .i64)) w A ps.length ps) (hc : ps.length ≤ c) :
    Calls Try.prog 39 #[.agg #[.int .i64 e, .int .i64 f, .slice A ps.length c], .int .i64 p] w fun en w' => en = .returned (.bool (isP ps p)) ∧ Below w.heap.size w w' :=
  chase_isPair.calls e f A c ps p _ w hr hc (by
    obtain ⟨_, hm⟩ := C_len hr
    unfold chase_isPair.f chase_within.f isP
    rw [show wrap64 ((ps.length : Int) - 1) = (ps.length : Int) - 1 from by unfold wrap64; omega]
    by_cases h0 : 0 ≤ p
    · simp [h0]; omega
    · simp [h0])

/-- The error of all functions but Wrong. -/
def errOf (e f : Int) (ps : List (List Int)) (ok : Bool) : Int := if vld e f ps then (if ok then (if bad (clks e ps) then 10 else 0) else 2) else 1

def chase_Time.f (e f : Int) (ps : List (List Int)) (p : Int) : Option (Int × Int × Int) :=
  if errOf e f ps (isP ps p) = 0 then some ((cl (clks e ps) p.toNat).f0.f0, (cl (clks e ps) p.toNat).f0.f1, 0) else some (0, 0, errOf e f ps (isP ps p))

/-- A refusal, recovered; and a return behind which nothing is to be recovered. -/
theorem refused_leaves {fn : Func} {tmps : Array Value} {R : Ending → World → Prop} {k : FuncId} {e e0 : Int} {g tb : Nat} {w1 : World} (hk : Recovers k)
    (hg : w1.heap[g]? = some (.cells #[.int .i64 e0] tb (0, 0)))
    (hR : ∀ w2, Below g w1 w2 → w2.heap[g]? = some (.cells #[.int .i64 e] tb (0, 0)) → ∃ v, (results fn tmps).run Try.prog w2 = .ok v w2 ∧ R (.returned v) w2) :
    Leaves Try.prog fn tmps R [{ target := .fn (.func k) #[.pointer (some ⟨g, 0, none⟩)], args := #[] }] (.panicking (refused e)) w1 := by
  refine leaves_cons (f := k) (args := #[.pointer (some ⟨g, 0, none⟩)]) (by simp) (by have := hk.enters (w := w1) (args := #[.pointer (some ⟨g, 0, none⟩)]); simp [invoke, this, go_sem]) ?_
  refine (hk.pan ⟨g, 0, none⟩ e e0 w1 (blk_nth hg 0 rfl) (blk_frozen hg 0)).mono ?_
  rintro e' u' w' ⟨rfl, rfl, rfl⟩
  obtain ⟨v, h1, h2⟩ := hR _ (((Below.refl g w1).alloc (Nat.le_of_lt (blk_lt hg)) _).setCell (Nat.le_refl _) _) (blk_put (blk_alloc hg _) 0 _ rfl)
  exact ⟨v, h1, h2⟩
theorem settled_leaves {fn : Func} {tmps : Array Value} {R : Ending → World → Prop} {k : FuncId} {g : Nat} {w1 : World} {v : Value} (hk : Recovers k)
    (h1 : (results fn tmps).run Try.prog w1 = .ok v w1) (h2 : R (.returned v) w1) :
    Leaves Try.prog fn tmps R [{ target := .fn (.func k) #[.pointer (some ⟨g, 0, none⟩)], args := #[] }] .returning w1 := by
  refine leaves_cons (f := k) (args := #[.pointer (some ⟨g, 0, none⟩)]) (by simp) (by have := hk.enters (w := w1) (args := #[.pointer (some ⟨g, 0, none⟩)]); simp [invoke, this, go_sem]) ?_
  refine (hk.ret ⟨g, 0, none⟩ w1).mono ?_
  rintro e' u' w' ⟨rfl, rfl, rfl⟩
  exact ⟨v, h1, h2⟩
/-- What two results are, of which the first is a struct in memory, or a number in the frame, the second a number in memory. -/
theorem load_num {t2 g2 tb2 : Nat} {x : Int} {w : World} (hg2 : w.heap[g2]? = some (.cells #[.int .i64 x] tb2 (0, 0))) (hu2 : Try.prog.underlying t2 = some (.int .i64)) :
    (loadVar t2 ⟨g2, 0, none⟩).run Try.prog w = .ok (.int .i64 x) w := by
  have q2 := blk_nth hg2 0 rfl
  simp [go_sem, isAgg, run_underlying hu2, q2]
theorem load_err {g2 tb2 : Nat} {x : Int} {w : World} (hg2 : w.heap[g2]? = some (.cells #[.int .i64 x] tb2 (0, 0))) :
    (loadVar 27 ⟨g2, 0, none⟩).run Try.prog w = .ok (.int .i64 x) w := load_num hg2 Try.underlying27
theorem load_span {g tb : Nat} {x y : Int} {w : World} (hg : w.heap[g]? = some (.cells #[.int .i64 x, .int .i64 y] tb (0, 0))) :
    (loadVar 23 ⟨g, 0, none⟩).run Try.prog w = .ok (.agg #[.int .i64 x, .int .i64 y]) w :=
  run_loadVar_row (P := Try.prog) w g tb 23 _ (0, 0) _ hg Try.underlying23 rfl (by kernel_rfl)
theorem results_two {fn : Func} {c1 c2 t1 t2 : Nat} {a1 a2 : Addr} {v1 v2 : Value} (hres : fn.results = #[.cell c1 t1, .cell c2 t2]) {tmps : Array Value} {w : World}
    (h1 : tmps[c1]? = some (.pointer (some a1))) (h2 : tmps[c2]? = some (.pointer (some a2)))
    (q1 : (loadVar t1 a1).run Try.prog w = .ok v1 w) (q2 : (loadVar t2 a2).run Try.prog w = .ok v2 w) :
    (results fn tmps).run Try.prog w = .ok (.tuple #[v1, v2]) w := by
  simp [results, hres, h1, h2, asAddr, q1, q2]
theorem results_num {fn : Func} {c1 c2 t2 : Nat} {a2 : Addr} {v v2 : Value} (hres : fn.results = #[.tmp c1, .cell c2 t2]) {tmps : Array Value} {w : World}
    (h1 : tmps[c1]? = some v) (h2 : tmps[c2]? = some (.pointer (some a2))) (q2 : (loadVar t2 a2).run Try.prog w = .ok v2 w) :
    (results fn tmps).run Try.prog w = .ok (.tuple #[v, v2]) w := by
  simp [results, hres, h1, h2, asAddr, q2]

theorem chase_Time.err {e f : Int} {ps : List (List Int)} {p r1 r2 r3 c : Int} (h : chase_Time.f e f ps p = some (r1, r2, r3)) (he : errOf e f ps (isP ps p) = c) (hc : c ≠ 0) : r1 = 0 ∧ r2 = 0 ∧ r3 = c := by
  unfold chase_Time.f at h
  rw [he, if_neg hc] at h
  simp only [Option.some.injEq, Prod.mk.injEq] at h
  exact ⟨h.1.symm, h.2.1.symm, h.2.2.symm⟩
theorem chase_Time.ok {e f : Int} {ps : List (List Int)} {p r1 r2 r3 : Int} (h : chase_Time.f e f ps p = some (r1, r2, r3)) (he : errOf e f ps (isP ps p) = 0) : r1 = (cl (clks e ps) p.toNat).f0.f0 ∧ r2 = (cl (clks e ps) p.toNat).f0.f1 ∧ r3 = 0 := by
  unfold chase_Time.f at h
  rw [if_pos he] at h
  simp only [Option.some.injEq, Prod.mk.injEq] at h
  exact ⟨h.1.symm, h.2.1.symm, h.2.2.symm⟩
theorem isP_iff {ps : List (List Int)} {p : Int} (h : isP ps p = true) : ∃ n : Nat, p = n ∧ n < ps.length := by
  simp only [isP, Bool.and_eq_true, decide_eq_true_eq] at h
  exact ⟨p.toNat, by omega, by omega⟩

theorem three_boxes (w : World) (x y z : Array Value) (tx ty tz : TypeId) : ∃ w3, w3 = ((w.alloc (.cells x tx)).alloc (.cells y ty)).alloc (.cells z tz) ∧
    w3.heap[w.heap.size]? = some (.cells x tx (0, 0)) ∧ w3.heap[w.heap.size + 1]? = some (.cells y ty (0, 0)) ∧ w3.heap[w.heap.size + 1 + 1]? = some (.cells z tz (0, 0)) ∧ Below w.heap.size w w3 :=
  ⟨_, rfl, blk_alloc (blk_alloc (blk_new w _) _) _, by simpa using blk_alloc (blk_new (w.alloc (.cells x tx)) (.cells y ty)) (.cells z tz), by simpa using blk_new ((w.alloc (.cells x tx)).alloc (.cells y ty)) (.cells z tz),
    (((Below.refl _ _).alloc (Nat.le_refl _) _).alloc (by simp) _).alloc (by simp; omega) _⟩
theorem two_boxes (w : World) (x z : Array Value) (tx tz : TypeId) : ∃ w3, w3 = (w.alloc (.cells x tx)).alloc (.cells z tz) ∧
    w3.heap[w.heap.size]? = some (.cells x tx (0, 0)) ∧ w3.heap[w.heap.size + 1]? = some (.cells z tz (0, 0)) ∧ Below w.heap.size w w3 :=
  ⟨_, rfl, blk_alloc (blk_new w _) _, by simpa using blk_new (w.alloc (.cells x tx)) (.cells z tz), ((Below.refl _ _).alloc (Nat.le_refl _) _).alloc (by simp) _⟩

set_option maxHeartbeats 1000000 in
set_option maxRecDepth 100000 in
theorem chase_Time.calls (a0_0 : Int) (a0_1 : Int) (A0_2 : Option Addr) (c0_2 : Nat) (l0_2 : List (List Int)) (a1 : Int) (r1 : Int) (r2 : Int) (r3 : Int) (w : World)
    (hr0_2 : Kd.C (Kd.slice 3 (Kd.int .i64)) w A0_2 l0_2.length l0_2) (hc0_2 : l0_2.length ≤ c0_2) (h : chase_Time.f a0_0 a0_1 l0_2 a1 = some (r1, r2, r3)) :
    Calls Try.prog 11 #[.agg #[.int .i64 a0_0, .int .i64 a0_1, .slice A0_2 l0_2.length c0_2], .int .i64 a1] w fun en w' =>
      en = .returned (.tuple #[.agg #[.int .i64 r1, .int .i64 r2], .int .i64 r3]) ∧ Below w.heap.size w w' := by
  have hmf : ∀ (fn : Fn) (first cap : Array Value) (w : World), (Instr.makeFunc fn first cap).run Try.prog w = .ok (.func fn first cap) w := fun _ _ _ _ => rfl
  have HR := Lib.hid hr0_2
  have HF := Lib.hid h
  clear hr0_2 h
  go_enter_defers Try.func11, Try.ntmps11
  go_wp2_with fail
  obtain ⟨b2, hb2⟩ : ∃ b, b = w.heap.size := ⟨_, rfl⟩
  have k2 := blk_alloc (blk_alloc (blk_new w (.cells #[.int .i64 a0_0, .int .i64 a0_1, .slice A0_2 l0_2.length c0_2] 32)) (.cells #[.int .i64 0, .int .i64 0] 23)) (.cells #[.int .i64 0] 27)
  have k4 := blk_alloc (blk_new (w.alloc (.cells #[.int .i64 a0_0, .int .i64 a0_1, .slice A0_2 l0_2.length c0_2] 32)) (.cells #[.int .i64 0, .int .i64 0] 23)) (.cells #[.int .i64 0] 27)
  have k5 := blk_new ((w.alloc (.cells #[.int .i64 a0_0, .int .i64 a0_1, .slice A0_2 l0_2.length c0_2] 32)).alloc (.cells #[.int .i64 0, .int .i64 0] 23)) (.cells #[.int .i64 0] 27)
  have hB : Below w.heap.size w (((w.alloc (.cells #[.int .i64 a0_0, .int .i64 a0_1, .slice A0_2 l0_2.length c0_2] 32)).alloc (.cells #[.int .i64 0, .int .i64 0] 23)).alloc (.cells #[.int .i64 0] 27)) :=
    (((Below.refl _ _).alloc (Nat.le_refl _) _).alloc (by simp) _).alloc (by simp; omega) _
  simp only [World.size_alloc] at k4 k5
  generalize (((w.alloc (.cells #[.int .i64 a0_0, .int .i64 a0_1, .slice A0_2 l0_2.length c0_2] 32)).alloc (.cells #[.int .i64 0, .int .i64 0] 23)).alloc (.cells #[.int .i64 0] 27)) = w3 at *
  have K2 := Lib.hid k2
  have K4 := Lib.hid k4
  have K5 := Lib.hid k5
  have HB := Lib.hid hB
  clear k2 k4 k5 hB hb2
  refine wp_ins 4 5 ?_
  refine start_ (n := 15) (ds := [13, 14]) (S := fun W => SK w3 none W) #[false, false, false, false, false, false, false, false, false, false, false, false, false, false, false] (by kernel_rfl) rfl rfl (SK.drew (SK.refl _ _)) ?_
  intro hS
  obtain ⟨wd, hwd⟩ : ∃ wd, World.drew w3 = wd := ⟨_, rfl⟩
  rw [hwd] at hS ⊢
  have hbd : Below w3.heap.size w3 wd := hwd ▸ below_drew (Below.refl _ _)
  have HBD := Lib.hid hbd
  clear hbd hwd
  refine take_ (i := 0) (N := (some 7)) (v := ?_) #[true, false, false, false, false, false, false, false, false, false, false, false, false, false, false] rfl rfl (by kernel_rfl) (ins_put (by decide) (by decide)) (Or.inl ⟨by rfl, ?_⟩) hS rfl ?_
  rotate_left
  · intro W hW; have q0 := SK.nth hW K2.out (by simp) 0 rfl; have q1 := SK.nth hW K2.out (by simp) 1 rfl; have q2 := SK.nth hW K2.out (by simp) 2 rfl; go_simp; with_reducible rfl
  simp only [Act.put, List.setIfInBounds_toArray, List.set_cons_zero, List.set_cons_succ]
  refine take_ (i := 1) (N := (some 8)) (v := ?_) #[true, true, false, false, false, false, false, false, false, false, false, false, false, false, false] rfl rfl (by kernel_rfl) (ins_put (by decide) (by decide)) (Or.inl ⟨by rfl, ?_⟩) hS rfl ?_
  rotate_left
  · intro W hW; have q0 := SK.nth hW K2.out (by simp) 0 rfl; have q1 := SK.nth hW K2.out (by simp) 1 rfl; have q2 := SK.nth hW K2.out (by simp) 2 rfl; go_simp; with_reducible rfl
  simp only [Act.put, List.setIfInBounds_toArray, List.set_cons_zero, List.set_cons_succ]
  refine take_ (i := 2) (N := (some 9)) (v := ?_) #[true, true, true, false, false, false, false, false, false, false, false, false, false, false, false] rfl rfl (by kernel_rfl) (ins_put (by decide) (by decide)) (Or.inl ⟨by rfl, ?_⟩) hS rfl ?_
  rotate_left
  · intro W hW; go_simp; with_reducible rfl
  simp only [Act.put, List.setIfInBounds_toArray, List.set_cons_zero, List.set_cons_succ]
  refine take_ (i := 9) (N := (some 16)) (v := ?_) #[true, true, true, false, false, false, false, false, false, true, false, false, false, false, false] rfl rfl (by kernel_rfl) (ins_put (by decide) (by decide)) (Or.inl ⟨by rfl, ?_⟩) hS rfl ?_
  rotate_left
  · intro W hW; go_simp; with_reducible rfl
  simp only [Act.put, List.setIfInBounds_toArray, List.set_cons_zero, List.set_cons_succ]
  refine one_ (i := 3) (N := (some 10)) #[true, true, true, true, false, false, false, false, false, true, false, false, false, false, false] rfl rfl (by kernel_rfl) (by decide) ?_
  intro K hK
  go_simp
  have hwd := HB.out.trans (HBD.out.mono HB.out.size)
  refine (isPair_any _ _ _ _ _ _ _ (Kd.C_below HR.out hwd) hc0_2).mono ?_
  rintro e' w4 ⟨rfl, hb4⟩
  have H4 := Lib.hid (hwd.trans (hb4.mono hwd.size))
  clear hwd
  refine hK.out _ _ (SK.below hS hb4) (fun hS => ?_)
  clear hb4
  (try simp only [Act.put, List.setIfInBounds_toArray, List.set_cons_zero, List.set_cons_succ])
  refine one_ (i := 4) (N := (some 11)) #[true, true, true, true, true, false, false, false, false, true, false, false, false, false, false] rfl rfl (by kernel_rfl) (by decide) ?_
  intro K hK
  go_simp
  refine (open_any _ _ _ _ _ _ _ (Kd.C_below HR.out H4.out)).mono ?_
  rintro en w5 ⟨hb5, (⟨hv, his, g, rfl, hop⟩ | ⟨hv, rfl⟩ | ⟨hv, his, rfl⟩)⟩
  rotate_left
  · intro a' e4 e5 ed
    change Leaves Try.prog Try.f11 a'.tmps _ a'.defers (.panicking (refused 1)) w5
    rw [ed]
    refine refused_leaves rec_Time (SK.blk (SK.below hS hb5) K5.out (by simp)) ?_
    intro w2 hb2 hg2
    obtain ⟨rfl, rfl, rfl⟩ := chase_Time.err HF.out (c := 1) (by simp [errOf, hv]) (by decide)
    exact ⟨_, results_two rfl (by rw [e4]; rfl) (by rw [e5]; rfl) (load_span ((hb2.block _ (by omega)).trans (SK.blk (SK.below hS hb5) K4.out (by simp)))) (load_err hg2), rfl, (H4.out.trans (hb5.mono H4.out.size)).trans (hb2.mono (by omega))⟩
  · intro a' e4 e5 ed
    change Leaves Try.prog Try.f11 a'.tmps _ a'.defers (.panicking (refused 2)) w5
    rw [ed]
    refine refused_leaves rec_Time (SK.blk (SK.below hS hb5) K5.out (by simp)) ?_
    intro w2 hb2 hg2
    obtain ⟨rfl, rfl, rfl⟩ := chase_Time.err HF.out (c := 2) (by simp [errOf, hv, his]) (by decide)
    exact ⟨_, results_two rfl (by rw [e4]; rfl) (by rw [e5]; rfl) (load_span ((hb2.block _ (by omega)).trans (SK.blk (SK.below hS hb5) K4.out (by simp)))) (load_err hg2), rfl, (H4.out.trans (hb5.mono H4.out.size)).trans (hb2.mono (by omega))⟩
  have H5 := Lib.hid (H4.out.trans (hb5.mono H4.out.size))
  have HV := Lib.hid hv
  have HIS := Lib.hid his
  have HOP := Lib.hid hop
  refine hK.out _ _ (SK.below hS hb5) (fun hS => ?_)
  clear hb5 hv his hop
  (try simp only [Act.put, List.setIfInBounds_toArray, List.set_cons_zero, List.set_cons_succ])
  refine one_ (i := 5) (N := (some 12)) #[true, true, true, true, true, true, false, false, false, true, false, false, false, false, false] rfl rfl (by kernel_rfl) (by decide) ?_
  intro K hK
  go_simp
  refine (told_any _ HOP.out).mono ?_
  rintro en w6 ⟨hb6, (⟨hbad, rfl⟩ | ⟨hbad, rfl⟩)⟩
  rotate_left
  · intro a' e4 e5 ed
    change Leaves Try.prog Try.f11 a'.tmps _ a'.defers (.panicking (refused 10)) w6
    rw [ed]
    refine refused_leaves rec_Time (SK.blk (SK.below hS hb6) K5.out (by simp)) ?_
    intro w2 hb2 hg2
    obtain ⟨rfl, rfl, rfl⟩ := chase_Time.err HF.out (c := 10) (by simp [errOf, HV.out, HIS.out, hbad]) (by decide)
    exact ⟨_, results_two rfl (by rw [e4]; rfl) (by rw [e5]; rfl) (load_span ((hb2.block _ (by omega)).trans (SK.blk (SK.below hS hb6) K4.out (by simp)))) (load_err hg2), rfl, (H5.out.trans (hb6.mono H5.out.size)).trans (hb2.mono (by omega))⟩
  have H6 := Lib.hid (H5.out.trans (hb6.mono H5.out.size))
  have HOP6 := Lib.hid (HOP.out.below hb6)
  have HBAD := Lib.hid hbad
  refine hK.out _ _ (SK.below hS hb6) (fun hS => ?_)
  clear hb6 hbad
  (try simp only [Act.put, List.setIfInBounds_toArray, List.set_cons_zero, List.set_cons_succ])
  refine one_ (i := 6) (N := (some 13)) #[true, true, true, true, true, true, true, false, false, true, false, false, false, false, false] rfl rfl (by kernel_rfl) (by decide) ?_
  intro K hK
  go_simp
  refine hK.out _ _ hS (fun hS => ?_)
  (try simp only [Act.put, List.setIfInBounds_toArray, List.set_cons_zero, List.set_cons_succ])
  refine one_ (i := 7) (N := (some 14)) #[true, true, true, true, true, true, true, true, false, true, false, false, false, false, false] rfl rfl (by kernel_rfl) (by decide) ?_
  intro K hK
  go_simp
  refine hK.out _ _ hS (fun hS => ?_)
  (try simp only [Act.put, List.setIfInBounds_toArray, List.set_cons_zero, List.set_cons_succ])
  refine one_ (i := 8) (N := (some 15)) #[true, true, true, true, true, true, true, true, true, true, false, false, false, false, false] rfl rfl (by kernel_rfl) (by decide) ?_
  intro K hK
  obtain ⟨v, hg1, hbase, hv⟩ := HOP6.out
  obtain ⟨Av, cv, rfl, hlc, hC⟩ := Kd.R_reads hv
  have c3 := blk_nth hg1 3 rfl
  go_simp
  refine hK.out _ _ hS (fun hS => ?_)
  clear hg1 hv c3
  (try simp only [Act.put, List.setIfInBounds_toArray, List.set_cons_zero, List.set_cons_succ])
  refine one_ (i := 10) (N := (some 17)) #[true, true, true, true, true, true, true, true, true, true, true, false, false, false, false] rfl rfl (by kernel_rfl) (by decide) ?_
  intro K hK
  obtain ⟨p, rfl, hp⟩ := isP_iff HIS.out
  have hp2 : p < (clks a0_0 l0_2).length := by rw [clks_len]; exact hp
  obtain ⟨ad, rfl, q0, q1, q2⟩ := clock_at hC p hp2
  obtain ⟨_, hmax⟩ := C_len hC
  clear hC
  go_simp
  refine hK.out _ _ hS (fun hS => ?_)
  (try simp only [Act.put, List.setIfInBounds_toArray, List.set_cons_zero, List.set_cons_succ])
  refine one_ (i := 11) (N := (some 18)) #[true, true, true, true, true, true, true, true, true, true, true, true, false, false, false] rfl rfl (by kernel_rfl) (by decide) ?_
  intro K hK
  go_simp
  refine hK.out _ _ hS (fun hS => ?_)
  (try simp only [Act.put, List.setIfInBounds_toArray, List.set_cons_zero, List.set_cons_succ])
  refine one_ (i := 12) (N := (some 19)) #[true, true, true, true, true, true, true, true, true, true, true, true, true, false, false] rfl rfl (by kernel_rfl) (by decide) ?_
  intro K hK
  go_simp
  refine hK.out _ _ hS (fun hS => ?_)
  clear q0 q1 q2
  (try simp only [Act.put, List.setIfInBounds_toArray, List.set_cons_zero, List.set_cons_succ])
  refine last_ (i := 13) (N := none) #[true, true, true, true, true, true, true, true, true, true, true, true, true, true, false] rfl rfl (by kernel_rfl) (by decide) ?_
  intro K hK
  have k4 := SK.blk hS K4.out (by simp)
  have c0 := blk_nth k4 0 rfl
  have c1 := blk_nth k4 1 rfl
  have f0 := blk_frozen k4 0
  have f1 := blk_frozen k4 1
  have KK4 := Lib.hid k4
  clear k4
  go_simp
  refine hK.out _ _ ?_
  clear c0 c1 f0 f1
  (try simp only [Act.put, List.setIfInBounds_toArray, List.set_cons_zero, List.set_cons_succ])
  refine last_ (i := 14) (N := none) #[true, true, true, true, true, true, true, true, true, true, true, true, true, true, true] rfl rfl (by kernel_rfl) (by decide) ?_
  intro K hK
  have k5 := blk_far (blk_far (SK.blk hS K5.out (by simp)) (p := ⟨w.heap.size + 1, 0, none⟩) (by simp) (.int .i64 (cl (clks a0_0 l0_2) p).f0.f0)) (p := ⟨w.heap.size + 1, 1, none⟩) (by simp) (.int .i64 (cl (clks a0_0 l0_2) p).f0.f1)
  have c0 := blk_nth k5 0 rfl
  have f0 := blk_frozen k5 0
  have KK5 := Lib.hid k5
  clear k5
  go_simp
  refine hK.out _ _ ?_
  clear c0 f0
  (try simp only [Act.put, List.setIfInBounds_toArray, List.set_cons_zero, List.set_cons_succ])
  refine done_ (by kernel_rfl) ?_
  simp only [Ins]
  go_wp2
  obtain ⟨rfl, rfl, rfl⟩ := chase_Time.ok HF.out (by simp [errOf, HV.out, HIS.out, HBAD.out])
  change Leaves Try.prog Try.f11 _ _ _ .returning _
  refine settled_leaves rec_Time (results_two rfl rfl rfl (load_span (blk_far (blk_put (blk_put KK4.out 0 _ rfl) 1 _ rfl) (by simp) _)) (load_err (blk_put KK5.out 0 _ rfl))) ⟨by simp, ?_⟩
  exact ((H6.out.setCell (by simp) _).setCell (by simp) _).setCell (by simp; omega) _
end Go.Proofs.Ytihfmphaajdhnaa.P
/-! Hand-made contracts of package chase: Place. -/
namespace Go.Proofs.Ytihfmphaajdhnaa.P
open Go.RowKit Go.Proofs.YtihfmphaajdhnaaW.PrintWords Go.Proofs.YtihfmphaajdhnaaW.PrintLast Go.Proofs.YtihfmphaajdhnaaW.PrintMore
set_option linter.unusedVariables false
set_option linter.unusedSimpArgs false

def chase_Place.f (e f : Int) (ps : List (List Int)) (p : Int) : Option (Int × Int × Int) :=
  if errOf e f ps (isP ps p) = 0 then some (placeLo (clks e ps) p.toNat, placeHi (clks e ps) p.toNat, 0) else some (0, 0, errOf e f ps (isP ps p))
theorem chase_Place.err {e f : Int} {ps : List (List Int)} {p r1 r2 r3 c : Int} (h : chase_Place.f e f ps p = some (r1, r2, r3)) (he : errOf e f ps (isP ps p) = c) (hc : c ≠ 0) : r1 = 0 ∧ r2 = 0 ∧ r3 = c := by
  unfold chase_Place.f at h
  rw [he, if_neg hc] at h
  simp only [Option.some.injEq, Prod.mk.injEq] at h
  exact ⟨h.1.symm, h.2.1.symm, h.2.2.symm⟩
theorem chase_Place.ok {e f : Int} {ps : List (List Int)} {p r1 r2 r3 : Int} (h : chase_Place.f e f ps p = some (r1, r2, r3)) (he : errOf e f ps (isP ps p) = 0) : r1 = placeLo (clks e ps) p.toNat ∧ r2 = placeHi (clks e ps) p.toNat ∧ r3 = 0 := by
  unfold chase_Place.f at h
  rw [if_pos he] at h
  simp only [Option.some.injEq, Prod.mk.injEq] at h
  exact ⟨h.1.symm, h.2.1.symm, h.2.2.symm⟩

set_option maxHeartbeats 1000000 in
set_option maxRecDepth 100000 in
theorem chase_Place.calls (a0_0 : Int) (a0_1 : Int) (A0_2 : Option Addr) (c0_2 : Nat) (l0_2 : List (List Int)) (a1 : Int) (r1 : Int) (r2 : Int) (r3 : Int) (w : World)
    (hr0_2 : Kd.C (Kd.slice 3 (Kd.int .i64)) w A0_2 l0_2.length l0_2) (hc0_2 : l0_2.length ≤ c0_2) (h : chase_Place.f a0_0 a0_1 l0_2 a1 = some (r1, r2, r3)) :
    Calls Try.prog 13 #[.agg #[.int .i64 a0_0, .int .i64 a0_1, .slice A0_2 l0_2.length c0_2], .int .i64 a1] w fun en w' =>
      en = .returned (.tuple #[.agg #[.int .i64 r1, .int .i64 r2], .int .i64 r3]) ∧ Below w.heap.size w w' := by
  have hmf : ∀ (fn : Fn) (first cap : Array Value) (w : World), (Instr.makeFunc fn first cap).run Try.prog w = .ok (.func fn first cap) w := fun _ _ _ _ => rfl
  have HR := Lib.hid hr0_2
  have HF := Lib.hid h
  clear hr0_2 h
  go_enter_defers Try.func13, Try.ntmps13
  go_wp2_with fail
  obtain ⟨w3, hw3, k2, k4, k5, hB⟩ := three_boxes w #[.int .i64 a0_0, .int .i64 a0_1, .slice A0_2 l0_2.length c0_2] #[.int .i64 0, .int .i64 0] #[.int .i64 0] 32 23 27
  rw [← hw3]
  have K2 := Lib.hid k2
  have K4 := Lib.hid k4
  have K5 := Lib.hid k5
  have HB := Lib.hid hB
  clear k2 k4 k5 hB hw3
  refine wp_ins 4 5 ?_
  refine start_ (n := 10) (ds := [8, 9]) (S := fun W => SK w3 none W) #[false, false, false, false, false, false, false, false, false, false] (by kernel_rfl) rfl rfl (SK.drew (SK.refl _ _)) ?_
  intro hS
  obtain ⟨wd, hwd⟩ : ∃ wd, World.drew w3 = wd := ⟨_, rfl⟩
  rw [hwd] at hS ⊢
  have hbd : Below w3.heap.size w3 wd := hwd ▸ below_drew (Below.refl _ _)
  have HBD := Lib.hid hbd
  clear hbd hwd
  refine take_ (i := 0) (N := (some 7)) (v := ?_) #[true, false, false, false, false, false, false, false, false, false] rfl rfl (by kernel_rfl) (ins_put (by decide) (by decide)) (Or.inl ⟨by rfl, ?_⟩) hS rfl ?_
  rotate_left
  · intro W hW; have q0 := SK.nth hW K2.out (by simp) 0 rfl; have q1 := SK.nth hW K2.out (by simp) 1 rfl; have q2 := SK.nth hW K2.out (by simp) 2 rfl; go_simp; with_reducible rfl
  simp only [Act.put, List.setIfInBounds_toArray, List.set_cons_zero, List.set_cons_succ]
  refine take_ (i := 1) (N := (some 8)) (v := ?_) #[true, true, false, false, false, false, false, false, false, false] rfl rfl (by kernel_rfl) (ins_put (by decide) (by decide)) (Or.inl ⟨by rfl, ?_⟩) hS rfl ?_
  rotate_left
  · intro W hW; have q0 := SK.nth hW K2.out (by simp) 0 rfl; have q1 := SK.nth hW K2.out (by simp) 1 rfl; have q2 := SK.nth hW K2.out (by simp) 2 rfl; go_simp; with_reducible rfl
  simp only [Act.put, List.setIfInBounds_toArray, List.set_cons_zero, List.set_cons_succ]
  refine take_ (i := 2) (N := (some 9)) (v := ?_) #[true, true, true, false, false, false, false, false, false, false] rfl rfl (by kernel_rfl) (ins_put (by decide) (by decide)) (Or.inl ⟨by rfl, ?_⟩) hS rfl ?_
  rotate_left
  · intro W hW; go_simp; with_reducible rfl
  simp only [Act.put, List.setIfInBounds_toArray, List.set_cons_zero, List.set_cons_succ]
  refine take_ (i := 6) (N := (some 13)) (v := ?_) #[true, true, true, false, false, false, true, false, false, false] rfl rfl (by kernel_rfl) (ins_put (by decide) (by decide)) (Or.inl ⟨by rfl, ?_⟩) hS rfl ?_
  rotate_left
  · intro W hW; go_simp; with_reducible rfl
  simp only [Act.put, List.setIfInBounds_toArray, List.set_cons_zero, List.set_cons_succ]
  refine one_ (i := 3) (N := (some 10)) #[true, true, true, true, false, false, true, false, false, false] rfl rfl (by kernel_rfl) (by decide) ?_
  intro K hK
  go_simp
  have hwd := HB.out.trans (HBD.out.mono HB.out.size)
  refine (isPair_any _ _ _ _ _ _ _ (Kd.C_below HR.out hwd) hc0_2).mono ?_
  rintro e' w4 ⟨rfl, hb4⟩
  have H4 := Lib.hid (hwd.trans (hb4.mono hwd.size))
  clear hwd
  refine hK.out _ _ (SK.below hS hb4) (fun hS => ?_)
  clear hb4
  (try simp only [Act.put, List.setIfInBounds_toArray, List.set_cons_zero, List.set_cons_succ])
  refine one_ (i := 4) (N := (some 11)) #[true, true, true, true, true, false, true, false, false, false] rfl rfl (by kernel_rfl) (by decide) ?_
  intro K hK
  go_simp
  refine (open_any _ _ _ _ _ _ _ (Kd.C_below HR.out H4.out)).mono ?_
  rintro en w5 ⟨hb5, (⟨hv, his, g, rfl, hop⟩ | ⟨hv, rfl⟩ | ⟨hv, his, rfl⟩)⟩
  rotate_left
  · skip
    have HSW := SK.below hS hb5
    intro a' e4 e5 ed
    change Leaves Try.prog Try.f13 a'.tmps _ a'.defers (.panicking (refused 1)) _
    rw [ed]
    refine refused_leaves rec_Place (SK.blk HSW K5.out (by simp)) ?_
    intro w2 hb2 hg2
    obtain ⟨rfl, rfl, rfl⟩ := chase_Place.err HF.out (c := 1) (by simp [errOf, hv]) (by decide)
    exact ⟨_, results_two rfl (by rw [e4]; rfl) (by rw [e5]; rfl) (load_span ((hb2.block _ (by omega)).trans (SK.blk HSW K4.out (by simp)))) (load_err hg2), rfl, (H4.out.trans (hb5.mono H4.out.size)).trans (hb2.mono (by omega))⟩
  · skip
    have HSW := SK.below hS hb5
    intro a' e4 e5 ed
    change Leaves Try.prog Try.f13 a'.tmps _ a'.defers (.panicking (refused 2)) _
    rw [ed]
    refine refused_leaves rec_Place (SK.blk HSW K5.out (by simp)) ?_
    intro w2 hb2 hg2
    obtain ⟨rfl, rfl, rfl⟩ := chase_Place.err HF.out (c := 2) (by simp [errOf, hv, his]) (by decide)
    exact ⟨_, results_two rfl (by rw [e4]; rfl) (by rw [e5]; rfl) (load_span ((hb2.block _ (by omega)).trans (SK.blk HSW K4.out (by simp)))) (load_err hg2), rfl, (H4.out.trans (hb5.mono H4.out.size)).trans (hb2.mono (by omega))⟩
  have H5 := Lib.hid (H4.out.trans (hb5.mono H4.out.size))
  have HV := Lib.hid hv
  have HIS := Lib.hid his
  have HOP := Lib.hid hop
  refine hK.out _ _ (SK.below hS hb5) (fun hS => ?_)
  clear hb5 hv his hop
  (try simp only [Act.put, List.setIfInBounds_toArray, List.set_cons_zero, List.set_cons_succ])
  refine one_ (i := 5) (N := (some 12)) #[true, true, true, true, true, true, true, false, false, false] rfl rfl (by kernel_rfl) (by decide) ?_
  intro K hK
  go_simp
  refine (told_any _ HOP.out).mono ?_
  rintro en w6 ⟨hb6, (⟨hbad, rfl⟩ | ⟨hbad, rfl⟩)⟩
  rotate_left
  · skip
    have HSW := SK.below hS hb6
    intro a' e4 e5 ed
    change Leaves Try.prog Try.f13 a'.tmps _ a'.defers (.panicking (refused 10)) _
    rw [ed]
    refine refused_leaves rec_Place (SK.blk HSW K5.out (by simp)) ?_
    intro w2 hb2 hg2
    obtain ⟨rfl, rfl, rfl⟩ := chase_Place.err HF.out (c := 10) (by simp [errOf, HV.out, HIS.out, hbad]) (by decide)
    exact ⟨_, results_two rfl (by rw [e4]; rfl) (by rw [e5]; rfl) (load_span ((hb2.block _ (by omega)).trans (SK.blk HSW K4.out (by simp)))) (load_err hg2), rfl, (H5.out.trans (hb6.mono H5.out.size)).trans (hb2.mono (by omega))⟩
  have H6 := Lib.hid (H5.out.trans (hb6.mono H5.out.size))
  have HOP6 := Lib.hid (HOP.out.below hb6)
  have HBAD := Lib.hid hbad
  refine hK.out _ _ (SK.below hS hb6) (fun hS => ?_)
  clear hb6 hbad
  (try simp only [Act.put, List.setIfInBounds_toArray, List.set_cons_zero, List.set_cons_succ])
  refine one_ (i := 7) (N := (some 14)) #[true, true, true, true, true, true, true, true, false, false] rfl rfl (by kernel_rfl) (by decide) ?_
  intro K hK
  obtain ⟨p, rfl, hp⟩ := isP_iff HIS.out
  have hp2 : p < (clks a0_0 l0_2).length := by rw [clks_len]; exact hp
  go_simp
  refine (place_any _ HOP6.out p hp2).mono ?_
  rintro e' w7 ⟨rfl, hb7⟩
  have H7 := Lib.hid (H6.out.trans (hb7.mono H6.out.size))
  refine hK.out _ _ (SK.below hS hb7) (fun hS => ?_)
  clear hb7
  (try simp only [Act.put, List.setIfInBounds_toArray, List.set_cons_zero, List.set_cons_succ])
  refine last_ (i := 8) (N := none) #[true, true, true, true, true, true, true, true, true, false] rfl rfl (by kernel_rfl) (by decide) ?_
  intro K hK
  have k4 := SK.blk hS K4.out (by simp)
  have c0 := blk_nth k4 0 rfl
  have c1 := blk_nth k4 1 rfl
  have f0 := blk_frozen k4 0
  have f1 := blk_frozen k4 1
  have KK4 := Lib.hid k4
  clear k4
  go_simp
  refine hK.out _ _ ?_
  clear c0 c1 f0 f1
  (try simp only [Act.put, List.setIfInBounds_toArray, List.set_cons_zero, List.set_cons_succ])
  refine last_ (i := 9) (N := none) #[true, true, true, true, true, true, true, true, true, true] rfl rfl (by kernel_rfl) (by decide) ?_
  intro K hK
  have k5 := blk_far (blk_far (SK.blk hS K5.out (by simp)) (p := ⟨w.heap.size + 1, 0, none⟩) (by simp) (.int .i64 (placeLo (clks a0_0 l0_2) p))) (p := ⟨w.heap.size + 1, 1, none⟩) (by simp) (.int .i64 (placeHi (clks a0_0 l0_2) p))
  have c0 := blk_nth k5 0 rfl
  have f0 := blk_frozen k5 0
  have KK5 := Lib.hid k5
  clear k5
  go_simp
  refine hK.out _ _ ?_
  clear c0 f0
  (try simp only [Act.put, List.setIfInBounds_toArray, List.set_cons_zero, List.set_cons_succ])
  refine done_ (by kernel_rfl) ?_
  simp only [Ins]
  go_wp2
  obtain ⟨rfl, rfl, rfl⟩ := chase_Place.ok HF.out (by simp [errOf, HV.out, HIS.out, HBAD.out])
  change Leaves Try.prog Try.f13 _ _ _ .returning _
  refine settled_leaves rec_Place (results_two rfl rfl rfl (load_span (blk_far (blk_put (blk_put KK4.out 0 _ rfl) 1 _ rfl) (by simp) _)) (load_err (blk_put KK5.out 0 _ rfl))) ⟨by simp, ?_⟩
  exact ((H7.out.setCell (by simp) _).setCell (by simp) _).setCell (by simp; omega) _
end Go.Proofs.Ytihfmphaajdhnaa.P
/-! Hand-made contracts of package chase: final, settled, settles, Ask. -/
namespace Go.Proofs.Ytihfmphaajdhnaa.P
open Go.RowKit Go.Proofs.YtihfmphaajdhnaaW.PrintWords Go.Proofs.YtihfmphaajdhnaaW.PrintLast Go.Proofs.YtihfmphaajdhnaaW.PrintMore
set_option linter.unusedVariables false
set_option linter.unusedSimpArgs false

theorem lit_C {α : Type} {enc : α → Value} {h1 : ∀ x, (enc x).oneCell' = true} {w : World} {g : Nat} {t : TypeId} (xs : List α) (hn : xs.length ≤ 9223372036854775807)
    (h : w.heap[g]? = some (.cells (xs.map enc).toArray t (0, 0))) : (Kd.scalar enc h1).C w (some ⟨g, 0, none⟩) xs.length xs := by
  refine ⟨rfl, hn, fun _ => ⟨_, rfl, fun j p hj => ⟨[enc p], rfl, rfl, fun i u hu => ?_⟩⟩⟩
  match i, hu with
  | 0, hu =>
    have hu' : enc p = u := by simpa using hu
    subst hu'
    have := blk_nth h j (v := enc p) (by simp [hj])
    have hadd : (⟨g, 0, none⟩ : Addr).add j = ⟨g, j, none⟩ := by unfold Addr.add; split <;> simp_all
    show w.cell? ((⟨g, 0, none⟩ : Addr).add (j * 1 + 0)) = _
    rw [Nat.mul_one, Nat.add_zero, hadd]
    exact this
  | i + 1, hu => simp at hu

def soOf (l : List Bool) : Int := if l.contains false then (if l.contains true then 1 else 0) else 2
theorem index_f (x : Bool) : ∀ (k : Nat) (l : List Bool) (i : Nat), i ≤ l.length → l.length ≤ 9223372036854775807 → l.length - i < k →
    ∃ r, slices_Index_bool_bool.l0 k l x l.length i = some r ∧ (0 ≤ r ↔ (l.drop i).contains x = true) := by
  intro k
  induction k with
  | zero => intro l i _ _ h; omega
  | succ k ih =>
    intro l i hi hm hk
    simp only [slices_Index_bool_bool.l0]
    by_cases hlt : i < l.length
    · rw [if_pos (by omega)]
      have hd : l.drop i = l[i] :: l.drop (i + 1) := List.drop_eq_getElem_cons hlt
      rw [if_pos (by omega), if_pos (by omega)]
      have hrd : rdOf false l (i : Int) = l[i] := by simp [rdOf, List.getElem?_eq_getElem hlt]
      by_cases hx : x = l[i]
      · refine ⟨i, ?_, ?_⟩
        · simp only [hrd, hx]; simp
        · rw [hd, List.contains_cons, hx, beq_self_eq_true, Bool.true_or]; exact ⟨fun _ => rfl, fun _ => by omega⟩
      · obtain ⟨r, h1, h2⟩ := ih l (i + 1) (by omega) hm (by omega)
        refine ⟨r, ?_, ?_⟩
        · simp only [hrd]
          rw [show wrap64 ((i : Int) + 1) = ((i + 1 : Nat) : Int) from by unfold wrap64; omega]
          rw [h1]; simp [hx]
        · rw [h2, hd, List.contains_cons, show (x == l[i]) = false from by simpa using hx, Bool.false_or]
    · rw [if_neg (by omega)]
      refine ⟨-1, rfl, ?_⟩
      rw [List.drop_of_length_le (by omega)]; simp
theorem contains_f (l : List Bool) (x : Bool) (hm : l.length ≤ 9223372036854775807) : slices_Contains_bool_bool.f (l.length + 1) l x = some (l.contains x) := by
  unfold slices_Contains_bool_bool.f slices_Index_bool_bool.f
  obtain ⟨r, h1, h2⟩ := index_f x (l.length + 1) l 0 (Nat.zero_le _) hm (by omega)
  rw [show (0 : Int) = ((0 : Nat) : Int) from rfl, h1]
  simp only [Option.bind_some, Option.some.injEq]
  rw [Bool.eq_iff_iff]
  simpa using h2
theorem so_f (l : List Bool) (hm : l.length ≤ 9223372036854775807) : chase_so.f (l.length + 1) l = some (soOf l) := by
  unfold chase_so.f
  rw [contains_f l false hm, contains_f l true hm]
  simp only [Option.bind_some, soOf]
  cases l.contains false <;> cases l.contains true <;> simp

/-- Does a pair come into the final? -/
def finOf (f : Int) (cs : List S65) (p : Nat) : Int := soOf [decide ((placeLo cs p : Int) < f), decide ((placeHi cs p : Int) < f)]

set_option maxHeartbeats 1000000 in
set_option maxRecDepth 100000 in
theorem final_any {base g : Nat} {e f : Int} {A : Option Addr} {c : Nat} {ps : List (List Int)} {cs : List S65} (w : World) (h : Opened w base g e f A c ps cs) (p : Nat) (hp : p < cs.length) :
    Calls Try.prog 71 #[.pointer (some ⟨g, 0, none⟩), .int .i64 p] w fun en w' => en = .returned (.int .i64 (finOf f cs p)) ∧ Below w.heap.size w w' := by
  have HOP := Lib.hid h
  obtain ⟨v, hb1, hbase, hv⟩ := h
  clear hv
  go_enter Try.func71, Try.ntmps71
  go_wp2_with fail
  refine (place_any w HOP.out p hp).mono ?_
  rintro e' w1 ⟨rfl, hb⟩
  obtain ⟨lo, hlo⟩ : ∃ n, n = placeLo cs p := ⟨_, rfl⟩
  obtain ⟨hi, hhi⟩ : ∃ n, n = placeHi cs p := ⟨_, rfl⟩
  rw [← hlo, ← hhi]
  have HLO := Lib.hid hlo
  have HHI := Lib.hid hhi
  clear hlo hhi
  have hg1 := blk_alloc (blk_below hb1 hb) (.cells #[.int .i64 lo, .int .i64 hi] 23)
  have hs1 := blk_new w1 (.cells #[.int .i64 lo, .int .i64 hi] 23)
  have hB := (hb.alloc hb.size (.cells #[.int .i64 lo, .int .i64 hi] 23))
  go_wp2_with fail
  generalize w1.alloc (.cells #[.int .i64 lo, .int .i64 hi] 23) = w2 at *
  have HG1 := Lib.hid hg1
  have HS1 := Lib.hid hs1
  have HB := Lib.hid hB
  clear hg1 hs1 hB hb1 hb
  refine start_ (n := 19) (ds := []) (S := fun W => SK w2 none W) #[false, false, false, false, false, false, false, false, false, false, false, false, false, false, false, false, false, false, false] (by kernel_rfl) rfl rfl (SK.drew (SK.refl _ _)) ?_
  intro hS
  obtain ⟨wd, hwd⟩ : ∃ wd, World.drew w2 = wd := ⟨_, rfl⟩
  rw [hwd] at hS ⊢
  have hbd : Below w2.heap.size w2 wd := hwd ▸ below_drew (Below.refl _ _)
  have HBD := Lib.hid hbd
  clear hbd hwd
  refine take_ (i := 0) (N := (some 9)) (v := ?_) #[true, false, false, false, false, false, false, false, false, false, false, false, false, false, false, false, false, false, false] rfl rfl (by kernel_rfl) (fun _ _ _ h => h) (Or.inl ⟨by rfl, ?_⟩) hS rfl ?_
  rotate_left
  · intro W hW; go_simp; with_reducible rfl
  simp only [Act.put, List.setIfInBounds_toArray, List.set_cons_zero, List.set_cons_succ]
  refine take_ (i := 1) (N := (some 10)) (v := ?_) #[true, true, false, false, false, false, false, false, false, false, false, false, false, false, false, false, false, false, false] rfl rfl (by kernel_rfl) (fun _ _ _ h => h) (Or.inl ⟨by rfl, ?_⟩) hS rfl ?_
  rotate_left
  · intro W hW; have q0 := SK.nth hW HS1.out (by simp) 0 rfl; go_simp; with_reducible rfl
  simp only [Act.put, List.setIfInBounds_toArray, List.set_cons_zero, List.set_cons_succ]
  refine take_ (i := 2) (N := (some 11)) (v := ?_) #[true, true, true, false, false, false, false, false, false, false, false, false, false, false, false, false, false, false, false] rfl rfl (by kernel_rfl) (fun _ _ _ h => h) (Or.inl ⟨by rfl, ?_⟩) hS rfl ?_
  rotate_left
  · intro W hW; go_simp; with_reducible rfl
  simp only [Act.put, List.setIfInBounds_toArray, List.set_cons_zero, List.set_cons_succ]
  refine take_ (i := 3) (N := (some 12)) (v := ?_) #[true, true, true, true, false, false, false, false, false, false, false, false, false, false, false, false, false, false, false] rfl rfl (by kernel_rfl) (fun _ _ _ h => h) (Or.inl ⟨by rfl, ?_⟩) hS rfl ?_
  rotate_left
  · intro W hW; go_simp; with_reducible rfl
  simp only [Act.put, List.setIfInBounds_toArray, List.set_cons_zero, List.set_cons_succ]
  refine take_ (i := 4) (N := (some 13)) (v := ?_) #[true, true, true, true, true, false, false, false, false, false, false, false, false, false, false, false, false, false, false] rfl rfl (by kernel_rfl) (fun _ _ _ h => h) (Or.inl ⟨by rfl, ?_⟩) hS rfl ?_
  rotate_left
  · intro W hW; go_simp; with_reducible rfl
  simp only [Act.put, List.setIfInBounds_toArray, List.set_cons_zero, List.set_cons_succ]
  refine take_ (i := 5) (N := (some 14)) (v := ?_) #[true, true, true, true, true, true, false, false, false, false, false, false, false, false, false, false, false, false, false] rfl rfl (by kernel_rfl) (fun _ _ _ h => h) (Or.inl ⟨by rfl, ?_⟩) hS rfl ?_
  rotate_left
  · intro W hW; go_simp; with_reducible rfl
  simp only [Act.put, List.setIfInBounds_toArray, List.set_cons_zero, List.set_cons_succ]
  refine take_ (i := 6) (N := (some 15)) (v := ?_) #[true, true, true, true, true, true, true, false, false, false, false, false, false, false, false, false, false, false, false] rfl rfl (by kernel_rfl) (fun _ _ _ h => h) (Or.inl ⟨by rfl, ?_⟩) hS rfl ?_
  rotate_left
  · intro W hW; have q0 := SK.nth hW HG1.out (by simp) 1 rfl; go_simp; with_reducible rfl
  simp only [Act.put, List.setIfInBounds_toArray, List.set_cons_zero, List.set_cons_succ]
  refine take_ (i := 7) (N := (some 16)) (v := ?_) #[true, true, true, true, true, true, true, true, false, false, false, false, false, false, false, false, false, false, false] rfl rfl (by kernel_rfl) (fun _ _ _ h => h) (Or.inl ⟨by rfl, ?_⟩) hS rfl ?_
  rotate_left
  · intro W hW; go_simp; with_reducible rfl
  simp only [Act.put, List.setIfInBounds_toArray, List.set_cons_zero, List.set_cons_succ]
  refine take_ (i := 8) (N := (some 17)) (v := ?_) #[true, true, true, true, true, true, true, true, true, false, false, false, false, false, false, false, false, false, false] rfl rfl (by kernel_rfl) (fun _ _ _ h => h) (Or.inl ⟨by rfl, ?_⟩) hS rfl ?_
  rotate_left
  · intro W hW; go_simp; with_reducible rfl
  simp only [Act.put, List.setIfInBounds_toArray, List.set_cons_zero, List.set_cons_succ]
  refine take_ (i := 9) (N := (some 18)) (v := ?_) #[true, true, true, true, true, true, true, true, true, true, false, false, false, false, false, false, false, false, false] rfl rfl (by kernel_rfl) (fun _ _ _ h => h) (Or.inl ⟨by rfl, ?_⟩) hS rfl ?_
  rotate_left
  · intro W hW; have q0 := SK.nth hW HS1.out (by simp) 1 rfl; go_simp; with_reducible rfl
  simp only [Act.put, List.setIfInBounds_toArray, List.set_cons_zero, List.set_cons_succ]
  refine take_ (i := 10) (N := (some 19)) (v := ?_) #[true, true, true, true, true, true, true, true, true, true, true, false, false, false, false, false, false, false, false] rfl rfl (by kernel_rfl) (fun _ _ _ h => h) (Or.inl ⟨by rfl, ?_⟩) hS rfl ?_
  rotate_left
  · intro W hW; go_simp; with_reducible rfl
  simp only [Act.put, List.setIfInBounds_toArray, List.set_cons_zero, List.set_cons_succ]
  refine take_ (i := 11) (N := (some 20)) (v := ?_) #[true, true, true, true, true, true, true, true, true, true, true, true, false, false, false, false, false, false, false] rfl rfl (by kernel_rfl) (fun _ _ _ h => h) (Or.inl ⟨by rfl, ?_⟩) hS rfl ?_
  rotate_left
  · intro W hW; go_simp; with_reducible rfl
  simp only [Act.put, List.setIfInBounds_toArray, List.set_cons_zero, List.set_cons_succ]
  refine take_ (i := 12) (N := (some 21)) (v := ?_) #[true, true, true, true, true, true, true, true, true, true, true, true, true, false, false, false, false, false, false] rfl rfl (by kernel_rfl) (fun _ _ _ h => h) (Or.inl ⟨by rfl, ?_⟩) hS rfl ?_
  rotate_left
  · intro W hW; go_simp; with_reducible rfl
  simp only [Act.put, List.setIfInBounds_toArray, List.set_cons_zero, List.set_cons_succ]
  refine take_ (i := 13) (N := (some 22)) (v := ?_) #[true, true, true, true, true, true, true, true, true, true, true, true, true, true, false, false, false, false, false] rfl rfl (by kernel_rfl) (fun _ _ _ h => h) (Or.inl ⟨by rfl, ?_⟩) hS rfl ?_
  rotate_left
  · intro W hW; go_simp; with_reducible rfl
  simp only [Act.put, List.setIfInBounds_toArray, List.set_cons_zero, List.set_cons_succ]
  refine take_ (i := 14) (N := (some 23)) (v := ?_) #[true, true, true, true, true, true, true, true, true, true, true, true, true, true, true, false, false, false, false] rfl rfl (by kernel_rfl) (fun _ _ _ h => h) (Or.inl ⟨by rfl, ?_⟩) hS rfl ?_
  rotate_left
  · intro W hW; have q0 := SK.nth hW HG1.out (by simp) 1 rfl; go_simp; with_reducible rfl
  simp only [Act.put, List.setIfInBounds_toArray, List.set_cons_zero, List.set_cons_succ]
  refine take_ (i := 15) (N := (some 24)) (v := ?_) #[true, true, true, true, true, true, true, true, true, true, true, true, true, true, true, true, false, false, false] rfl rfl (by kernel_rfl) (fun _ _ _ h => h) (Or.inl ⟨by rfl, ?_⟩) hS rfl ?_
  rotate_left
  · intro W hW; go_simp; with_reducible rfl
  simp only [Act.put, List.setIfInBounds_toArray, List.set_cons_zero, List.set_cons_succ]
  refine one_ (i := 16) (N := (some 25)) #[true, true, true, true, true, true, true, true, true, true, true, true, true, true, true, true, true, false, false] rfl rfl (by kernel_rfl) (by decide) ?_
  intro K hK
  have hb3 := HB.out.trans (HBD.out.mono HB.out.size)
  have HB3 := Lib.hid hb3
  clear hb3
  go_simp
  refine hK.out _ _ (SK.alloc hS _) (fun hS => ?_)
  (try simp only [Act.put, List.setIfInBounds_toArray, List.set_cons_zero, List.set_cons_succ])
  refine one_ (i := 17) (N := (some 26)) #[true, true, true, true, true, true, true, true, true, true, true, true, true, true, true, true, true, true, false] rfl rfl (by kernel_rfl) (by decide) ?_
  intro K hK
  go_simp
  refine (chase_so.calls 3 _ _ [decide ((lo : Int) < f), decide ((hi : Int) < f)] (soOf [decide ((lo : Int) < f), decide ((hi : Int) < f)]) _ (lit_C _ (by simp) (blk_new _ _)) (by simp) (so_f _ (by simp))).mono ?_
  rintro e' w4 ⟨rfl, ⟨nd, rfl⟩⟩
  refine hK.out _ _ (SK.below hS (pw_below_drewN (Below.refl _ _) _)) (fun hS => ?_)
  (try simp only [Act.put, List.setIfInBounds_toArray, List.set_cons_zero, List.set_cons_succ])
  refine take_ (i := 18) (N := (some 4)) (v := ?_) #[true, true, true, true, true, true, true, true, true, true, true, true, true, true, true, true, true, true, true] rfl rfl (by kernel_rfl) (fun _ _ _ h => h) (Or.inl ⟨by rfl, ?_⟩) hS rfl ?_
  rotate_left
  · intro W hW; go_simp; with_reducible rfl
  simp only [Act.put, List.setIfInBounds_toArray, List.set_cons_zero, List.set_cons_succ]
  refine done_ (by kernel_rfl) ?_
  go_wp2
  go_ret
  exact ⟨by simp [finOf, HLO.out, HHI.out], pw_below_drewN (HB3.out.alloc HB3.out.size _) _⟩
end Go.Proofs.Ytihfmphaajdhnaa.P
/-! Hand-made contracts of package chase: settled. -/
namespace Go.Proofs.Ytihfmphaajdhnaa.P
open Go.RowKit Go.Proofs.YtihfmphaajdhnaaW.PrintWords Go.Proofs.YtihfmphaajdhnaaW.PrintLast Go.Proofs.YtihfmphaajdhnaaW.PrintMore
set_option linter.unusedVariables false
set_option linter.unusedSimpArgs false

/-- Clocks bear the numbers of their pairs. -/
def Numbered (cs : List S65) : Prop := ∀ i, i < cs.length → (cl cs i).f1 = i
def settledOf (f : Int) (cs : List S65) : Bool := (List.range cs.length).all fun p => finOf f cs p != 1

set_option maxHeartbeats 1000000 in
set_option maxRecDepth 100000 in
theorem settled1_any {base g b : Nat} {e f : Int} {A : Option Addr} {c : Nat} {ps : List (List Int)} {cs : List S65} (w : World) (h : Opened w base g e f A c ps cs)
    (hb : w.heap[b]? = some (.cells #[.pointer (some ⟨g, 0, none⟩)] 69 (0, 0))) (x y : Int) (p : Nat) (hp : p < cs.length) :
    Calls Try.prog 70 #[.agg #[.int .i64 x, .int .i64 y, .int .i64 p], .pointer (some ⟨b, 0, none⟩)] w fun en w' => en = .returned (.bool (finOf f cs p == 1)) ∧ Below w.heap.size w w' := by
  have HOP := Lib.hid h
  have c0 := fun o => cell_alloc (blk_nth hb 0 rfl) o
  clear h hb
  go_enter Try.func70, Try.ntmps70
  go_wp2_with fail
  refine (final_any _ (HOP.out.below ((Below.refl _ _).alloc (Nat.le_refl _) _)) p hp).mono ?_
  rintro e' w1 ⟨rfl, hb1⟩
  go_wp2
  go_ret
  exact ⟨rfl, ((Below.refl _ _).alloc (Nat.le_refl _) _).trans (hb1.mono (by simp))⟩

set_option maxHeartbeats 1000000 in
set_option maxRecDepth 100000 in
theorem index_any {base g b : Nat} {e f : Int} {A : Option Addr} {c : Nat} {ps : List (List Int)} {cs : List S65} (w : World) (h : Opened w base g e f A c ps cs) (hn : Numbered cs)
    (hb : w.heap[b]? = some (.cells #[.pointer (some ⟨g, 0, none⟩)] 69 (0, 0))) {Av : Option Addr} {cv : Nat} (hC : Kd.C k65 w Av cs.length cs) :
    Calls Try.prog 84 #[.slice Av cs.length cv, .func (.func 70) #[] #[.pointer (some ⟨b, 0, none⟩)]] w fun en w' =>
      (∃ r : Int, en = .returned (.int .i64 r) ∧ (decide (0 ≤ r) = !settledOf f cs)) ∧ Below w.heap.size w w' := by
  obtain ⟨_, hmax⟩ := C_len hC
  have HOP := Lib.hid h
  have HN := Lib.hid hn
  have HBK := Lib.hid hb
  have HC := Lib.hid hC
  clear h hn hb hC
  go_enter Try.func84, Try.ntmps84
  go_wp2
  go_loopw [8] (fun i wr => ∃ k : Nat, i = .int .i64 k ∧ k ≤ cs.length ∧ Hid (∀ j, j < k → finOf f cs j ≠ 1) ∧ Hid (Below w.heap.size w wr)) (fun i _ => cs.length - (intOf i).toNat)
  case atStart => exact ⟨0, rfl, Nat.zero_le _, fun j hj => absurd hj (by omega), Below.refl _ _⟩
  case round =>
    obtain ⟨k, rfl, hk, HO, HB⟩ := hrel
    by_cases hlt : k < cs.length
    · obtain ⟨ad, had, q0, q1, q2⟩ := clock_at (Kd.C_below HC.out HB.out) k hlt
      cases had
      rw [HN.out k hlt] at q2
      go_wp2_with fail
      refine (settled1_any _ (HOP.out.below HB.out) (blk_below HBK.out HB.out) _ _ k hlt).mono ?_
      rintro e' w1 ⟨rfl, hb1⟩
      have HB1 := Lib.hid (HB.out.trans (hb1.mono HB.out.size))
      clear hb1 q0 q1 q2
      by_cases hf : finOf f cs k = 1
      · have HF := Lib.hid hf
        have t1 : (finOf f cs k == 1) = true := by simpa using hf
        clear hf
        go_wp2
        go_ret
        refine ⟨⟨_, rfl, ?_⟩, HB1.out⟩
        have : settledOf f cs = false := by
          unfold settledOf
          rw [List.all_eq_false]
          exact ⟨k, by simpa using hlt, by simp [HF.out]⟩
        rw [this]; simp
      · have t1 : (finOf f cs k == 1) = false := by simpa using hf
        have HF := Lib.hid hf
        clear hf
        go_wp2
        refine ⟨⟨k + 1, by go_num, by omega, fun j hj => ?_, HB1⟩, by simp [intOf]; omega⟩
        by_cases hjk : j = k
        · rw [hjk]; exact HF.out
        · exact HO.out j (by omega)
    · obtain rfl : k = cs.length := by omega
      go_wp2
      go_ret
      refine ⟨⟨_, rfl, ?_⟩, HB.out⟩
      have : settledOf f cs = true := by
        unfold settledOf
        rw [List.all_eq_true]
        intro p hp
        have := HO.out p (by simpa using hp)
        simpa using this
      rw [this]; simp

set_option maxHeartbeats 1000000 in
set_option maxRecDepth 100000 in
theorem contains_any {base g b : Nat} {e f : Int} {A : Option Addr} {c : Nat} {ps : List (List Int)} {cs : List S65} (w : World) (h : Opened w base g e f A c ps cs) (hn : Numbered cs)
    (hb : w.heap[b]? = some (.cells #[.pointer (some ⟨g, 0, none⟩)] 69 (0, 0))) {Av : Option Addr} {cv : Nat} (hC : Kd.C k65 w Av cs.length cs) :
    Calls Try.prog 69 #[.slice Av cs.length cv, .func (.func 70) #[] #[.pointer (some ⟨b, 0, none⟩)]] w fun en w' =>
      en = .returned (.bool (!settledOf f cs)) ∧ Below w.heap.size w w' := by
  have HOP := Lib.hid h
  have HN := Lib.hid hn
  have HBK := Lib.hid hb
  have HC := Lib.hid hC
  clear h hn hb hC
  go_enter Try.func69, Try.ntmps69
  go_wp2_with fail
  refine (index_any w HOP.out HN.out HBK.out HC.out).mono ?_
  rintro e' w1 ⟨⟨r, rfl, hr⟩, hb1⟩
  have HR := Lib.hid hr
  clear hr
  go_wp2
  go_ret
  exact ⟨by rw [← HR.out]; rfl, hb1⟩

set_option maxHeartbeats 1000000 in
set_option maxRecDepth 100000 in
theorem settled_any {base g : Nat} {e f : Int} {A : Option Addr} {c : Nat} {ps : List (List Int)} {cs : List S65} (w : World) (h : Opened w base g e f A c ps cs) (hn : Numbered cs) :
    Calls Try.prog 52 #[.pointer (some ⟨g, 0, none⟩)] w fun en w' => en = .returned (.bool (settledOf f cs)) ∧ Below w.heap.size w w' := by
  have hmf : ∀ (fn : Fn) (first cap : Array Value) (w : World), (Instr.makeFunc fn first cap).run Try.prog w = .ok (.func fn first cap) w := fun _ _ _ _ => rfl
  have h2 := h.below ((Below.refl _ _).alloc (Nat.le_refl _) (.cells #[.pointer (some ⟨g, 0, none⟩)] 69))
  have HOP := Lib.hid h2
  have HN := Lib.hid hn
  obtain ⟨v, hb1, hbase, hv⟩ := h2
  obtain ⟨Av, cv, rfl, hlc, hC⟩ := Kd.R_reads hv
  have c3 := blk_nth hb1 3 rfl
  have hbk := blk_new w (.cells #[.pointer (some ⟨g, 0, none⟩)] 69)
  have HC := Lib.hid hC
  have HBK := Lib.hid hbk
  clear h hn hv hb1 hC hbk
  go_enter Try.func52, Try.ntmps52
  go_wp2_with fail
  refine (contains_any _ HOP.out HN.out HBK.out HC.out).mono ?_
  rintro e' w1 ⟨rfl, hb1⟩
  go_wp2
  go_ret
  exact ⟨by simp, ((Below.refl _ _).alloc (Nat.le_refl _) _).trans (hb1.mono (by simp))⟩
end Go.Proofs.Ytihfmphaajdhnaa.P
/-! Hand-made contracts of package chase: settles. -/
namespace Go.Proofs.Ytihfmphaajdhnaa.P
open Go.RowKit Go.Proofs.YtihfmphaajdhnaaW.PrintWords Go.Proofs.YtihfmphaajdhnaaW.PrintLast Go.Proofs.YtihfmphaajdhnaaW.PrintMore
set_option linter.unusedVariables false
set_option linter.unusedSimpArgs false

set_option maxHeartbeats 1000000 in
set_option maxRecDepth 100000 in
theorem clone_any {ad : Addr} {cv : Nat} {cs : List S65} (w : World) (hC : Kd.C k65 w (some ad) cs.length cs) (hl : cs.length ≤ 6) :
    Calls Try.prog 72 #[.slice (some ad) cs.length cv] w fun en w' =>
      ∃ v, en = .returned v ∧ Kd.R k65 65 w' w.heap.size (fun _ => True) v cs ∧ Below w.heap.size w w' := by
  have HC := Lib.hid hC
  clear hC
  have hnil : ∀ u : World, (Go.binOp .eql 66 (.slice (some ad) cs.length cv) (.slice none 0 0)).run Try.prog u = .ok (.bool false) u := fun u => Lib.run_eql_slice_nil u 66 65 (some ad) cs.length cv 0 0 Try.underlying66
  go_enter Try.func72, Try.ntmps72
  go_wp2_with (first
    | ((with_reducible refine gate_dst (N := 5) rfl ?_); refine Kd.R_lit k65 w.heap.size 65 ?hg (N := 5) ?hd (xs := ([] : List S65)) (inner := []) (ok := fun _ => True) (okp := fun _ => True) ?hr ?hp (fun _ hk => hk) trivial (Below.refl _ _) (Nat.le_refl _) (by simp) ?_; (case hd => rfl); (case hg => rfl); (case hr => first | (go_simp; done) | (go_simp; rfl)); (case hp => exact Reps.none _ _); intro v1 w1 ho1 hb1 hg1 hnew1; have HO1 := Lib.hid ho1; have HB1 := Lib.hid hb1; clear ho1 hb1 hg1 hnew1)
    | (at_builtin; refine Kd.R_append_rows k65 (Rr := k65.K w1) (w0 := w) w.heap.size rfl (.tmp 5) (.tmp 6) 66 65 (.agg #[.int .i64 0, .int .i64 0, .int .i64 0]) 24 rfl Try.underlying66 info_clock rfl (by decide) (by decide) v1 [] cs (some ad) cs.length cv (fun _ => True) (fun _ => False) rfl rfl HO1.out (Kd.C_below HC.out HB1.out) (fun x cs' hx => by rw [k65_open hx]; exact k65_mkM _ _ _ _) (fun _ hk => hk.elim) (fun _ _ => trivial) HB1.out HB1.out.size (by simp; omega) ?_; intro v2 w2 ho2 hb2 hg2 hat2; have HO2 := Lib.hid ho2; have HB2 := Lib.hid hb2; clear ho2 hb2 hg2 hat2))
  go_ret
  exact ⟨_, rfl, by simpa using HO2.out, HB2.out⟩

def setT (cs : List S65) (p : Nat) (t : Int) : List S65 := cs.set p ⟨⟨t, t⟩, (cl cs p).f1⟩
/-- Is the final settled with each of a pair's times? -/
def settlesOf (f : Int) (cs : List S65) (p : Nat) : Bool := (List.range ((cl cs p).f0.f1 + 1 - (cl cs p).f0.f0).toNat).all fun (m : Nat) => settledOf f (setT cs p ((cl cs p).f0.f0 + m))
theorem setT_numbered {cs : List S65} (h : Numbered cs) (p : Nat) (t : Int) : Numbered (setT cs p t) := by
  intro i hi
  have hi' : i < cs.length := by simpa [setT] using hi
  have := h i hi'
  by_cases hip : i = p
  · subst hip
    rw [← this]
    simp [cl, setT, hi']
  · rw [← this]
    simp [cl, setT, List.getElem?_set, Ne.symm hip]

set_option maxHeartbeats 2000000 in
set_option maxRecDepth 100000 in
theorem settles_any {base g : Nat} {e f : Int} {A : Option Addr} {c : Nat} {ps : List (List Int)} {cs : List S65} (w : World) (h : Opened w base g e f A c ps cs) (hn : Numbered cs) (hl6 : cs.length ≤ 6)
    (p : Nat) (hp : p < cs.length) (hlo : 0 ≤ (cl cs p).f0.f0) (hhi : (cl cs p).f0.f1 ≤ 203) :
    Calls Try.prog 53 #[.pointer (some ⟨g, 0, none⟩), .int .i64 p] w fun en w' => en = .returned (.bool (settlesOf f cs p)) ∧ Below w.heap.size w w' := by
  have HOP := Lib.hid h
  have HN := Lib.hid hn
  obtain ⟨v, hb1, hbase, hv⟩ := h
  obtain ⟨Av, cv, rfl, hlc, hC⟩ := Kd.R_reads hv
  obtain ⟨_, hmax⟩ := C_len hC
  have hg := blk_lt hb1
  obtain ⟨ad, had, p0, p1, p2⟩ := clock_at hC p hp
  cases had
  obtain ⟨lo, hlo0⟩ : ∃ n, n = (cl cs p).f0.f0 := ⟨_, rfl⟩
  obtain ⟨hi, hhi0⟩ : ∃ n, n = (cl cs p).f0.f1 := ⟨_, rfl⟩
  rw [← hlo0] at p0 hlo
  rw [← hhi0] at p1 hhi
  have HLO := Lib.hid hlo0
  have HHI := Lib.hid hhi0
  have c3 := blk_nth hb1 3 rfl
  have HB1 := Lib.hid hb1
  have HC := Lib.hid hC
  clear hn hv hC hb1 hlo0 hhi0
  go_enter Try.func53, Try.ntmps53
  go_wp2
  clear p0 p1 p2 c3
  go_loopw [5] (fun i wr => ∃ m : Nat, i = .int .i64 (lo + m) ∧ (m = 0 ∨ lo + m ≤ hi + 1) ∧ Hid (∀ j : Nat, j < m → settledOf f (setT cs p (lo + j)) = true) ∧ Hid (Below w.heap.size w wr)) (fun i _ => (hi + 1 - intOf i).toNat)
  case atStart => exact ⟨0, by simp, .inl rfl, fun j hj => absurd hj (by omega), Below.refl _ _⟩
  case round =>
    obtain ⟨m, rfl, hm, HO, HB⟩ := hrel
    obtain ⟨ad', had, q0, q1, q2⟩ := clock_at (Kd.C_below HC.out HB.out) p hp
    cases had
    rw [← HLO.out] at q0
    rw [← HHI.out] at q1
    have hb1 := blk_below HB1.out HB.out
    have c0 := blk_nth hb1 0 rfl
    have c1 := blk_nth hb1 1 rfl
    have c2 := blk_nth hb1 2 rfl
    have c3 := blk_nth hb1 3 rfl
    have c3a := fun o => cell_alloc c3 o
    by_cases hle : lo + m ≤ hi
    · go_wp2_with fail
      clear c0 c1 c2 c3 c3a q0 q1 q2
      refine (clone_any _ (Kd.C_below HC.out (HB.out.alloc HB.out.size _)) hl6).mono ?_
      rintro e' w1 ⟨v2, rfl, hR2, hb2⟩
      have hsz : (wr.alloc (.cells #[.int .i64 e, .int .i64 f, .slice A ps.length c, .slice (some ad) cs.length cv] 68)).heap.size = wr.heap.size + 1 := by simp
      have hown1 := blk_below (blk_new wr (.cells #[.int .i64 e, .int .i64 f, .slice A ps.length c, .slice (some ad) cs.length cv] 68)) hb2
      have hR3 : Kd.R k65 65 w1 w.heap.size (fun k => k ≠ wr.heap.size) v2 cs :=
        Kd.R_lower (Kd.R_mono (Kd.R_bound hR2) (fun k hk => by have := hk.2.1; rw [hsz] at this; omega)) (by rw [hsz]; have := HB.out.size; omega)
      obtain ⟨g2, cap2, hv2⟩ : ∃ g2 cap2, v2 = .slice (some ⟨g2, 0, none⟩) cs.length cap2 := by
        obtain ⟨_, inner, ho, _⟩ := hR3
        rcases ho.2 with ⟨_, h0⟩ | ⟨g2, cap2, cur, hv, _⟩
        · omega
        · exact ⟨g2, cap2, hv⟩
      have hB1 : Below w.heap.size w w1 := (HB.out.alloc HB.out.size _).trans (hb2.mono (by rw [hsz]; have := HB.out.size; omega))
      subst hv2
      have co3 := blk_nth hown1 3 rfl
      have cz3 := blk_frozen hown1 3
      have HW1 := Lib.hid hown1
      have HR3 := Lib.hid (Kd.R_far (p := ⟨wr.heap.size, 3, none⟩) hR3 (fun k hk => hk) (.slice (some ⟨g2, 0, none⟩) cs.length cap2))
      have HB1W := Lib.hid (hB1.setCell (p := ⟨wr.heap.size, 3, none⟩) HB.out.size (.slice (some ⟨g2, 0, none⟩) cs.length cap2))
      clear hown1 hR2 hR3 hb2 hsz hB1
      obtain ⟨a2, ha2, r0, r1, r2⟩ := clock_at (by obtain ⟨A', c', he, _, hC'⟩ := Kd.R_reads HR3.out; cases he; exact hC') p hp
      cases ha2
      have HR0 := Lib.hid r0
      have HR1 := Lib.hid r1
      have HR2 := Lib.hid r2
      clear r0 r1 r2
      have hadd : (⟨g2, 0, none⟩ : Addr).add (p * 3) = ⟨g2, p * 3, none⟩ := by unfold Addr.add; split <;> simp_all
      have HADD := Lib.hid hadd
      clear hadd
      go_wp2_with (first | ((with_reducible refine gate_store (t := 23) (p := 45) rfl ?_); refine Kd.R_store k65 (w0 := w) w.heap.size rfl rfl 23 (.tmp 45) (.tmp 43) rfl 65 (g := g2) (n := cs.length) (cap := cap2) (o' := p * 3) (p : Int) 0 cs ⟨⟨lo + m, lo + m⟩, (cl cs p).f1⟩ (.agg #[.int .i64 (lo + m), .int .i64 (lo + m)]) [.int .i64 (lo + m), .int .i64 (lo + m)] [.int .i64 (cl cs p).f0.f0, .int .i64 (cl cs p).f0.f1, .int .i64 (cl cs p).f1] (fun k => k ≠ wr.heap.size) (fun _ => False) ?addr ?off ?hx rfl ?ht ?h1 HR3.out (by omega) (by omega) rfl ?hcc ?hj ?hM (fun _ h => h.elim) HB1W.out ?_))
      case addr => have hadd := HADD.out; first | (show Value.pointer (some (Addr.add ⟨g2, 0, none⟩ (p * 3))) = _; rw [hadd]) | rfl | (simp [Act.eval, hadd])
      case off => show p * 3 = (p : Int).toNat * 3 + 0; omega
      case hx => rfl
      case ht => kernel_rfl
      case h1 => intro q hq; simp at hq; subst hq; rfl
      case hcc =>
        intro j u hj
        have hadd := HADD.out
        show World.cell? _ ⟨g2, p * 3 + j, none⟩ = some u
        rw [hadd] at HR0 HR1 HR2
        match j, hj with
        | 0, hj => exact HR0.out.trans hj
        | 1, hj => exact HR1.out.trans hj
        | 2, hj => exact HR2.out.trans hj
        | j + 3, hj => simp at hj
      case hj => show 0 + 2 ≤ 3; omega
      case hM => exact k65_mkM _ _ _ ⟨⟨lo + m, lo + m⟩, (cl cs p).f1⟩
      intro w3 hR4 hB3 hg3
      have hne : some wr.heap.size ≠ some g2 := fun e1 => by injection e1 with e1; exact HR3.out.1 g2 (by simp [Value.ownBlock]) e1.symm
      have hown3 := blk_grown (blk_put HW1.out 3 (.slice (some ⟨g2, 0, none⟩) cs.length cap2) rfl) hg3 hne
      have hop3 : Opened w3 w.heap.size wr.heap.size e f A c ps (setT cs p (lo + m)) := ⟨_, hown3, HB.out.size, by simpa [setT] using hR4⟩
      have HOP3 := Lib.hid hop3
      have HB3 := Lib.hid hB3
      clear hR4 hB3 hg3 hne hown3 hop3
      go_wp2_with fail
      refine (settled_any _ HOP3.out (setT_numbered HN.out p _)).mono ?_
      rintro e' w4 ⟨rfl, hb4⟩
      have HB4 := Lib.hid (HB3.out.trans (hb4.mono HB3.out.size))
      clear hb4
      by_cases hs : settledOf f (setT cs p (lo + m)) = true
      · go_wp2
        have HS := Lib.hid hs
        clear hs
        refine ⟨⟨m + 1, by simp; omega, .inr (by omega), fun j hj => ?_, HB4⟩, by simp [intOf]; omega⟩
        by_cases hjm : j = m
        · rw [hjm]; exact HS.out
        · exact HO.out j (by omega)
      · simp only [Bool.not_eq_true] at hs
        go_wp2
        have HS := Lib.hid hs
        clear hs
        go_ret
        refine ⟨?_, HB4.out⟩
        have : settlesOf f cs p = false := by
          unfold settlesOf
          rw [List.all_eq_false, ← HLO.out, ← HHI.out]
          exact ⟨m, List.mem_range.2 (by omega), by simp [HS.out]⟩
        rw [this]; rfl
    · go_wp2
      go_ret
      refine ⟨?_, HB.out⟩
      have : settlesOf f cs p = true := by
        unfold settlesOf
        rw [List.all_eq_true, ← HLO.out, ← HHI.out]
        intro j hj
        exact HO.out j (by have := List.mem_range.1 hj; omega)
      rw [this]; rfl
end Go.Proofs.Ytihfmphaajdhnaa.P
/-! Hand-made contracts of package chase: Ask. -/
namespace Go.Proofs.Ytihfmphaajdhnaa.P
open Go.RowKit Go.Proofs.YtihfmphaajdhnaaW.PrintWords Go.Proofs.YtihfmphaajdhnaaW.PrintLast Go.Proofs.YtihfmphaajdhnaaW.PrintMore
set_option linter.unusedVariables false
set_option linter.unusedSimpArgs false

/-- The first pair that settles the final. -/
def askOf (f : Int) (cs : List S65) : Option Nat := (List.range cs.length).find? (settlesOf f cs)
theorem askOf_some {f : Int} {cs : List S65} {k : Nat} (hl : k < cs.length) (hk : settlesOf f cs k = true) (h : ∀ j, j < k → settlesOf f cs j = false) : askOf f cs = some k := by
  unfold askOf
  rw [List.find?_range_eq_some]
  exact ⟨hk, List.mem_range.2 hl, fun j hj => by simp [h j hj]⟩
theorem askOf_none {f : Int} {cs : List S65} (h : ∀ j, j < cs.length → settlesOf f cs j = false) : askOf f cs = none := by
  unfold askOf
  rw [List.find?_eq_none]
  intro j hj
  simp [h j (List.mem_range.1 hj)]

def chase_Ask.f (e f : Int) (ps : List (List Int)) : Option (Int × Int) :=
  if errOf e f ps true = 0 then (if settledOf f (clks e ps) then some (0, 11) else match askOf f (clks e ps) with | some p => some (p, 0) | none => some (0, 4)) else some (0, errOf e f ps true)
theorem chase_Ask.err {e f : Int} {ps : List (List Int)} {r1 r2 c : Int} (h : chase_Ask.f e f ps = some (r1, r2)) (he : errOf e f ps true = c) (hc : c ≠ 0) : r1 = 0 ∧ r2 = c := by
  unfold chase_Ask.f at h
  rw [he, if_neg hc] at h
  simp only [Option.some.injEq, Prod.mk.injEq] at h
  exact ⟨h.1.symm, h.2.symm⟩
theorem clks_numbered (e : Int) (ps : List (List Int)) : Numbered (clks e ps) := by
  intro i hi
  rw [clks_len] at hi
  simp [cl, clks, mkc, hi]
theorem clks_cl {e : Int} {ps : List (List Int)} {i : Nat} (hi : i < ps.length) : cl (clks e ps) i = mkc e (ps.getD i []) i := by
  simp [cl, clks, hi]
theorem clks_bd {e f : Int} {ps : List (List Int)} (h : vld e f ps = true) {i : Nat} (hi : i < ps.length) :
    0 ≤ (cl (clks e ps) i).f0.f0 ∧ (cl (clks e ps) i).f0.f0 ≤ 203 ∧ -3 ≤ (cl (clks e ps) i).f0.f1 ∧ (cl (clks e ps) i).f0.f1 ≤ 203 := by
  unfold vld at h
  rw [Bool.and_eq_true] at h
  obtain ⟨h1, h2, _⟩ := vld_head h.1
  rw [clks_cl hi]
  refine clk_bd e h1 h2 _ ?_
  have := List.all_eq_true.1 h.2 (ps[i]) (List.getElem_mem hi)
  rw [List.getD_eq_getElem?_getD, List.getElem?_eq_getElem hi]
  exact ((okL_iff _).1 this).2.2
theorem bad_le {cs : List S65} (h : bad cs = false) {k : Nat} (hk : k < cs.length) : (cl cs k).f0.f0 ≤ (cl cs k).f0.f1 := by
  by_cases hc : (cl cs k).f0.f1 < (cl cs k).f0.f0
  · rw [bad_at k hk hc] at h; cases h
  · omega
theorem vld_len {e f : Int} {ps : List (List Int)} (h : vld e f ps = true) : 1 ≤ ps.length ∧ ps.length ≤ 6 ∧ 1 ≤ f ∧ f ≤ ps.length := by
  unfold vld at h
  rw [Bool.and_eq_true] at h
  obtain ⟨_, _, h3⟩ := vld_head h.1
  exact h3

set_option maxHeartbeats 1000000 in
set_option maxRecDepth 100000 in
theorem chase_Ask.calls (a0_0 : Int) (a0_1 : Int) (A0_2 : Option Addr) (c0_2 : Nat) (l0_2 : List (List Int)) (r1 : Int) (r2 : Int) (w : World)
    (hr0_2 : Kd.C (Kd.slice 3 (Kd.int .i64)) w A0_2 l0_2.length l0_2) (hc0_2 : l0_2.length ≤ c0_2) (h : chase_Ask.f a0_0 a0_1 l0_2 = some (r1, r2)) :
    Calls Try.prog 18 #[.agg #[.int .i64 a0_0, .int .i64 a0_1, .slice A0_2 l0_2.length c0_2]] w fun en w' =>
      en = .returned (.tuple #[.int .i64 r1, .int .i64 r2]) ∧ Below w.heap.size w w' := by
  have hmf : ∀ (fn : Fn) (first cap : Array Value) (w : World), (Instr.makeFunc fn first cap).run Try.prog w = .ok (.func fn first cap) w := fun _ _ _ _ => rfl
  have HR := Lib.hid hr0_2
  have HF := Lib.hid h
  clear hr0_2 h
  go_enter_defers Try.func18, Try.ntmps18
  go_wp2_with fail
  obtain ⟨w3, hw3, k1, k3, hB⟩ := two_boxes w #[.int .i64 a0_0, .int .i64 a0_1, .slice A0_2 l0_2.length c0_2] #[.int .i64 0] 32 27
  rw [← hw3]
  have q0 := blk_nth k1 0 rfl
  have q1 := blk_nth k1 1 rfl
  have q2 := blk_nth k1 2 rfl
  have K1 := Lib.hid k1
  have K3 := Lib.hid k3
  have HB := Lib.hid hB
  clear k1 k3 hB hw3
  go_wp2_with fail
  clear q0 q1 q2
  refine (open_any _ _ _ _ _ _ _ (Kd.C_below HR.out HB.out)).mono ?_
  rintro en w5 ⟨hb5, (⟨hv, his, g, rfl, hop⟩ | ⟨hv, rfl⟩ | ⟨hv, his, rfl⟩)⟩
  rotate_left
  · skip
    change Leaves Try.prog Try.f18 _ _ _ (.panicking (refused 1)) _
    refine refused_leaves rec_Ask (blk_below K3.out hb5) ?_
    intro w2 hb2 hg2
    obtain ⟨rfl, rfl⟩ := chase_Ask.err HF.out (c := 1) (by simp [errOf, hv]) (by decide)
    exact ⟨_, results_num rfl rfl rfl (load_err hg2), rfl, (HB.out.trans (hb5.mono HB.out.size)).trans (hb2.mono (by omega))⟩
  · cases his
  have H5 := Lib.hid (HB.out.trans (hb5.mono HB.out.size))
  have HV := Lib.hid hv
  have HOP := Lib.hid hop
  have K35 := Lib.hid (blk_below K3.out hb5)
  clear hb5 hv hop
  go_wp2_with fail
  refine (told_any _ HOP.out).mono ?_
  rintro en w6 ⟨hb6, (⟨hbad, rfl⟩ | ⟨hbad, rfl⟩)⟩
  rotate_left
  · skip
    change Leaves Try.prog Try.f18 _ _ _ (.panicking (refused 10)) _
    refine refused_leaves rec_Ask (blk_below K35.out hb6) ?_
    intro w2 hb2 hg2
    obtain ⟨rfl, rfl⟩ := chase_Ask.err HF.out (c := 10) (by simp [errOf, HV.out, hbad]) (by decide)
    exact ⟨_, results_num rfl rfl rfl (load_err hg2), rfl, (H5.out.trans (hb6.mono H5.out.size)).trans (hb2.mono (by omega))⟩
  have H6 := Lib.hid (H5.out.trans (hb6.mono H5.out.size))
  have HOP6 := Lib.hid (HOP.out.below hb6)
  have K36 := Lib.hid (blk_below K35.out hb6)
  have HBAD := Lib.hid hbad
  clear hb6 hbad
  obtain ⟨hn1, hn6, _⟩ := vld_len HV.out
  have hlen := clks_len a0_0 l0_2
  go_wp2_with fail
  refine (settled_any _ HOP6.out (clks_numbered _ _)).mono ?_
  rintro en w7 ⟨rfl, hb7⟩
  have H7 := Lib.hid (H6.out.trans (hb7.mono H6.out.size))
  have HOP7 := Lib.hid (HOP6.out.below hb7)
  have K37 := Lib.hid (blk_below K36.out hb7)
  clear hb7
  by_cases hs : settledOf a0_1 (clks a0_0 l0_2) = true
  · have HS := Lib.hid hs
    rw [hs]
    clear hs
    go_wp2_with fail
    refine (want_no _ _).mono ?_
    rintro en w8 ⟨rfl, rfl⟩
    obtain ⟨rfl, rfl⟩ : r1 = 0 ∧ r2 = 11 := by
      have h := HF.out
      unfold chase_Ask.f at h
      rw [show errOf a0_0 a0_1 l0_2 true = 0 from by simp [errOf, HV.out, HBAD.out], if_pos rfl, if_pos HS.out] at h
      simp only [Option.some.injEq, Prod.mk.injEq] at h
      exact ⟨h.1.symm, h.2.symm⟩
    change Leaves Try.prog Try.f18 _ _ _ (.panicking (refused 11)) _
    refine refused_leaves rec_Ask K37.out ?_
    intro w2 hb2 hg2
    exact ⟨_, results_num rfl rfl rfl (load_err hg2), rfl, H7.out.trans (hb2.mono (by omega))⟩
  simp only [Bool.not_eq_true] at hs
  have HS := Lib.hid hs
  rw [hs]
  clear hs
  go_wp2_with fail
  refine (want_yes _ _).mono ?_
  rintro en w8 ⟨rfl, rfl⟩
  obtain ⟨v, hg1, hbase, hv⟩ := HOP7.out
  obtain ⟨Av, cv, rfl, hlc, hC⟩ := Kd.R_reads hv
  have c3 := blk_nth hg1 3 rfl
  clear hg1 hv hC
  go_wp2_with fail
  clear c3
  go_loopw [19] (fun i wr => ∃ k : Nat, i = .int .i64 k ∧ k ≤ l0_2.length ∧ Hid (∀ j, j < k → settlesOf a0_1 (clks a0_0 l0_2) j = false) ∧ Hid (Below w7.heap.size w7 wr)) (fun i _ => l0_2.length - (intOf i).toNat)
  case atStart => exact ⟨0, rfl, Nat.zero_le _, fun j hj => absurd hj (by omega), Below.refl _ _⟩
  case round =>
    obtain ⟨k, rfl, hk, HO, HBR⟩ := hrel
    have HKR := Lib.hid (blk_below K37.out HBR.out)
    have HR8 := Lib.hid (H7.out.trans (HBR.out.mono H7.out.size))
    by_cases hlt : k < l0_2.length
    · obtain ⟨b1, b2, b3, b4⟩ := clks_bd HV.out hlt
      have hlo := bad_le HBAD.out (k := k) (by omega)
      go_wp2_with fail
      refine (settles_any _ (HOP7.out.below HBR.out) (clks_numbered _ _) (by omega) k (by omega) b1 b4).mono ?_
      rintro en w9 ⟨rfl, hb9⟩
      have HKR9 := Lib.hid (blk_below HKR.out hb9)
      have HB9 := Lib.hid (HBR.out.trans (hb9.mono HBR.out.size))
      have HR9 := Lib.hid (HR8.out.trans (hb9.mono HR8.out.size))
      clear hb9
      by_cases hs : settlesOf a0_1 (clks a0_0 l0_2) k = true
      · have HS9 := Lib.hid hs
        rw [hs]
        clear hs
        have c0 := blk_nth HKR9.out 0 rfl
        have f0 := blk_frozen HKR9.out 0
        go_wp2
        obtain ⟨rfl, rfl⟩ : r1 = k ∧ r2 = 0 := by
          have h := HF.out
          unfold chase_Ask.f at h
          rw [show errOf a0_0 a0_1 l0_2 true = 0 from by simp [errOf, HV.out, HBAD.out], if_pos rfl, HS.out, askOf_some (k := k) (by omega) HS9.out HO.out] at h
          simp only [Bool.false_eq_true, if_false, Option.some.injEq, Prod.mk.injEq] at h
          exact ⟨h.1.symm, h.2.symm⟩
        change Leaves Try.prog Try.f18 _ _ _ .returning _
        refine settled_leaves rec_Ask (results_num rfl rfl rfl (load_err (blk_put HKR9.out 0 _ rfl))) ⟨by simp, ?_⟩
        exact HR9.out.setCell (by simp) _
      · simp only [Bool.not_eq_true] at hs
        have HS9 := Lib.hid hs
        rw [hs]
        clear hs
        go_wp2
        refine ⟨⟨k + 1, by go_num, by omega, fun j hj => ?_, HB9⟩, by simp [intOf]; omega⟩
        by_cases hjk : j = k
        · rw [hjk]; exact HS9.out
        · exact HO.out j (by omega)
    · obtain rfl : k = l0_2.length := by omega
      have c0 := blk_nth HKR.out 0 rfl
      have f0 := blk_frozen HKR.out 0
      go_wp2
      obtain ⟨rfl, rfl⟩ : r1 = 0 ∧ r2 = 4 := by
        have h := HF.out
        unfold chase_Ask.f at h
        rw [show errOf a0_0 a0_1 l0_2 true = 0 from by simp [errOf, HV.out, HBAD.out], if_pos rfl, HS.out, askOf_none (fun j hj => HO.out j (by omega))] at h
        simp only [Bool.false_eq_true, if_false, Option.some.injEq, Prod.mk.injEq] at h
        exact ⟨h.1.symm, h.2.symm⟩
      change Leaves Try.prog Try.f18 _ _ _ .returning _
      refine settled_leaves rec_Ask (results_num rfl rfl rfl (load_err (blk_put HKR.out 0 _ rfl))) ⟨by simp, ?_⟩
      exact HR8.out.setCell (by simp) _
end Go.Proofs.Ytihfmphaajdhnaa.P
/-! Hand-made contracts of package chase: fewest, Wrong's closure. -/
namespace Go.Proofs.Ytihfmphaajdhnaa.P
open Go.RowKit Go.Proofs.YtihfmphaajdhnaaW.PrintWords Go.Proofs.YtihfmphaajdhnaaW.PrintLast Go.Proofs.YtihfmphaajdhnaaW.PrintMore
set_option linter.unusedVariables false
set_option linter.unusedSimpArgs false

/-- A pair's clock by those of its watches that are not in a set. -/
def clkBut (e : Int) (l : List Int) (s : Nat) : Int × Int := l.zipIdx.foldl (fun k x => if s.testBit x.2 then k else nar e k x.1) (0, 203)
def okBut (e : Int) (l : List Int) (s : Nat) : Bool := decide ((clkBut e l s).1 ≤ (clkBut e l s).2)
theorem clkBut_take (e : Int) (l : List Int) (s k : Nat) (h : k < l.length) : clkBut e (l.take (k + 1)) s = if s.testBit k then clkBut e (l.take k) s else nar e (clkBut e (l.take k) s) (l.getD k 0) := by
  rw [List.take_succ_eq_append_getElem h, clkBut, List.zipIdx_append, List.foldl_append]
  simp [clkBut, List.getElem?_eq_getElem h, Nat.min_eq_left (Nat.le_of_lt h)]
/-- How many are in a set of at most three. -/
def pop3 (s : Nat) : Nat := s % 2 + s / 2 % 2 + s / 4 % 2
theorem pop3_f (s : Nat) (h : s < 8) : bits_OnesCount.f (s : Int) = some (pop3 s : Int) := by
  have : s = 0 ∨ s = 1 ∨ s = 2 ∨ s = 3 ∨ s = 4 ∨ s = 5 ∨ s = 6 ∨ s = 7 := by omega
  rcases this with rfl | rfl | rfl | rfl | rfl | rfl | rfl | rfl <;> first | rfl | decide +kernel
theorem and3 (s j : Nat) (h : s < 8) (hj : j < 3) : Go.bits .and .u64 ((s : Int) / 2 ^ j) 1 = ((s / 2 ^ j % 2 : Nat) : Int) := by
  have h1 : s = 0 ∨ s = 1 ∨ s = 2 ∨ s = 3 ∨ s = 4 ∨ s = 5 ∨ s = 6 ∨ s = 7 := by omega
  have h2 : j = 0 ∨ j = 1 ∨ j = 2 := by omega
  rcases h1 with rfl | rfl | rfl | rfl | rfl | rfl | rfl | rfl <;> rcases h2 with rfl | rfl | rfl <;> first | rfl | decide +kernel
theorem bit3 (s j : Nat) : s.testBit j = decide (s / 2 ^ j % 2 = 1) := by
  rw [Nat.testBit_eq_decide_div_mod_eq]

set_option maxHeartbeats 1000000 in
set_option maxRecDepth 100000 in
theorem wrong2_any {bl bx : Nat} {e f : Int} {A0 A : Option Addr} {c0 c n : Nat} {l : List Int} (w : World) (s : Nat) (hs : s < 8)
    (hl : w.heap[bl]? = some (.cells #[.slice A0 l.length c0] 40 (0, 0))) (hx : w.heap[bx]? = some (.cells #[.int .i64 e, .int .i64 f, .slice A n c] 32 (0, 0)))
    (hC : (Kd.int .i64).C w A0 l.length l) (he : 0 ≤ e ∧ e ≤ 3) (hok : okL l = true) :
    Calls Try.prog 47 #[.int .u64 s, .pointer (some ⟨bl, 0, none⟩), .pointer (some ⟨bx, 0, none⟩)] w fun en w' =>
      en = .returned (.bool (okBut e l s)) ∧ Below w.heap.size w w' := by
  obtain ⟨h1, h3, hall⟩ := (okL_iff l).1 hok
  have HC := Lib.hid hC
  have HL := Lib.hid hl
  have HX := Lib.hid hx
  have HALL := Lib.hid hall
  have p0 := fun o => cell_alloc (blk_nth hl 0 rfl) o
  clear hC hl hx hall hok
  go_enter Try.func47, Try.ntmps47
  go_wp2_with fail
  clear p0
  go_loopw [12] (fun i wr => ∃ j : Nat, i = .int .i64 j ∧ j ≤ l.length ∧ Hid (Below w.heap.size w wr) ∧ Hid (wr.heap[w.heap.size]? = some (.cells #[.int .i64 (clkBut e (l.take j) s).1, .int .i64 (clkBut e (l.take j) s).2, .int .i64 0] 65 (0, 0)))) (fun i _ => l.length - (intOf i).toNat)
  case atStart => exact ⟨0, rfl, Nat.zero_le _, (Below.refl _ _).alloc (Nat.le_refl _) _, blk_new _ _⟩
  case round =>
    obtain ⟨j, rfl, hj, HB, HK⟩ := hrel
    by_cases hjl : j < l.length
    · obtain ⟨al, hal, hcl⟩ := int_at (Kd.C_below HC.out HB.out) j hjl
      obtain ⟨n, hn0⟩ : ∃ n, n = l.getD j 0 := ⟨_, rfl⟩
      rw [← hn0] at hcl
      have HN := Lib.hid hn0
      clear hn0
      subst hal
      have han := and3 s j hs (by omega)
      have hb := bit3 s j
      have hm := Nat.mod_two_eq_zero_or_one (s / 2 ^ j)
      obtain ⟨q, hq⟩ : ∃ q, q = s / 2 ^ j % 2 := ⟨_, rfl⟩
      simp only [← hq] at han hb hm
      have HQ := Lib.hid hq
      clear hq
      rcases hm with rfl | rfl
      · obtain ⟨lo, hlo⟩ : ∃ x, x = (clkBut e (l.take j) s).1 := ⟨_, rfl⟩
        obtain ⟨hi, hhi⟩ : ∃ x, x = (clkBut e (l.take j) s).2 := ⟨_, rfl⟩
        have hk := HK.out
        rw [← hlo, ← hhi] at hk
        have HLO := Lib.hid hlo
        have HHI := Lib.hid hhi
        clear hlo hhi
        have x0 := blk_nth (blk_below HX.out HB.out) 0 rfl
        have k0 := blk_nth hk 0 rfl
        have k1 := blk_nth hk 1 rfl
        have k2 := blk_nth hk 2 rfl
        have HKK := Lib.hid hk
        have hn := HALL.out n (by rw [HN.out, List.getD_eq_getElem?_getD, List.getElem?_eq_getElem hjl]; exact List.getElem_mem hjl)
        clear hk
        go_wp2_with fail
        refine (narrowed_any _ _ _ _ _ _ he.1 he.2 hn.1 hn.2).mono ?_
        rintro e' w2 ⟨rfl, hb2⟩
        have hk2 := blk_below HKK.out hb2
        clear x0 k0 k1 k2
        have c0 := blk_nth hk2 0 rfl
        have c1 := blk_nth hk2 1 rfl
        have c2 := blk_nth hk2 2 rfl
        have z0 := blk_frozen hk2 0
        have z1 := blk_frozen hk2 1
        have z2 := blk_frozen hk2 2
        have HB2 := Lib.hid hb2
        have HK2 := Lib.hid hk2
        clear hb2 hk2
        go_wp2
        refine ⟨⟨j + 1, by go_num, by omega, ?_, ?_⟩, by simp [intOf]; omega⟩
        · exact (((HB.out.trans (HB2.out.mono HB.out.size)).setCell (Nat.le_refl _) _).setCell (Nat.le_refl _) _).setCell (Nat.le_refl _) _
        · rw [clkBut_take e l s j hjl, hb, ← HN.out, show clkBut e (List.take j l) s = (lo, hi) from by rw [HLO.out, HHI.out]]
          exact blk_put (blk_put (blk_put HK2.out 0 _ rfl) 1 _ rfl) 2 _ rfl
      · go_wp2
        refine ⟨⟨j + 1, by go_num, by omega, HB, ?_⟩, by simp [intOf]; omega⟩
        rw [clkBut_take e l s j hjl, hb]
        exact HK
    · obtain rfl : j = l.length := by omega
      have k0 := blk_nth HK.out 0 rfl
      have k1 := blk_nth HK.out 1 rfl
      go_wp2
      go_ret
      exact ⟨rfl, HB.out⟩

/-- The smallest set so far, of those that a Boolean function takes. -/
def bestOf (n : Nat) (P : Nat → Bool) (k : Nat) : Nat := (List.range k).foldl (fun b s => if pop3 s < pop3 b && P s then s else b) (2 ^ n - 1)
theorem bestOf_succ (n : Nat) (P : Nat → Bool) (k : Nat) : bestOf n P (k + 1) = if pop3 k < pop3 (bestOf n P k) && P k then k else bestOf n P k := by
  unfold bestOf
  rw [List.range_succ, List.foldl_append]
  rfl
theorem bestOf_lt (n : Nat) (P : Nat → Bool) (k : Nat) (hk : k ≤ 2 ^ n) : bestOf n P k < 2 ^ n := by
  induction k with
  | zero => have := Nat.two_pow_pos n; show 2 ^ n - 1 < 2 ^ n; omega
  | succ k ih => rw [bestOf_succ]; split; exact hk; exact ih (by omega)

set_option maxHeartbeats 1000000 in
set_option maxRecDepth 100000 in
theorem fewest_any {f1 f2 : Value} (n : Nat) (h1 : 1 ≤ n) (h3 : n ≤ 3) (P : Nat → Bool) (w : World)
    (hc : ∀ (s : Nat) (w1 : World), s < 8 → Below w.heap.size w w1 → Calls Try.prog 47 #[.int .u64 s, f1, f2] w1 fun en w' => en = .returned (.bool (P s)) ∧ Below w1.heap.size w1 w') :
    Calls Try.prog 46 #[.int .i64 n, .agg #[.func (.func 47) #[] #[f1, f2]]] w fun en w' =>
      en = .returned (.int .u64 (bestOf n P (2 ^ n))) ∧ Below w.heap.size w w' := by
  have HC := Lib.hid hc
  clear hc
  have h8 : 2 ^ n ≤ 8 := by have h : n = 1 ∨ n = 2 ∨ n = 3 := by omega
                            rcases h with rfl | rfl | rfl <;> decide
  have hw1 : IntKind.u64.wrap ((2 : Int) ^ n) = ((2 ^ n : Nat) : Int) := by
    have h : n = 1 ∨ n = 2 ∨ n = 3 := by omega
    rcases h with rfl | rfl | rfl <;> rfl
  have hw2 : IntKind.u64.wrap (((2 ^ n : Nat) : Int) - 1) = ((bestOf n P 0 : Nat) : Int) := by
    have h : n = 1 ∨ n = 2 ∨ n = 3 := by omega
    rcases h with rfl | rfl | rfl <;> rfl
  obtain ⟨m, hm⟩ : ∃ m, m = 2 ^ n := ⟨_, rfl⟩
  have HLT := Lib.hid (bestOf_lt n P)
  rw [← hm] at hw1 hw2 h8 HLT ⊢
  have HM := Lib.hid hm
  clear hm
  go_enter Try.func46, Try.ntmps46
  go_wp2_with fail
  go_loopw [14, 5] (fun i b wr => ∃ k : Nat, i = .int .u64 k ∧ b = .int .u64 (bestOf n P k : Nat) ∧ k ≤ m ∧ Hid (Below w.heap.size w wr) ∧ Hid (wr.heap[w.heap.size]? = some (.cells #[.func (.func 47) #[] #[f1, f2]] 82 (0, 0)))) (fun i _ _ => m - (intOf i).toNat)
  case atStart => exact ⟨0, rfl, by first | rfl | simp [hw1, hw2], Nat.zero_le _, (Below.refl _ _).alloc (Nat.le_refl _) _, blk_new _ _⟩
  case round =>
    obtain ⟨k, rfl, rfl, hk, HB, HK⟩ := hrel
    have hlt := HLT.out k hk
    by_cases hkm : k < m
    · have hpk := pop3_f k (by omega)
      have hpb := pop3_f (bestOf n P k) (by omega)
      have c0 := blk_nth HK.out 0 rfl
      go_wp2_with fail
      refine (bits_OnesCount.calls _ _ _ hpk).mono ?_
      rintro en w1 ⟨rfl, hd1⟩
      have HB1 := Lib.hid (HB.out.trans (hd1.below.mono HB.out.size))
      have HK1 := Lib.hid (blk_below HK.out hd1.below)
      clear hd1 c0
      go_wp2_with fail
      refine (bits_OnesCount.calls _ _ _ hpb).mono ?_
      rintro en w2 ⟨rfl, hd2⟩
      have HB2 := Lib.hid (HB1.out.trans (hd2.below.mono HB1.out.size))
      have HK2 := Lib.hid (blk_below HK1.out hd2.below)
      clear hd2
      have c0 := blk_nth HK2.out 0 rfl
      have hsucc := bestOf_succ n P k
      by_cases hlp : pop3 k < pop3 (bestOf n P k)
      · go_wp2_with fail
        refine (HC.out k w2 (by omega) HB2.out).mono ?_
        rintro en w3 ⟨rfl, hb3⟩
        have HB3 := Lib.hid (HB2.out.trans (hb3.mono HB2.out.size))
        have HK3 := Lib.hid (blk_below HK2.out hb3)
        clear hb3 c0
        cases hpk : P k
        · go_wp2
          refine ⟨⟨k + 1, by go_num, ?_, by omega, HB3, HK3⟩, by simp [intOf]; omega⟩
          rw [hsucc]; simp [hlp, hpk]
        · go_wp2
          refine ⟨⟨k + 1, by go_num, ?_, by omega, HB3, HK3⟩, by simp [intOf]; omega⟩
          rw [hsucc]; simp [hlp, hpk]
      · go_wp2
        refine ⟨⟨k + 1, by go_num, ?_, by omega, HB2, HK2⟩, by simp [intOf]; omega⟩
        rw [hsucc]; simp [hlp]
    · obtain rfl : k = m := by omega
      go_wp2
      go_ret
      exact ⟨rfl, HB.out⟩
end Go.Proofs.Ytihfmphaajdhnaa.P
/-! Hand-made contracts of package chase: Wrong. -/
namespace Go.Proofs.Ytihfmphaajdhnaa.P
open Go.RowKit Go.Proofs.YtihfmphaajdhnaaW.PrintWords Go.Proofs.YtihfmphaajdhnaaW.PrintLast Go.Proofs.YtihfmphaajdhnaaW.PrintMore
set_option linter.unusedVariables false
set_option linter.unusedSimpArgs false

def errWr (e f : Int) (ps : List (List Int)) (ok : Bool) : Int := if vld e f ps then (if ok then 0 else 2) else 1
def chase_Wrong.f (e f : Int) (ps : List (List Int)) (p : Int) : Option (Int × Int) :=
  if errWr e f ps (isP ps p) = 0 then some ((bestOf (ps.getD p.toNat []).length (okBut e (ps.getD p.toNat [])) (2 ^ (ps.getD p.toNat []).length) : Nat), 0) else some (0, errWr e f ps (isP ps p))
theorem chase_Wrong.err {e f : Int} {ps : List (List Int)} {p r1 r2 c : Int} (h : chase_Wrong.f e f ps p = some (r1, r2)) (he : errWr e f ps (isP ps p) = c) (hc : c ≠ 0) : r1 = 0 ∧ r2 = c := by
  unfold chase_Wrong.f at h
  rw [he, if_neg hc] at h
  simp only [Option.some.injEq, Prod.mk.injEq] at h
  exact ⟨h.1.symm, h.2.symm⟩
theorem vld_row {e f : Int} {ps : List (List Int)} (h : vld e f ps = true) {i : Nat} (hi : i < ps.length) : okL (ps.getD i []) = true := by
  unfold vld at h
  rw [Bool.and_eq_true] at h
  have := List.all_eq_true.1 h.2 (ps[i]) (List.getElem_mem hi)
  rwa [List.getD_eq_getElem?_getD, List.getElem?_eq_getElem hi]
theorem vld_err {e f : Int} {ps : List (List Int)} (h : vld e f ps = true) : 0 ≤ e ∧ e ≤ 3 := by
  unfold vld at h
  rw [Bool.and_eq_true] at h
  obtain ⟨h1, h2, _⟩ := vld_head h.1
  exact ⟨h1, h2⟩

set_option maxHeartbeats 1000000 in
set_option maxRecDepth 100000 in
theorem chase_Wrong.calls (a0_0 : Int) (a0_1 : Int) (A0_2 : Option Addr) (c0_2 : Nat) (l0_2 : List (List Int)) (a1 : Int) (r1 : Int) (r2 : Int) (w : World)
    (hr0_2 : Kd.C (Kd.slice 3 (Kd.int .i64)) w A0_2 l0_2.length l0_2) (hc0_2 : l0_2.length ≤ c0_2) (h : chase_Wrong.f a0_0 a0_1 l0_2 a1 = some (r1, r2)) :
    Calls Try.prog 16 #[.agg #[.int .i64 a0_0, .int .i64 a0_1, .slice A0_2 l0_2.length c0_2], .int .i64 a1] w fun en w' =>
      en = .returned (.tuple #[.int .i64 r1, .int .i64 r2]) ∧ Below w.heap.size w w' := by
  have hmf : ∀ (fn : Fn) (first cap : Array Value) (w : World), (Instr.makeFunc fn first cap).run Try.prog w = .ok (.func fn first cap) w := fun _ _ _ _ => rfl
  have HR := Lib.hid hr0_2
  have HF := Lib.hid h
  clear hr0_2 h
  go_enter_defers Try.func16, Try.ntmps16
  go_wp2_with fail
  obtain ⟨w3, hw3, k2, k5, hB⟩ := two_boxes w #[.int .i64 a0_0, .int .i64 a0_1, .slice A0_2 l0_2.length c0_2] #[.int .i64 0] 32 27
  rw [← hw3]
  have K2 := Lib.hid k2
  have K5 := Lib.hid k5
  have HB := Lib.hid hB
  clear k2 k5 hB hw3
  refine wp_ins 4 5 ?_
  refine start_ (n := 5) (ds := []) (S := fun W => SK w3 none W) #[false, false, false, false, false] (by kernel_rfl) rfl rfl (SK.drew (SK.refl _ _)) ?_
  intro hS
  obtain ⟨wd, hwd⟩ : ∃ wd, World.drew w3 = wd := ⟨_, rfl⟩
  rw [hwd] at hS ⊢
  have hbd : Below w3.heap.size w3 wd := hwd ▸ below_drew (Below.refl _ _)
  have HBD := Lib.hid hbd
  clear hbd hwd
  refine take_ (i := 0) (N := (some 8)) (v := ?_) #[true, false, false, false, false] rfl rfl (by kernel_rfl) (ins_put (by decide) (by decide)) (Or.inl ⟨by rfl, ?_⟩) hS rfl ?_
  rotate_left
  · intro W hW; have q0 := SK.nth hW K2.out (by simp) 0 rfl; have q1 := SK.nth hW K2.out (by simp) 1 rfl; have q2 := SK.nth hW K2.out (by simp) 2 rfl; go_simp; with_reducible rfl
  simp only [Act.put, List.setIfInBounds_toArray, List.set_cons_zero, List.set_cons_succ]
  refine take_ (i := 1) (N := (some 9)) (v := ?_) #[true, true, false, false, false] rfl rfl (by kernel_rfl) (ins_put (by decide) (by decide)) (Or.inl ⟨by rfl, ?_⟩) hS rfl ?_
  rotate_left
  · intro W hW; have q0 := SK.nth hW K2.out (by simp) 0 rfl; have q1 := SK.nth hW K2.out (by simp) 1 rfl; have q2 := SK.nth hW K2.out (by simp) 2 rfl; go_simp; with_reducible rfl
  simp only [Act.put, List.setIfInBounds_toArray, List.set_cons_zero, List.set_cons_succ]
  refine take_ (i := 2) (N := (some 10)) (v := ?_) #[true, true, true, false, false] rfl rfl (by kernel_rfl) (ins_put (by decide) (by decide)) (Or.inl ⟨by rfl, ?_⟩) hS rfl ?_
  rotate_left
  · intro W hW; go_simp; with_reducible rfl
  simp only [Act.put, List.setIfInBounds_toArray, List.set_cons_zero, List.set_cons_succ]
  refine one_ (i := 3) (N := (some 11)) #[true, true, true, true, false] rfl rfl (by kernel_rfl) (by decide) ?_
  intro K hK
  go_simp
  have hwd := HB.out.trans (HBD.out.mono HB.out.size)
  refine (isPair_any _ _ _ _ _ _ _ (Kd.C_below HR.out hwd) hc0_2).mono ?_
  rintro e' w4 ⟨rfl, hb4⟩
  have H4 := Lib.hid (hwd.trans (hb4.mono hwd.size))
  clear hwd
  refine hK.out _ _ (SK.below hS hb4) (fun hS => ?_)
  clear hb4
  (try simp only [Act.put, List.setIfInBounds_toArray, List.set_cons_zero, List.set_cons_succ])
  refine one_ (i := 4) (N := (some 12)) #[true, true, true, true, true] rfl rfl (by kernel_rfl) (by decide) ?_
  intro K hK
  go_simp
  refine (open_any _ _ _ _ _ _ _ (Kd.C_below HR.out H4.out)).mono ?_
  rintro en w5 ⟨hb5, (⟨hv, his, g, rfl, hop⟩ | ⟨hv, rfl⟩ | ⟨hv, his, rfl⟩)⟩
  rotate_left
  · intro a' e4 e5 ed
    change Leaves Try.prog Try.f16 a'.tmps _ a'.defers (.panicking (refused 1)) _
    rw [ed]
    refine refused_leaves rec_Wrong (SK.blk (SK.below hS hb5) K5.out (by simp)) ?_
    intro w2 hb2 hg2
    obtain ⟨rfl, rfl⟩ := chase_Wrong.err HF.out (c := 1) (by simp [errWr, hv]) (by decide)
    exact ⟨_, results_num rfl (by rw [e4]; rfl) (by rw [e5]; rfl) (load_err hg2), rfl, (H4.out.trans (hb5.mono H4.out.size)).trans (hb2.mono (by omega))⟩
  · intro a' e4 e5 ed
    change Leaves Try.prog Try.f16 a'.tmps _ a'.defers (.panicking (refused 2)) _
    rw [ed]
    refine refused_leaves rec_Wrong (SK.blk (SK.below hS hb5) K5.out (by simp)) ?_
    intro w2 hb2 hg2
    obtain ⟨rfl, rfl⟩ := chase_Wrong.err HF.out (c := 2) (by simp [errWr, hv, his]) (by decide)
    exact ⟨_, results_num rfl (by rw [e4]; rfl) (by rw [e5]; rfl) (load_err hg2), rfl, (H4.out.trans (hb5.mono H4.out.size)).trans (hb2.mono (by omega))⟩
  have H5 := Lib.hid (H4.out.trans (hb5.mono H4.out.size))
  have HV := Lib.hid hv
  have HIS := Lib.hid his
  have K55 := Lib.hid (SK.blk (SK.below hS hb5) K5.out (by simp))
  have K25 := Lib.hid (SK.blk (SK.below hS hb5) K2.out (by simp))
  refine hK.out _ _ (SK.below hS hb5) (fun hS => ?_)
  clear hb5 hv his hop
  (try simp only [Act.put, List.setIfInBounds_toArray, List.set_cons_zero, List.set_cons_succ])
  refine done_ (by kernel_rfl) ?_
  obtain ⟨p, rfl, hp⟩ := isP_iff HIS.out
  obtain ⟨ad, A0, c0, rfl, hcell, hc0, hl⟩ := row_at (Kd.C_below HR.out H5.out) p hp
  have hmax := (C_len HR.out).2
  have hokl := vld_row HV.out hp
  obtain ⟨he0, he3⟩ := vld_err HV.out
  obtain ⟨l, hl0⟩ : ∃ l, l = l0_2.getD p [] := ⟨_, rfl⟩
  rw [← hl0] at hcell hc0 hl hokl
  have HL0 := Lib.hid hl0
  have HL := Lib.hid hl
  have HOKL := Lib.hid hokl
  obtain ⟨hl1, hl3, _⟩ := (okL_iff l).1 hokl
  clear hl0 hl hokl
  have q2 := blk_nth K25.out 2 rfl
  simp only [Ins]
  go_wp2_with fail
  have hb6 := (Below.refl w5.heap.size w5).alloc (Nat.le_refl _) (.cells #[.slice A0 l.length c0] 40)
  have hn6 := blk_new w5 (.cells #[.slice A0 l.length c0] 40)
  generalize w5.alloc (.cells #[.slice A0 l.length c0] 40) = w6 at *
  have HB6 := Lib.hid hb6
  have HN6 := Lib.hid hn6
  clear hb6 hn6 q2 hcell
  refine (fewest_any l.length hl1 hl3 (okBut a0_0 l) _ (fun s w7 hs hb7 => wrong2_any (f := a0_1) w7 s hs (blk_below HN6.out hb7) (blk_below (blk_below K25.out HB6.out) hb7) (Kd.C_below HL.out (HB6.out.trans (hb7.mono HB6.out.size))) ⟨he0, he3⟩ HOKL.out)).mono ?_
  rintro en w8 ⟨rfl, hb8⟩
  have hbl : bestOf l.length (okBut a0_0 l) (2 ^ l.length) < 8 := by
    have h := bestOf_lt l.length (okBut a0_0 l) (2 ^ l.length) (Nat.le_refl _)
    have h8 : 2 ^ l.length ≤ 2 ^ 3 := Nat.pow_le_pow_right (by decide) hl3
    omega
  obtain ⟨b, hb⟩ : ∃ b, b = bestOf l.length (okBut a0_0 l) (2 ^ l.length) := ⟨_, rfl⟩
  rw [← hb] at hbl ⊢
  have HBB := Lib.hid hb
  have HB8 := Lib.hid (HB6.out.trans (hb8.mono HB6.out.size))
  clear hb hb8
  have K58 := Lib.hid (blk_below K55.out HB8.out)
  have c5 := blk_nth K58.out 0 rfl
  have f5 := blk_frozen K58.out 0
  go_wp2
  obtain ⟨rfl, rfl⟩ : r1 = b ∧ r2 = 0 := by
    have h := HF.out
    unfold chase_Wrong.f at h
    rw [show errWr a0_0 a0_1 l0_2 (isP l0_2 p) = 0 from by simp [errWr, HV.out, HIS.out], if_pos rfl, Int.toNat_natCast, ← HL0.out, ← HBB.out] at h
    simp only [Option.some.injEq, Prod.mk.injEq] at h
    exact ⟨h.1.symm, h.2.symm⟩
  change Leaves Try.prog Try.f16 _ _ _ .returning _
  refine settled_leaves rec_Wrong (results_num rfl rfl rfl (load_err (blk_put K58.out 0 _ rfl))) ⟨by simp, ?_⟩
  exact (H5.out.trans (HB8.out.mono H5.out.size)).setCell (by simp) _
end Go.Proofs.Ytihfmphaajdhnaa.P
