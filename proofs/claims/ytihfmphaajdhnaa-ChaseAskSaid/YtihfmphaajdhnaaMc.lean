import Derived.Test.YtihfmphaajdhnaaMb
import Derived.Maps.OwnIn
import Derived.Maps.Views
import Derived.DeepKeys4
import Derived.RecoverIn
/-! In how many ways pairs can come next (plain), and the map that remembers. -/
namespace Go.Proofs.Ytihfmphaajdhnaa.P
open Go.RowKit Go.Proofs.YtihfmphaajdhnaaW.PrintWords Go.Proofs.YtihfmphaajdhnaaW.PrintLast Go.Proofs.YtihfmphaajdhnaaW.PrintMore
set_option linter.unusedVariables false
set_option linter.unusedSimpArgs false

/-- How many orders there are from a state on, so many pairs still to be placed. -/
def wayN (cs : List S65) (d : Nat) (s : St) : Nat := (ordersF cs d s []).length
theorem ordersF_any (cs : List S65) : ∀ (d : Nat) (s : St) (x y : List Int), (ordersF cs d s x).length = (ordersF cs d s y).length
  | 0, _, _, _ => rfl
  | d + 1, s, x, y => by
    simp only [ordersF, List.length_flatMap]
    congr 1
    exact List.map_congr_left fun o _ => ordersF_any cs d o _ _
theorem wayN_zero (cs : List S65) (s : St) : wayN cs 0 s = 1 := rfl
theorem wayN_succ (cs : List S65) (d : Nat) (s : St) : wayN cs (d + 1) s = ((nexts cs s).map (wayN cs d)).sum := by
  unfold wayN
  simp only [ordersF, List.length_flatMap]
  congr 1
  exact List.map_congr_left fun o _ => ordersF_any cs d o _ _
theorem wayN_le (cs : List S65) (h6 : cs.length ≤ 6) (d : Nat) (s : St) : wayN cs d s ≤ 6 ^ d := ordersF_len cs h6 d s []
theorem sum_le {α : Type} (F : α → Nat) (b : Nat) : ∀ l : List α, (∀ a ∈ l, F a ≤ b) → (l.map F).sum ≤ l.length * b
  | [], _ => by simp
  | a :: l, h => by
    have h1 := h a (by simp)
    have h2 := sum_le F b l (fun c hc => h c (by simp [hc]))
    simp only [List.map_cons, List.sum_cons, List.length_cons, Nat.succ_mul]
    omega
/-- How many pairs are placed. -/
def pcN (n placed : Nat) : Nat := (List.range n).countP fun i => placed.testBit i
theorem pc_step : ∀ n ≤ 6, ∀ s < 2 ^ n, ∀ p < n, s.testBit p = false → pcN n (s ||| 2 ^ p) = pcN n s + 1 ∧ s ||| 2 ^ p < 2 ^ n := by decide +kernel
theorem pc_all : ∀ n ≤ 6, ∀ s < 2 ^ n, (pcN n s = n ↔ s = 2 ^ n - 1) ∧ pcN n s ≤ n := by decide +kernel
theorem pc_zero : ∀ n ≤ 6, pcN n 0 = 0 := by decide +kernel
/-- What can come next: one pair more is placed. -/
theorem nexts_pc {cs : List S65} {s o : St} (h6 : cs.length ≤ 6) (hs : s.placed < 2 ^ cs.length) (ho : o ∈ nexts cs s) : pcN cs.length o.placed = pcN cs.length s.placed + 1 ∧ o.placed < 2 ^ cs.length := by
  unfold nexts nextsTo at ho
  simp only [List.mem_map, List.mem_filter, List.mem_range] at ho
  obtain ⟨p, ⟨hpl, hm⟩, rfl⟩ := ho
  unfold mayNext at hm
  simp only [Bool.and_eq_true, Bool.not_eq_true'] at hm
  exact pc_step cs.length h6 s.placed hs p hpl hm.1
/-- A state that the search meets. -/
structure Met (cs : List S65) (d : Nat) (s : St) : Prop where
  lt : s.placed < 2 ^ cs.length
  pc : pcN cs.length s.placed + d = cs.length
  last0 : -1 ≤ s.last
  last1 : s.last < 6
  time0 : 0 ≤ s.time
  time1 : s.time ≤ 203
theorem Met.lt64 {cs : List S65} {d : Nat} {s : St} (h : Met cs d s) (h6 : cs.length ≤ 6) : s.placed < 64 := Nat.lt_of_lt_of_le h.lt (Nat.pow_le_pow_right (by decide : 0 < 2) h6)
theorem Met.next {cs : List S65} {d : Nat} {s o : St} (h : Met cs (d + 1) s) (h6 : cs.length ≤ 6) (hc : ∀ k, k < cs.length → 0 ≤ (cl cs k).f0.f0 ∧ (cl cs k).f0.f1 ≤ 203) (ho : o ∈ nexts cs s) : Met cs d o := by
  obtain ⟨h1, h2, h3⟩ := nexts_mem ho h6 hc (h.lt64 h6)
  obtain ⟨h4, h5⟩ := nexts_last ho
  obtain ⟨h7, h8⟩ := nexts_pc h6 h.lt ho
  have := h.pc
  exact ⟨h8, by omega, by omega, by omega, h2, h3⟩
theorem met_begin {cs : List S65} (h6 : cs.length ≤ 6) : Met cs cs.length begin0 := ⟨Nat.two_pow_pos _, by rw [show begin0.placed = 0 from rfl, pc_zero _ h6]; omega, by decide, by decide, by decide, by decide⟩
theorem Met.all {cs : List S65} {d : Nat} {s : St} (h : Met cs d s) (h6 : cs.length ≤ 6) : s.placed = 2 ^ cs.length - 1 ↔ d = 0 := by
  have h1 := (pc_all cs.length h6 s.placed h.lt).1
  have := h.pc
  rw [← h1]
  omega
theorem Met.same {cs : List S65} {d d' : Nat} {s : St} (h : Met cs d s) (h' : Met cs d' s) : d = d' := by
  have := h.pc
  have := h'.pc
  omega

theorem key_row : decide (113 < Try.prog.types.size) = true := by kernel_rfl
theorem key_law : Maps.Keyed Try.prog 113 := Maps.Keyed.of_law (deep_law_laid (by kernel_rfl) (m := 9) (by decide) (of_decide_eq_true key_row) (by kernel_rfl) (by kernel_rfl))
theorem key_type : Try.prog.keyType 113 = true := by kernel_rfl
theorem key_st (a b c : Int) (ha : (Lit.int .u64 a).wf = true) (hb : (Lit.int .i64 b).wf = true) (hc : (Lit.int .i64 c).wf = true) : ∃ kl, keyOf Try.prog 113 (.agg #[.int .u64 a, .int .i64 b, .int .i64 c]) = some kl := by
  have hf : Value.formed Try.prog 113 (.agg #[.int .u64 a, .int .i64 b, .int .i64 c]) = true := by kernel_rfl
  have hc3 : Try.prog.cellsOf 113 = 3 := by kernel_rfl
  have h1 : Try.prog.cellsOf 77 = 1 := by kernel_rfl
  have h2 : Try.prog.cellsOf 3 = 1 := by kernel_rfl
  have hs : ∃ m, Try.prog.types.size = m + 1 := ⟨Try.prog.types.size - 1, by have := key_row; simp only [decide_eq_true_eq] at this; omega⟩
  obtain ⟨m, hm⟩ := hs
  unfold keyOf
  rw [Try.underlying113]
  simp only [key_type, hf, Bool.and_true, if_true, Option.map_eq_some_iff]
  have hk : ∃ ls, Try.prog.keyLits (m + 1 + 1) 113 [.int .u64 a, .int .i64 b, .int .i64 c] = some ls := by
    simp [Program.keyLits, Try.underlying113, Try.underlying77, Try.underlying3, hc3, h1, h2, ha, hb, hc]
  obtain ⟨ls, hl⟩ := hk
  exact ⟨_, ls, by rw [hm]; exact hl, rfl⟩
theorem wf_u {a : Int} (h0 : 0 ≤ a) (h1 : a < 64) : (Lit.int .u64 a).wf = true := by
  simp [Lit.wf, IntKind.min, IntKind.max, IntKind.bits, IntKind.signed]; omega
theorem wf_i {a : Int} (h0 : -1 ≤ a) (h1 : a < 50000) : (Lit.int .i64 a).wf = true := by
  simp [Lit.wf, IntKind.min, IntKind.max, IntKind.bits, IntKind.signed]; omega
theorem St.v_inj {s s' : St} (h : s.v = s'.v) : s = s' := by
  cases s; cases s'
  simp only [St.v, Value.agg.injEq, Array.mk.injEq, List.cons.injEq, Value.int.injEq, true_and, and_true] at h
  obtain ⟨h1, h2, h3⟩ := h
  have : _ = _ := Int.ofNat.inj h1
  subst this h2 h3
  rfl
theorem Met.key {cs : List S65} {d : Nat} {s : St} (h : Met cs d s) (h6 : cs.length ≤ 6) : ∃ kl, keyOf Try.prog 113 s.v = some kl :=
  key_st _ _ _ (wf_u (by omega) (by have := h.lt64 h6; omega)) (wf_i h.last0 (by have := h.last1; omega)) (wf_i (by have := h.time0; omega) (by have := h.time1; omega))
/-- What is remembered is right. -/
def Good (cs : List S65) (D : DataW Unit) : Prop := Maps.IsMap D ∧ ∀ d s kl, Met cs d s → keyOf Try.prog 113 s.v = some kl → Maps.has D kl = true → D.atKey kl (.lit (.int .i64 0)) = .lit (.int .i64 (wayN cs d s))
theorem good_empty (cs : List S65) : Good cs (.map []) := ⟨Maps.isMap_empty, fun _ _ _ _ _ h => by cases h⟩
theorem Good.put {cs : List S65} {D : DataW Unit} (h : Good cs D) {d : Nat} {s : St} {kl : Lit} (hm : Met cs d s) (hk : keyOf Try.prog 113 s.v = some kl) : Good cs (D.put kl (.lit (.int .i64 (wayN cs d s)))) := by
  refine ⟨h.1.put _ _, fun d' s' kl' hm' hk' hh => ?_⟩
  by_cases e : kl' = kl
  · subst e
    have := St.v_inj (key_law.inj hk' hk)
    subst this
    rw [hm'.same hm]
    exact Maps.atKey_put_same h.1 (key_law.key hk) _ _
  · rw [Maps.atKey_put_other e]
    rw [Maps.has_put_other e] at hh
    exact h.2 d' s' kl' hm' hk' hh
/-- The map that remembers, in memory. -/
def Memo (cs : List S65) (bm n : Nat) (w : World) : Prop := ∃ D : DataW Unit, w.ownsMap Try.prog 113 (plainElem Try.prog 3) bm n D ∧ Good cs D
theorem Memo.move {cs : List S65} {bm n : Nat} {w w' : World} (h : Memo cs bm n w) (hb : w'.heap[bm]? = w.heap[bm]?) : Memo cs bm n w' := by
  obtain ⟨D, ⟨es, clock, h1, h2⟩, hg⟩ := h
  exact ⟨D, ⟨es, clock, hb.trans h1, h2⟩, hg⟩
theorem Memo.lt {cs : List S65} {bm n : Nat} {w : World} (h : Memo cs bm n w) : bm < w.heap.size := by
  obtain ⟨D, h1, _⟩ := h
  exact h1.lt
theorem Memo.mono {cs : List S65} {bm n n' : Nat} {w : World} (h : Memo cs bm n w) (hn : n ≤ n') : Memo cs bm n' w := by
  obtain ⟨D, h1, h2⟩ := h
  exact ⟨D, h1.mono hn, h2⟩
end Go.Proofs.Ytihfmphaajdhnaa.P
/-! Hand-made contracts of package chase: First. -/
namespace Go.Proofs.Ytihfmphaajdhnaa.P
open Go.RowKit Go.Shelf Go.Proofs.YtihfmphaajdhnaaW.PrintWords Go.Proofs.YtihfmphaajdhnaaW.PrintLast Go.Proofs.YtihfmphaajdhnaaW.PrintMore
set_option linter.unusedVariables false
set_option linter.unusedSimpArgs false
attribute [local go_sem] Oper.semAt_some

/-- A deferred function that recovers, under the wide fence: what its plain walk leaves. -/
theorem callsDIn_wide_of_wpS {n : Nat} {P : Program} {f : FuncId} {fn : Func} {c : Code} {args : Array Value} {u : FrameMode} {w : World} {R : Ending → FrameMode → World → Prop}
    (hf : P.funcs[f]? = some fn) (hb : fn.body = some c)
    (h : ∀ (c₀ : Frame) (cs : List Frame), c₀.mode = u → c.wpS P (bodyPostS P fn c₀ cs R) { tmps := args ++ Array.replicate (fn.ntmps - args.size) undef, defers := [] } (c₀ :: cs) w) :
    CallsDIn Fence.wide n P f args u w R := by
  refine ⟨trivial, fun c₀ cs hu _ => ?_⟩
  obtain ⟨fr, hfr⟩ : ∃ fr : Frame, fr = { (default : Frame) with fn := f, kind := .deferred } := ⟨_, rfl⟩
  have hin : Frame.enter P f args .deferred = fr.at { tmps := args ++ Array.replicate (fn.ntmps - args.size) undef, defers := [] } [.code c] := by
    simp [Frame.enter, Frame.at, hf, hb, hfr]
  have h1 : fr.fn = f := by rw [hfr]
  have h2 : fr.kind = .deferred := by rw [hfr]
  obtain ⟨e, a', cs', w', hq, har⟩ := h c₀ cs hu fr [] (by rw [hfr]) (by rw [hfr]; rfl)
  rw [← hin] at har
  cases e with
  | normal =>
    obtain ⟨hd, u', rfl, v, hr, hR⟩ := hq
    exact ⟨.returned v, u', w', _, hR, comesIn_wide.2 (Steps.trans har (.one step_end)), h2, h1, rfl, hd, fn, by rw [← h1] at hf; exact hf, hr⟩
  | ret =>
    obtain ⟨hd, u', rfl, v, hr, hR⟩ := hq
    obtain ⟨todo, hs⟩ := har
    exact ⟨.returned v, u', w', _, hR, comesIn_wide.2 hs, h2, h1, rfl, hd, fn, by rw [← h1] at hf; exact hf, hr⟩
  | panic chain =>
    obtain ⟨hd, u', rfl, hR⟩ := hq
    obtain ⟨todo, hs⟩ := har
    exact ⟨.panicked chain, u', w', _, hR, comesIn_wide.2 hs, h2, h1, rfl, hd, fn, by rw [← h1] at hf; exact hf⟩
  | exit id => exact hq.elim
  | goto l => exact hq.elim
  | outgrown =>
    obtain ⟨u', hR⟩ := hq
    exact ⟨.outgrown, u', w', fr, hR, comesIn_wide.2 (har.resolve_left (by simp [h2])), h2, h1, trivial⟩
structure RecoversIn (n : Nat) (k : FuncId) : Prop where
  enters : ∀ {args : Array Value} {w : World}, (callFunc k args).run Try.prog w = .ok (.enter k args) w
  ret : ∀ (a : Addr) (w : World), CallsDIn Fence.wide n Try.prog k #[.pointer (some a)] .returning w fun e u' w' => e = .returned (.tuple #[]) ∧ u' = .returning ∧ w' = w
  pan : ∀ (a : Addr) (e e0 : Int) (w : World), w.cell? a = some (.int .i64 e0) → w.frozen? a = false →
    CallsDIn Fence.wide n Try.prog k #[.pointer (some a)] (.panicking (refused e)) w fun e' u' w' => e' = .returned (.tuple #[]) ∧ u' = .panicking [{ v := .iface 95 (.agg #[.int .i64 e]), recovered := true }] ∧ w' = (w.alloc (.cells #[.int .i64 e] 95)).setCell a (.int .i64 e)
theorem recIn_First (n : Nat) : RecoversIn n 60 := by
  constructor
  · intro args w
    exact rec_First.enters
  · intro a w
    refine callsDIn_wide_of_wpS Try.func60 rfl fun c₀ cs hu => ?_
    apply wpS_region
    simp [wpOpsS, go_sem, recoverD, hu, Try.ntmps60]
    refine (said_nil _ _).mono ?_
    rintro e w' ⟨rfl, rfl⟩
    cases c₀
    simp_all [bodyPostS, results, Try.results60]
  · intro a e e0 w h hf
    refine callsDIn_wide_of_wpS Try.func60 rfl fun c₀ cs hu => ?_
    apply wpS_region
    simp [wpOpsS, go_sem, recoverD, hu, Try.ntmps60, refused]
    refine (said_some _ _ _ _ h hf).mono ?_
    rintro e w' ⟨rfl, rfl⟩
    cases c₀
    simp_all [bodyPostS, results, Try.results60]
theorem refused_leavesM {n : Nat} {fn : Func} {tmps : Array Value} {R : Ending → World → Prop} {k : FuncId} {e e0 : Int} {g tb : Nat} {w1 : World} (hk : RecoversIn (n - 1) k)
    (hg : w1.heap[g]? = some (.cells #[.int .i64 e0] tb (0, 0)))
    (hR : ∀ w2, Below g w1 w2 → w2.heap[g]? = some (.cells #[.int .i64 e] tb (0, 0)) → ∃ v, (results fn tmps).run Try.prog w2 = .ok v w2 ∧ R (.returned v) w2) :
    LeavesInM Fence.wide n Try.prog fn tmps R [{ target := .fn (.func k) #[.pointer (some ⟨g, 0, none⟩)], args := #[] }] (.panicking (refused e)) w1 := by
  refine ⟨by simp, .inr ⟨fun h => (by cases h), .func k, #[.pointer (some ⟨g, 0, none⟩)], k, #[.pointer (some ⟨g, 0, none⟩)], rfl, by have := hk.enters (w := w1) (args := #[.pointer (some ⟨g, 0, none⟩)]); simp [invoke, this, go_sem], fun _ _ => trivial, ?_⟩⟩
  refine (hk.pan ⟨g, 0, none⟩ e e0 w1 (blk_nth hg 0 rfl) (blk_frozen hg 0)).mono ?_
  rintro e' u' w' ⟨rfl, rfl, rfl⟩
  obtain ⟨v, h1, h2⟩ := hR _ (((Below.refl g w1).alloc (Nat.le_of_lt (blk_lt hg)) _).setCell (Nat.le_refl _) _) (blk_put (blk_alloc hg _) 0 _ rfl)
  exact ⟨v, h1, h2⟩
theorem settled_leavesM {n : Nat} {fn : Func} {tmps : Array Value} {R : Ending → World → Prop} {k : FuncId} {g : Nat} {w1 : World} {v : Value} (hk : RecoversIn (n - 1) k)
    (h1 : (results fn tmps).run Try.prog w1 = .ok v w1) (h2 : R (.returned v) w1) :
    LeavesInM Fence.wide n Try.prog fn tmps R [{ target := .fn (.func k) #[.pointer (some ⟨g, 0, none⟩)], args := #[] }] .returning w1 := by
  refine ⟨by simp, .inr ⟨fun h => (by cases h), .func k, #[.pointer (some ⟨g, 0, none⟩)], k, #[.pointer (some ⟨g, 0, none⟩)], rfl, by have := hk.enters (w := w1) (args := #[.pointer (some ⟨g, 0, none⟩)]); simp [invoke, this, go_sem], fun _ _ => trivial, ?_⟩⟩
  refine (hk.ret ⟨g, 0, none⟩ w1).mono ?_
  rintro e' u' w' ⟨rfl, rfl, rfl⟩
  exact ⟨v, h1, h2⟩
theorem load_ints {g2 tb2 : Nat} {Ax : Option Addr} {n c : Nat} {w : World} (hg2 : w.heap[g2]? = some (.cells #[.slice Ax n c] tb2 (0, 0))) :
    (loadVar 40 ⟨g2, 0, none⟩).run Try.prog w = .ok (.slice Ax n c) w := by
  have q2 := blk_nth hg2 0 rfl
  simp [go_sem, isAgg, run_underlying Try.underlying40, q2]
theorem chase_First.err {e f : Int} {ps : List (List Int)} {r1 : List Int} {r2 c : Int} (h : (if errOf e f ps true = 0 then (match (allOrders (clks e ps)).head? with | some x => some (x, (0 : Int)) | none => some ([], 10)) else some ([], errOf e f ps true)) = some (r1, r2)) (he : errOf e f ps true = c) (hc : c ≠ 0) : r1 = [] ∧ r2 = c := by
  rw [he, if_neg hc] at h
  simp only [Option.some.injEq, Prod.mk.injEq] at h
  exact ⟨h.1.symm, h.2.symm⟩
/-- A chase that is looked at, as orders reads it. -/
theorem Opened.mem2 {w : World} {base g : Nat} {e f : Int} {A : Option Addr} {c : Nat} {ps : List (List Int)} {cs : List S65} (h : Opened w base g e f A c ps cs) (hn : 1 ≤ cs.length) : ∃ ga, Mem w g ga e f A c ps cs ∧ ga < w.heap.size ∧ base ≤ ga ∧ base ≤ g := by
  obtain ⟨v, hg, hbg, hv⟩ := h
  obtain ⟨inner, ho⟩ := Kd.R_own hv
  rcases ho.2 with ⟨_, h0⟩ | ⟨ga, cap, cur, rfl, hb, hga, _⟩
  · omega
  · exact ⟨ga, ⟨_, hg, Kd.R_lower (Kd.R_reok rfl hv (fun k hk => by simpa [Value.ownBlock] using hk.symm)) (Nat.zero_le _)⟩, blk_lt hga, hb, hbg⟩
/-- The first order, and the error. -/
def chase_First.f (e f : Int) (ps : List (List Int)) : Option (List Int × Int) :=
  if errOf e f ps true = 0 then (match (allOrders (clks e ps)).head? with | some x => some (x, 0) | none => some ([], 10)) else some ([], errOf e f ps true)

theorem below_putO {b k : Nat} {A B : World} (h : Below b A B) (hk : b ≤ k) (o : Obj) : Below b A (B.putObj k o) :=
  ⟨h.os, h.tape, h.output, by rw [World.putObj_size]; exact h.size, fun i hi => (World.putObj_heap_other (by omega)).trans (h.block i hi)⟩

set_option maxHeartbeats 2000000 in
set_option maxRecDepth 100000 in
theorem chase_First.calls (a0_0 : Int) (a0_1 : Int) (A0_2 : Option Addr) (c0_2 : Nat) (l0_2 : List (List Int)) (r1 : List Int) (r2 : Int) (w : World)
    (hr0_2 : Kd.C (Kd.slice 3 (Kd.int .i64)) w A0_2 l0_2.length l0_2) (hc0_2 : l0_2.length ≤ c0_2) (h : chase_First.f a0_0 a0_1 l0_2 = some (r1, r2)) :
    Calls Try.prog 25 #[.agg #[.int .i64 a0_0, .int .i64 a0_1, .slice A0_2 l0_2.length c0_2]] w fun en w' =>
      ∃ v, en = .returned (.tuple #[v, .int .i64 r2]) ∧ Kd.R (Kd.int .i64) 3 w' w.heap.size (fun _ => True) v r1 ∧ Below w.heap.size w w' := by
  have hmf : ∀ (fn : Fn) (first cap : Array Value) (w : World), (Instr.makeFunc fn first cap).run Try.prog w = .ok (.func fn first cap) w := fun _ _ _ _ => rfl
  have HR := Lib.hid hr0_2
  have HF := Lib.hid h
  clear hr0_2 h
  refine callsIn_wide (n := 9) |>.1 ?_
  refine callsIn_of_wp_marks Try.func25 rfl trivial ?_
  simp only [Try.ntmps25, List.size_toArray, List.length_cons, List.length_nil, Nat.reduceAdd, Nat.reduceSub, Array.replicate_succ, Array.replicate_zero, List.push_toArray, List.append_toArray, List.nil_append, List.cons_append]
  gi_wp2_with fail
  obtain ⟨w3, hw3, k1, k2, k3, hB⟩ := three_boxes w #[.int .i64 a0_0, .int .i64 a0_1, .slice A0_2 l0_2.length c0_2] #[.slice none 0 0] #[.int .i64 0] 32 40 27
  rw [← hw3]
  have hs3 : w3.heap.size = w.heap.size + 3 := by rw [hw3]; simp
  have K2 := Lib.hid k2
  have K3 := Lib.hid k3
  have HB := Lib.hid hB
  clear k1 k2 k3 hB hw3
  refine ⟨trivial, (callsIn_wide.2 (open_any _ _ _ _ _ _ _ (Kd.C_below HR.out HB.out))).mono ?_⟩
  rintro en w5 ⟨hb5, (⟨hv, his, g, rfl, hop⟩ | ⟨hv, rfl⟩ | ⟨hv, his, rfl⟩)⟩
  rotate_left
  · change LeavesInM Fence.wide 9 Try.prog Try.f25 _ _ [{ target := .fn (.func 60) #[.pointer (some ⟨w.heap.size + 1 + 1, 0, none⟩)], args := #[] }] (.panicking (refused 1)) w5
    refine refused_leavesM (recIn_First _) (blk_below K3.out hb5) ?_
    intro w2 hb2 hg2
    obtain ⟨rfl, rfl⟩ := chase_First.err HF.out (c := 1) (by simp [errOf, hv]) (by decide)
    exact ⟨_, results_two rfl rfl rfl (load_ints ((hb2.block _ (by omega)).trans (blk_below K2.out hb5))) (load_err hg2), _, rfl, Kd.R_nil _ _ _ _ _, (HB.out.trans (hb5.mono HB.out.size)).trans (hb2.mono (by omega))⟩
  · cases his
  have H5 := Lib.hid (HB.out.trans (hb5.mono HB.out.size))
  have HV := Lib.hid hv
  have HOP := Lib.hid hop
  have K25 := Lib.hid (blk_below K2.out hb5)
  have K35 := Lib.hid (blk_below K3.out hb5)
  clear hb5 hv hop
  gi_wp2_with fail
  refine ⟨trivial, (callsIn_wide.2 (told_any _ HOP.out)).mono ?_⟩
  rintro en w6 ⟨hb6, (⟨hbad, rfl⟩ | ⟨hbad, rfl⟩)⟩
  rotate_left
  · change LeavesInM Fence.wide 9 Try.prog Try.f25 _ _ [{ target := .fn (.func 60) #[.pointer (some ⟨w.heap.size + 1 + 1, 0, none⟩)], args := #[] }] (.panicking (refused 10)) w6
    refine refused_leavesM (recIn_First _) (blk_below K35.out hb6) ?_
    intro w2 hb2 hg2
    obtain ⟨rfl, rfl⟩ := chase_First.err HF.out (c := 10) (by simp [errOf, HV.out, hbad]) (by decide)
    exact ⟨_, results_two rfl rfl rfl (load_ints ((hb2.block _ (by omega)).trans (blk_below K25.out hb6))) (load_err hg2), _, rfl, Kd.R_nil _ _ _ _ _, (H5.out.trans (hb6.mono H5.out.size)).trans (hb2.mono (by omega))⟩
  have H6 := Lib.hid (H5.out.trans (hb6.mono H5.out.size))
  have HOP6 := Lib.hid (HOP.out.below hb6)
  have K26 := Lib.hid (blk_below K25.out hb6)
  have K36 := Lib.hid (blk_below K35.out hb6)
  have HBAD := Lib.hid hbad
  clear hb6 hbad
  gi_wp2_with fail
  refine ⟨trivial, (callsIn_wide.2 (orders_any (g := g) w6)).mono ?_⟩
  rintro en w7 ⟨rfl, n1, hb7, hs7⟩
  gi_wp2_with fail
  obtain ⟨hn1, hn6, _⟩ := vld_len HV.out
  have hcl := clks_len a0_0 l0_2
  obtain ⟨ga, hm, hga, hbga, hbg⟩ := HOP6.out.mem2 (by omega)
  have hgl : g < w6.heap.size := by obtain ⟨v, hg, _⟩ := hm.out; exact blk_lt hg
  have hs6 : w.heap.size + 3 ≤ w6.heap.size := by rw [← hs3]; exact Nat.le_trans hbga (Nat.le_of_lt hga)
  rw [hs3] at hbga hbg
  have HM := Lib.hid hm
  have N1 := Lib.hid n1
  have HB7 := Lib.hid hb7
  have H7 := Lib.hid (H6.out.trans (hb7.mono H6.out.size))
  have K27 := Lib.hid (blk_below K26.out hb7)
  have K37 := Lib.hid (blk_below K36.out hb7)
  clear hm n1 hb7
  refine range_own (α := List Int) (D := w7.heap.size) rfl rfl (fun _ _ => enters_of Try.func78 (by kernel_rfl) rfl _ _) (Enc := fun (x : List Int) v W => SlR w.heap.size W v x) (Gv := fun v k => v.ownBlock = some k) (Rd := fun k => k = w6.heap.size ∨ k = g ∨ k = ga) (L := allOrders (clks a0_0 l0_2))
    (fun W' hb' hs' => ?seq) ?rd
    (fun p2 Oi W2 => p2 = [] ∧ Hid (∀ k, Oi k ↔ (k = w.heap.size + 1 ∨ k = w.heap.size + 1 + 1)) ∧ Hid (Below w.heap.size w W2) ∧ Hid (W2.heap[w.heap.size + 1]? = some (.cells #[.slice none 0 0] 40 (0, 0))) ∧ Hid (W2.heap[w.heap.size + 1 + 1]? = some (.cells #[.int .i64 0] 27 (0, 0))) ∧ Hid (w7.heap.size ≤ W2.heap.size))
    (fun cd p2 Oi W2 => cd = .ret ∧ ∃ x A c, p2 = [x] ∧ Hid (∀ k, Oi k ↔ (k = w.heap.size + 1 ∨ k = w.heap.size + 1 + 1 ∨ (Value.slice A x.length c).ownBlock = some k)) ∧ Hid (Below w.heap.size w W2) ∧ Hid (SlR w.heap.size W2 (.slice A x.length c) x) ∧ Hid (∀ k, (Value.slice A x.length c).ownBlock = some k → w7.heap.size + 2 ≤ k) ∧ Hid (W2.heap[w.heap.size + 1]? = some (.cells #[.slice A x.length c] 40 (0, 0))) ∧ Hid (W2.heap[w.heap.size + 1 + 1]? = some (.cells #[.int .i64 0] 27 (0, 0))))
    ?I ?Ix (fun k => k = w.heap.size + 1 ∨ k = w.heap.size + 1 + 1) ?h0 ?hO0 ?hRO ?round ?done ?stop
  case seq =>
    have hm' : Mem W' g ga a0_0 a0_1 A0_2 c0_2 l0_2 (clks a0_0 l0_2) := (HM.out.move (HB7.out.block g hgl) (HB7.out.block ga hga)).move (hb'.block g (by omega)) (hb'.block ga (by omega))
    refine Iter.weak ?_ (fun x v W h => SlR.lower (b := W'.heap.size) h (by have := H7.out.size; have := hb'.size; omega))
    exact orders1_iter (bc := w6.heap.size) W' hm' (blk_below N1.out hb') (by have := hb'.size; omega) (by omega) (fun k hk => ⟨(clks_bd HV.out (by omega)).1, (clks_bd HV.out (by omega)).2.2.2⟩)
  case rd => rintro k (rfl | rfl | rfl) <;> omega
  case I =>
    rintro p2 Oi A' B' ⟨rfl, hOi, hb, h2, h3, hs⟩ ht
    exact ⟨rfl, hOi, hb.trans ⟨ht.os, ht.tape, ht.output, ht.size, fun k hk => ht.same k (Nat.lt_of_lt_of_le hk hb.size) (.inl (by omega))⟩, (ht.same _ (blk_lt h2) (.inl (by omega))).trans h2, (ht.same _ (blk_lt h3) (.inl (by omega))).trans h3, Nat.le_trans hs ht.size⟩
  case Ix =>
    rintro cd p2 Oi A' B' ⟨rfl, x, A, c, rfl, hOi, hb, hx, hv, h2, h3⟩ ht
    refine ⟨rfl, x, A, c, rfl, hOi, hb.trans ⟨ht.os, ht.tape, ht.output, ht.size, fun k hk => ht.same k (Nat.lt_of_lt_of_le hk hb.size) (.inl (by omega))⟩, ?_, hv, (ht.same _ (blk_lt h2) (.inl (by omega))).trans h2, (ht.same _ (blk_lt h3) (.inl (by omega))).trans h3⟩
    have hlt : ∀ k, (Value.slice A x.length c).ownBlock = some k → k < A'.heap.size := by
      obtain ⟨inner, ho⟩ := Kd.R_own hx
      exact fun k hk => own_lt ho k hk
    exact hx.move fun k hk => ht.same k (hlt k hk) (.inr ((hOi k).2 (.inr (.inr hk))))
  case h0 => exact ⟨rfl, fun _ => Iff.rfl, H7.out, K27.out, K37.out, Nat.le_refl _⟩
  case hO0 => rintro k (rfl | rfl) <;> omega
  case hRO =>
    rintro k hk (rfl | rfl) <;> rcases hk with h | h | h <;> omega
  case round =>
    rintro l p2 Oi x v W2 ⟨rfl, ROI, RB, R2, R3, RS⟩ henc hgv hp2 hDl hlW hnl
    obtain ⟨Ax, cx, rfl, hcx, hxa⟩ := henc.slc
    have HSL := Lib.hid henc
    have HGV := Lib.hid hgv
    have hxn := (ordersF_mem _ _ _ _ x (hp2.subset (by simp))).1
    have hxne : x ≠ [] := fun e => by rw [e] at hxn; simp at hxn; omega
    have HXNE := Lib.hid hxne
    clear henc hxa hgv hp2 hxn hxne
    gi_wp2
    refine ⟨Below.refl _ _, ?_⟩
    intro W3 hs3' ho3 ht3
    have k2 := (ho3 _ (by omega)).trans R2.out
    have k3 := (ho3 _ (by omega)).trans R3.out
    have q2 := blk_nth k2 0 rfl
    have q3 := blk_nth k3 0 rfl
    have f2 := blk_frozen k2 0
    have f3 := blk_frozen k3 0
    have K2r := Lib.hid k2
    have K3r := Lib.hid k3
    have HO3 := Lib.hid ho3
    have HT3 := Lib.hid ht3
    clear k2 k3 ho3 ht3
    apply wpIn_block
    gi_wp2_with fail
    have hk5 := blk_far (blk_put K2r.out 0 (Value.slice Ax x.length cx) rfl) (p := ⟨w.heap.size + 1 + 1, 0, none⟩) (by simp) (.int .i64 0)
    have hk6 := blk_put (blk_far K3r.out (p := ⟨w.heap.size + 1, 0, none⟩) (by simp) (Value.slice Ax x.length cx)) 0 (.int .i64 0) rfl
    obtain ⟨W5, hW5⟩ : ∃ W5, W5 = (W3.setCell ⟨w.heap.size + 1, 0, none⟩ (Value.slice Ax x.length cx)).setCell ⟨w.heap.size + 1 + 1, 0, none⟩ (.int .i64 0) := ⟨_, rfl⟩
    rw [← hW5] at hk5 hk6 ⊢
    have hsame : ∀ k, k ≠ w.heap.size + 1 → k ≠ w.heap.size + 1 + 1 → W5.heap[k]? = W3.heap[k]? := fun k h1 h2 => by rw [hW5, Below.heap_setCell _ _ _ _ h2, Below.heap_setCell _ _ _ _ h1]
    have hsz : W5.heap.size = W3.heap.size := by rw [hW5]; simp
    have hos : W5.os = W3.os ∧ W5.tape = W3.tape ∧ W5.output = W3.output := by rw [hW5]; exact ⟨rfl, rfl, rfl⟩
    have hlt := HSL.out.slc.lt HXNE.out
    have hown : ∀ k, (Value.slice Ax x.length cx).ownBlock = some k → w7.heap.size + 2 ≤ k ∧ k < W2.heap.size := fun k hk => ⟨HGV.out k hk, hlt k hk⟩
    refine ⟨fun k => k = w.heap.size + 1 ∨ k = w.heap.size + 1 + 1 ∨ (Value.slice Ax x.length cx).ownBlock = some k, ?_, ⟨hos.1, hos.2.1, hos.2.2, by omega, fun k hk hn => hsame k (fun e => hn ((ROI.out k).2 (.inl e))) (fun e => hn ((ROI.out k).2 (.inr e)))⟩, rfl, x, Ax, cx, rfl, fun _ => Iff.rfl, ?_, ?_, fun k hk => (hown k hk).1, hk5, hk6⟩
    · have h3 := blk_lt K3r.out
      rintro k (rfl | rfl | hk)
      · exact ⟨.inl ((ROI.out _).2 (.inl rfl)), by omega⟩
      · exact ⟨.inl ((ROI.out _).2 (.inr rfl)), by omega⟩
      · exact ⟨.inr (.inr hk), by have := (hown k hk).2; omega⟩
    · exact ⟨hos.1.trans (HT3.out.os.trans RB.out.os), hos.2.1.trans (HT3.out.tape.trans RB.out.tape), hos.2.2.trans (HT3.out.output.trans RB.out.output), by have := RB.out.size; omega, fun k hk => (hsame k (by omega) (by omega)).trans ((HO3.out k (by omega)).trans (RB.out.block k hk))⟩
    · exact HSL.out.move fun k hk => by
        have := hown k hk
        exact (hsame k (by omega) (by omega)).trans (HO3.out k (by omega))
  case done =>
    rintro Of Wf ⟨hL, hOi, hb, h2, h3, hs⟩ hnD hdef
    have HDF := Lib.hid hdef
    have c2 := blk_nth h2.out 0 rfl
    have c3 := blk_nth h3.out 0 rfl
    have f2 := blk_frozen h2.out 0
    have f3 := blk_frozen h3.out 0
    have HL := Lib.hid hL
    clear hdef hL
    gi_wp2
    have hf := HF.out
    unfold chase_First.f at hf
    rw [if_pos (show errOf a0_0 a0_1 l0_2 true = 0 by simp [errOf, HV.out, HBAD.out]), show (allOrders (clks a0_0 l0_2)).head? = none from by rw [HL.out]; rfl] at hf
    simp only [Option.some.injEq, Prod.mk.injEq] at hf
    obtain ⟨rfl, rfl⟩ := hf
    have hk5 := blk_far (blk_put h2.out 0 (Value.slice none 0 0) rfl) (p := ⟨w.heap.size + 1 + 1, 0, none⟩) (by simp) (.int .i64 10)
    have hk6 := blk_put (blk_far h3.out (p := ⟨w.heap.size + 1, 0, none⟩) (by simp) (Value.slice none 0 0)) 0 (.int .i64 10) rfl
    have hdg : ((Wf.setCell ⟨w.heap.size + 1, 0, none⟩ (Value.slice none 0 0)).setCell ⟨w.heap.size + 1 + 1, 0, none⟩ (.int .i64 10)).heap[w7.heap.size]? = some (.deferred (some [])) := by
      rw [Below.heap_setCell _ _ _ _ (by show w7.heap.size ≠ w.heap.size + 1 + 1; omega), Below.heap_setCell _ _ _ _ (by show w7.heap.size ≠ w.heap.size + 1; omega)]
      exact HDF.out
    change LeavesInM Fence.wide 9 Try.prog Try.f25 _ _ [{ target := .collected w7.heap.size, args := #[] }, { target := .fn (.func 60) #[.pointer (some ⟨w.heap.size + 1 + 1, 0, none⟩)], args := #[] }] .returning _
    refine ⟨by simp, .inl ⟨_, _, rfl, run_takeDeferred hdg, settled_leavesM (recIn_First _) (results_two rfl rfl rfl (load_ints ((World.putObj_heap_other (by omega)).trans hk5)) (load_err ((World.putObj_heap_other (by omega)).trans hk6))) ⟨_, rfl, Kd.R_nil _ _ _ _ _, ?_⟩⟩⟩
    exact below_putO ((hb.out.setCell (by simp) _).setCell (by simp; omega) _) (by omega) _
  case stop =>
    rintro cd p2 Of Wf ⟨rfl, x, A, c, rfl, hOi, hb, hx, hv, h2, h3⟩ hne hpre hnD hdef
    have HDF := Lib.hid hdef
    have HPRE := Lib.hid hpre
    clear hdef hpre
    gi_wp2
    obtain ⟨tl, htl⟩ := HPRE.out
    have hf := HF.out
    unfold chase_First.f at hf
    rw [if_pos (show errOf a0_0 a0_1 l0_2 true = 0 by simp [errOf, HV.out, HBAD.out]), show (allOrders (clks a0_0 l0_2)).head? = some x from by rw [← htl]; rfl] at hf
    simp only [Option.some.injEq, Prod.mk.injEq] at hf
    obtain ⟨rfl, rfl⟩ := hf
    have hlt : ∀ k, (Value.slice A x.length c).ownBlock = some k → w7.heap.size + 2 ≤ k := hv.out
    change LeavesInM Fence.wide 9 Try.prog Try.f25 _ _ [{ target := .collected w7.heap.size, args := #[] }, { target := .fn (.func 60) #[.pointer (some ⟨w.heap.size + 1 + 1, 0, none⟩)], args := #[] }] .returning _
    refine ⟨by simp, .inl ⟨_, _, rfl, run_takeDeferred HDF.out, settled_leavesM (recIn_First _) (results_two rfl rfl rfl (load_ints ((World.putObj_heap_other (by omega)).trans h2.out)) (load_err ((World.putObj_heap_other (by omega)).trans h3.out))) ⟨_, rfl, hx.out.move (fun k hk => World.putObj_heap_other (by have := hlt k hk; omega)), below_putO hb.out (by omega) _⟩⟩⟩
end Go.Proofs.Ytihfmphaajdhnaa.P
/-! Package chase: ways. -/
namespace Go.Proofs.Ytihfmphaajdhnaa.P
open Go.RowKit Go.Proofs.YtihfmphaajdhnaaW.PrintWords Go.Proofs.YtihfmphaajdhnaaW.PrintLast Go.Proofs.YtihfmphaajdhnaaW.PrintMore
set_option linter.unusedVariables false
set_option linter.unusedSimpArgs false
attribute [local go_sem] Oper.semAt_some

/-- What the helper reads. -/
structure WMem (W : World) (ba bk bc bo bm g ga al : Nat) (e f : Int) (A : Option Addr) (c : Nat) (ps : List (List Int)) (cs : List S65) : Prop where
  h1 : W.heap[ba]? = some (.cells #[.int .u64 (al : Int)] 77 (0, 0))
  h2 : W.heap[bk]? = some (.cells #[.map (some bm)] 110 (0, 0))
  h3 : W.heap[bc]? = some (.cells #[.pointer (some ⟨g, 0, none⟩)] 69 (0, 0))
  h4 : W.heap[bo]? = some (.cells #[.func (.func 75) #[] #[.pointer (some ⟨ba, 0, none⟩), .pointer (some ⟨bk, 0, none⟩), .pointer (some ⟨bc, 0, none⟩), .pointer (some ⟨bo, 0, none⟩)]] 111 (0, 0))
  mem : Mem W g ga e f A c ps cs
  lt : ga < W.heap.size
  ne : ∀ k, (k = ba ∨ k = bk ∨ k = bc ∨ k = bo ∨ k = g ∨ k = ga) → k ≠ bm
theorem WMem.mlt {W : World} {ba bk bc bo bm g ga al : Nat} {e f : Int} {A : Option Addr} {c : Nat} {ps : List (List Int)} {cs : List S65} (h : WMem W ba bk bc bo bm g ga al e f A c ps cs) : ∀ k, (k = ba ∨ k = bk ∨ k = bc ∨ k = bo ∨ k = g ∨ k = ga) → k < W.heap.size := by
  rintro k (rfl | rfl | rfl | rfl | rfl | rfl)
  · exact blk_lt h.h1
  · exact blk_lt h.h2
  · exact blk_lt h.h3
  · exact blk_lt h.h4
  · obtain ⟨v, hg, _⟩ := h.mem.out; exact blk_lt hg
  · exact h.lt
theorem WMem.move {W W' : World} {ba bk bc bo bm g ga al : Nat} {e f : Int} {A : Option Addr} {c : Nat} {ps : List (List Int)} {cs : List S65} (h : WMem W ba bk bc bo bm g ga al e f A c ps cs)
    (hs : W.heap.size ≤ W'.heap.size) (hm : ∀ k, k < W.heap.size → k ≠ bm → W'.heap[k]? = W.heap[k]?) : WMem W' ba bk bc bo bm g ga al e f A c ps cs := by
  have hk : ∀ k, (k = ba ∨ k = bk ∨ k = bc ∨ k = bo ∨ k = g ∨ k = ga) → W'.heap[k]? = W.heap[k]? := fun k hk => hm k (h.mlt k hk) (h.ne k hk)
  exact ⟨(hk ba (by simp)).trans h.h1, (hk bk (by simp)).trans h.h2, (hk bc (by simp)).trans h.h3, (hk bo (by simp)).trans h.h4, h.mem.move (hk g (by simp)) (hk ga (by simp)), Nat.lt_of_lt_of_le h.lt hs, h.ne⟩
section
variable (ba bk bc bo bm g ga al : Nat) (e f : Int) (A : Option Addr) (c : Nat) (ps : List (List Int)) (cs : List S65)
def WayPost (n d : Nat) (s : St) (W : World) (en : Ending) (W' : World) : Prop := en = .returned (.int .i64 (wayN cs d s)) ∧ Memo cs bm (n + 7 ^ d) W' ∧ W.grownBy W' (some bm)
def WaySpec (d : Nat) : Prop := ∀ (s : St) (n : Nat) (W : World), Met cs d s → WMem W ba bk bc bo bm g ga al e f A c ps cs → Memo cs bm n W → n + 7 ^ d ≤ 1000000 →
  Calls Try.prog 75 #[s.v, .pointer (some ⟨ba, 0, none⟩), .pointer (some ⟨bk, 0, none⟩), .pointer (some ⟨bc, 0, none⟩), .pointer (some ⟨bo, 0, none⟩)] W (WayPost bm cs n d s W)
end

set_option maxHeartbeats 1000000 in
set_option maxRecDepth 100000 in
theorem way_zero {ba bk bc bo bm g ga al : Nat} {e f : Int} {A : Option Addr} {c : Nat} {ps : List (List Int)} {cs : List S65} (h6 : cs.length ≤ 6) (hal : al = 2 ^ cs.length - 1) :
    WaySpec ba bk bc bo bm g ga al e f A c ps cs 0 := by
  intro s n W hm hM hMemo hn
  have hpl : s.placed = al := by rw [hal]; exact (hm.all h6).2 rfl
  have q1 := fun o => cell_alloc (blk_nth hM.h1 0 rfl) o
  have HM := Lib.hid hM
  have HMM := Lib.hid hMemo
  clear hM hMemo hm hal
  unfold St.v
  rw [hpl]
  clear hpl
  go_enter Try.func75, Try.ntmps75
  go_wp2
  go_ret
  refine ⟨by rw [wayN_zero]; rfl, (HMM.out.move (Below.heap_alloc _ _ _ HMM.out.lt)).mono (by simp), World.grownBy_alloc _ _ _⟩

set_option maxHeartbeats 4000000 in
set_option maxRecDepth 100000 in
theorem way_succ {ba bk bc bo bm g ga al : Nat} {e f : Int} {A : Option Addr} {c : Nat} {ps : List (List Int)} {cs : List S65} {d : Nat} (h6 : cs.length ≤ 6) (hal : al = 2 ^ cs.length - 1) (hc : ∀ k, k < cs.length → 0 ≤ (cl cs k).f0.f0 ∧ (cl cs k).f0.f1 ≤ 203)
    (IH : WaySpec ba bk bc bo bm g ga al e f A c ps cs d) : WaySpec ba bk bc bo bm g ga al e f A c ps cs (d + 1) := by
  intro s n W hm hM hMemo hn
  have hpl : s.placed ≠ al := fun h => by rw [hal] at h; have := (hm.all h6).1 h; omega
  have t1 : ((s.placed : Int) == (al : Int)) = false := by simp; omega
  have t2 : decide (s.placed = al) = false := by simpa using hpl
  have t3 : (s.placed == al) = false := by simpa using hpl
  obtain ⟨kl, hkl⟩ := hm.key h6
  have hkl' : keyOf Try.prog 113 (.agg #[.int .u64 s.placed, .int .i64 s.last, .int .i64 s.time]) = some kl := hkl
  have q1 := fun o => cell_alloc (blk_nth hM.h1 0 rfl) o
  have q2 := fun o => cell_alloc (blk_nth hM.h2 0 rfl) o
  have q3 := fun o o' => cell_alloc (cell_alloc (blk_nth hM.h3 0 rfl) o) o'
  have HM := Lib.hid hM
  have HME := Lib.hid hm
  have HKL := Lib.hid hkl'
  have HIH := Lib.hid IH
  have HCC := Lib.hid hc
  have HMM := Lib.hid hMemo
  obtain ⟨D, hown, hgood⟩ := hMemo
  have HG := Lib.hid hgood
  have HOW := Lib.hid hown
  have hlt := hown.lt
  obtain ⟨v0, ps0, hrun, hv0⟩ := (hown.alloc (.cells #[.int .u64 s.placed, .int .i64 s.last, .int .i64 s.time] 113)).look_ok key_law Try.underlying110 (show (zeroValue 3).run Try.prog _ = .ok (.int .i64 0) _ by kernel_rfl) (plainElem_int Try.underlying3 (by decide)) hkl'
  obtain ⟨c0, rfl, hc0, hwc0⟩ := plainElem_int_inv Try.underlying3 hv0
  have hat : D.atKey kl (.lit (.int .i64 0)) = .lit (.int .i64 c0) := congrArg Prod.fst hc0
  have hgd := hgood.2 (d + 1) s kl hm hkl
  have zeroI : ∀ w : World, (zeroValue 3).run Try.prog w = .ok (.int .i64 0) w := fun _ => by kernel_rfl
  clear hM hm hal hpl hkl hkl' IH hc hgood hown
  unfold St.v
  refine callsIn_wide (n := 9) |>.1 ?_
  refine callsIn_of_wp_marks Try.func75 rfl trivial ?_
  simp only [Try.ntmps75, List.size_toArray, List.length_cons, List.length_nil, Nat.reduceAdd, Nat.reduceSub, Array.replicate_succ, Array.replicate_zero, List.push_toArray, List.append_toArray, List.nil_append, List.cons_append]
  cases hh : Maps.has D kl
  rotate_left
  · rw [hh] at hrun
    have hcv := hgd hh
    rw [hat] at hcv
    have hcv' : c0 = (wayN cs (d + 1) s : Int) := by simpa using hcv
    have HCV := Lib.hid hcv'
    clear hcv hcv' hgd hat hc0 hv0 hh
    gi_wp2
    change LeavesInM _ _ _ _ _ _ [] .returning _
    exact ⟨_, results_tmp rfl _ _ _, by rw [HCV.out]; rfl, (HMM.out.move (Below.heap_alloc _ _ _ hlt)).mono (by simp), World.grownBy_alloc _ _ _⟩
  rw [hh] at hrun
  clear hgd hat hc0 hv0 hh
  gi_wp2_with fail
  obtain ⟨w2, hw2, k1, k2, hB2⟩ := two_boxes W #[.int .u64 s.placed, .int .i64 s.last, .int .i64 s.time] #[.int .i64 0] 113 3
  rw [← hw2]
  have hs2 : W.heap.size + 2 ≤ w2.heap.size ∧ w2.heap.size ≤ W.heap.size + 2 := by rw [hw2]; simp
  obtain ⟨hs2, hs2'⟩ := hs2
  have K1 := Lib.hid k1
  have K2 := Lib.hid k2
  have HB2 := Lib.hid hB2
  clear k1 k2 hB2 hw2 q1 q2 q3 hrun
  refine ⟨trivial, (callsIn_wide.2 (next_any (g := g) (s := s) w2)).mono ?_⟩
  rintro en w5 ⟨rfl, n1, n2, hb5, hs5⟩
  gi_wp2_with fail
  have hb5W := HB2.out.trans (hb5.mono HB2.out.size)
  have HB5W := Lib.hid hb5W
  have N1 := Lib.hid n1
  have N2 := Lib.hid n2
  have K15 := Lib.hid (blk_below K1.out hb5)
  have K25 := Lib.hid (blk_below K2.out hb5)
  have HM5 := Lib.hid (HM.out.move hb5W.size (fun k hk _ => hb5W.block k hk))
  have HMM5 := Lib.hid (HMM.out.move (hb5W.block bm hlt))
  have hne := HM.out.ne
  have HNE := Lib.hid hne
  have hml := HM.out.mlt
  have HML := Lib.hid hml
  have hgl := hml g (by simp)
  have hgal := hml ga (by simp)
  have hgn := hne g (by simp)
  have hgan := hne ga (by simp)
  clear hb5 hb5W n1 n2 hne hml
  refine range_own (α := St) (D := w5.heap.size) rfl rfl (fun _ _ => enters_of Try.func96 (by kernel_rfl) rfl _ _) (Enc := fun (y : St) v _ => v = y.v) (Gv := fun _ _ => False) (Rd := fun k => k = g ∨ k = ga ∨ k = w2.heap.size ∨ k = w2.heap.size + 1) (L := nexts cs s)
    (fun W' hb' hs' => ?seq) ?rd
    (fun p2 Oi W2 => Hid (∀ k, Oi k ↔ (k = W.heap.size + 1 ∨ k = bm)) ∧ Hid (W2.heap[W.heap.size + 1]? = some (.cells #[.int .i64 (((p2.map (wayN cs d)).sum : Nat) : Int)] 3 (0, 0))) ∧ Hid (Memo cs bm (n + p2.length * 7 ^ d) W2) ∧ Hid (W.grownBy W2 (some bm)) ∧ Hid (W2.heap[W.heap.size]? = some (.cells #[.int .u64 s.placed, .int .i64 s.last, .int .i64 s.time] 113 (0, 0))) ∧ Hid (w5.heap.size ≤ W2.heap.size))
    (fun _ _ _ _ => False)
    ?I ?Ix (fun k => k = W.heap.size + 1 ∨ k = bm) ?h0 ?hO0 ?hRO ?round ?done ?stop
  case seq => exact next1_iter W' (HM5.out.mem.move (hb'.block g (by omega)) (hb'.block ga (by omega))) (blk_below N1.out hb') (blk_below N2.out hb') (by have := hb'.size; omega) h6 (HME.out.lt64 h6) HME.out.time0 (by have := HME.out.time1; omega)
  case rd => rintro k (rfl | rfl | rfl | rfl) <;> omega
  case I =>
    rintro p2 Oi A' B' ⟨hOi, hnc, hmm, hgr, hst, hs⟩ ht
    exact ⟨hOi, (ht.same _ (blk_lt hnc) (.inl (by omega))).trans hnc, hmm.move (ht.same _ hmm.lt (.inl (by omega))), ⟨ht.os.trans hgr.os, ht.tape.trans hgr.tape, ht.output.trans hgr.output, Nat.le_trans hgr.size ht.size, fun k hk hn => (ht.same k (Nat.lt_of_lt_of_le hk hgr.size) (.inl (by omega))).trans (hgr.block k hk hn)⟩,
      (ht.same _ (blk_lt hst) (.inl (by omega))).trans hst, Nat.le_trans hs ht.size⟩
  case Ix => exact fun _ _ _ _ _ h => h.elim
  case h0 =>
    refine ⟨fun _ => Iff.rfl, K25.out, HMM5.out.mono (by simp), ⟨HB5W.out.os, HB5W.out.tape, HB5W.out.output, HB5W.out.size, fun k hk _ => HB5W.out.block k hk⟩, K15.out, Nat.le_refl _⟩
  case hO0 => rintro k (rfl | rfl) <;> omega
  case hRO =>
    rintro k hk (rfl | rfl) <;> rcases hk with h | h | h | h <;> omega
  case stop => exact fun _ _ _ _ h => h.elim
  case done =>
    rintro Of Wf ⟨hOi, hnc, hmm, hgr, hst, hs⟩ hnD hdef
    have hsum := wayN_succ cs d s
    have hlen : (nexts cs s).length ≤ 6 := Nat.le_trans (nexts_len cs s) h6
    have h7 : 7 ^ (d + 1) = 7 * 7 ^ d := by rw [Nat.pow_succ, Nat.mul_comm]
    have hpos : 0 < 7 ^ d := Nat.pow_pos (by decide)
    have hmul := Nat.mul_le_mul_right (7 ^ d) hlen
    have hle := wayN_le cs h6 (d + 1) s
    have h6d : 6 ^ (d + 1) ≤ 7 ^ (d + 1) := Nat.pow_le_pow_left (by decide) _
    rw [← hsum] at hnc
    have HDF := Lib.hid hdef
    have HNC := Lib.hid hnc.out
    have HMF := Lib.hid hmm.out
    have HGF := Lib.hid hgr.out
    have HSF := Lib.hid hst.out
    have hlt6 : wayN cs (d + 1) s < 50000 := by
      have := HME.out.pc
      have h7 := Nat.pow_le_pow_right (n := 6) (by decide) (show d + 1 ≤ 6 by omega)
      have : 6 ^ 6 = 46656 := by decide
      omega
    obtain ⟨D2, hown2, hgood2⟩ := hmm.out
    obtain ⟨w8, hrunU, hown8, hgr8⟩ := hown2.update key_law Try.underlying110 (by unfold maxLen; omega) HKL.out (plainElem_int Try.underlying3 (wf_i (a := (wayN cs (d + 1) s : Int)) (by omega) (by omega)))
    have hkm := HM.out.move HGF.out.size (fun k hk hn => HGF.out.block k hk (by simpa using hn))
    have q2 := blk_nth hkm.h2 0 rfl
    have c0 := blk_nth HNC.out 0 rfl
    have p0 := blk_nth HSF.out 0 rfl
    have p1 := blk_nth HSF.out 1 rfl
    have p2 := blk_nth HSF.out 2 rfl
    have hne8 : some (W.heap.size + 1) ≠ some bm := by simp; omega
    have c8 := blk_nth (blk_grown HNC.out hgr8 hne8) 0 rfl
    have hD8 := Lib.hid (blk_grown HDF.out hgr8 (by simp; omega))
    have HG8 := Lib.hid hgr8
    have HO8 := Lib.hid hown8
    have HGD := Lib.hid (hgood2.put HME.out HKL.out)
    clear hOi hnc hmm hgr hst hdef hsum hown2 hgood2 hown8 hgr8 hkm hmul h7 hle h6d
    gi_wp2
    change LeavesInM _ _ _ _ _ _ [{ target := .collected w5.heap.size, args := #[] }] .returning _
    refine ⟨by simp, .inl ⟨_, _, rfl, run_takeDeferred hD8.out, _, results_tmp rfl _ _ _, rfl, ?_, ?_⟩⟩
    · have hm8 : Memo cs bm (n + (nexts cs s).length * 7 ^ d + 1) w8 := ⟨_, HO8.out, HGD.out⟩
      refine (hm8.move (World.putObj_heap_other (by omega))).mono ?_
      have hmul := Nat.mul_le_mul_right (7 ^ d) hlen
      have h7 : 7 ^ (d + 1) = 7 * 7 ^ d := by rw [Nat.pow_succ, Nat.mul_comm]
      omega
    · exact ⟨HG8.out.os.trans HGF.out.os, HG8.out.tape.trans HGF.out.tape, HG8.out.output.trans HGF.out.output, by rw [World.putObj_size]; exact Nat.le_trans HGF.out.size HG8.out.size, fun k hk hn => (World.putObj_heap_other (by omega)).trans ((HG8.out.block k (Nat.lt_of_lt_of_le hk HGF.out.size) hn).trans (HGF.out.block k hk hn))⟩
  case round =>
    rintro l p2 Oi y v2 W2 ⟨ROI, RN, RM, RG, RS0, RS⟩ rfl hgv hp2 hDl hlW hnli
    have hyv : y.v = .agg #[.int .u64 y.placed, .int .i64 y.last, .int .i64 y.time] := rfl
    rw [hyv]
    gi_wp2
    refine ⟨(Below.refl _ _).alloc (Nat.le_refl _) _, ?_⟩
    intro W3 hs3 ho3 ht3
    have hbmW := RM.out.lt
    have hob : ∀ k, k < W2.heap.size → k ≠ l → W3.heap[k]? = W2.heap[k]? := fun k hk hne => (ho3 k hne).trans (Below.heap_alloc W2 _ k hk)
    have hbx : W3.heap[W2.heap.size]? = some (.cells #[.int .u64 y.placed, .int .i64 y.last, .int .i64 y.time] 113 (0, 0)) := (ho3 _ (by omega)).trans (blk_new W2 _)
    have hs3' : W3.heap.size = W2.heap.size + 1 := by rw [hs3]; simp
    have hs3a : W2.heap.size + 1 ≤ W3.heap.size := by omega
    have hnlb : l ≠ bm := fun e => hnli ((ROI.out l).2 (.inr e))
    have RN3 := Lib.hid ((hob _ (by omega) (by omega)).trans RN.out)
    have RM3 := Lib.hid (RM.out.move (hob _ hbmW (fun e => hnlb e.symm)))
    have RG3 := Lib.hid (show W.grownBy W3 (some bm) from ⟨ht3.os.trans RG.out.os, ht3.tape.trans RG.out.tape, ht3.output.trans RG.out.output, by have := RG.out.size; omega, fun k hk hn => (hob k (Nat.lt_of_lt_of_le hk RG.out.size) (by omega)).trans (RG.out.block k hk hn)⟩)
    have RS3 := Lib.hid ((hob _ (by omega) (by omega)).trans RS0.out)
    have HBX := Lib.hid hbx
    have HOB := Lib.hid hob
    have HM3 := Lib.hid (HM.out.move RG3.out.size (fun k hk hn => RG3.out.block k hk (by simpa using hn)))
    have HT3 := Lib.hid ht3
    have hym : y ∈ nexts cs s := hp2.subset (by simp)
    have hmy := HME.out.next h6 HCC.out hym
    have HMY := Lib.hid hmy
    have hlen : p2.length + 1 ≤ 6 := by have h1 := hp2.length_le; have h2 := nexts_len cs s; simp at h1; omega
    have h7 : 7 ^ (d + 1) = 7 * 7 ^ d := by rw [Nat.pow_succ, Nat.mul_comm]
    have hmul := Nat.mul_le_mul_right (7 ^ d) hlen
    have h7d : 7 ^ d ≤ 1000000 := by omega
    have hwy : wayN cs d y ≤ 7 ^ d := Nat.le_trans (wayN_le cs h6 d y) (Nat.pow_le_pow_left (by decide) _)
    have hsm : (p2.map (wayN cs d)).sum ≤ 1000000 := by
      have h1 := sum_le (wayN cs d) (7 ^ d) p2 (fun a _ => Nat.le_trans (wayN_le cs h6 d a) (Nat.pow_le_pow_left (by decide) _))
      have h2 := Nat.mul_le_mul_right (7 ^ d) (show p2.length ≤ 6 by omega)
      omega
    obtain ⟨sm, hsme⟩ : ∃ sm, sm = (p2.map (wayN cs d)).sum := ⟨_, rfl⟩
    obtain ⟨wy, hwye⟩ : ∃ wy, wy = wayN cs d y := ⟨_, rfl⟩
    rw [← hsme] at hsm RN3
    rw [← hwye] at hwy
    have HSM := Lib.hid hsme
    have HWY := Lib.hid hwye
    have hbound : n + p2.length * 7 ^ d + 7 ^ d ≤ 1000000 := by rw [Nat.add_mul] at hmul; omega
    have HBD2 := Lib.hid hbound
    clear hob hbx ht3 ho3 hs3 hs3' hmy hsme hwye hmul h7 hbound
    apply wpIn_block
    refine startR_ (n := 6) (ds := [5]) (S := fun V => V.heap[W.heap.size + 1]? = W3.heap[W.heap.size + 1]? ∧ V.heap[bo]? = W3.heap[bo]? ∧ V.heap[W2.heap.size]? = W3.heap[W2.heap.size]?) (by rintro ⟨_, _, hlo⟩; exact hlo) (by kernel_rfl) #[false, false, false, false, false, false] (by kernel_rfl) rfl rfl (⟨rfl, rfl, rfl⟩) ?_
    intro hS
    obtain ⟨wd, hwd⟩ : ∃ wd, World.drew W3 = wd := ⟨_, rfl⟩
    rw [hwd] at hS ⊢
    have hbd : Below W3.heap.size W3 wd := hwd ▸ below_drew (Below.refl _ _)
    have HBD := Lib.hid hbd
    clear hbd hwd
    refine take_ (i := 0) (N := (some 27)) (v := ?_) #[true, false, false, false, false, false] rfl rfl (by kernel_rfl) (fun _ _ _ h => h) (Or.inl ⟨by rfl, ?_⟩) hS rfl ?_
    rotate_left
    · intro W hW; have q0 := blk_nth (hW.1.trans RN3.out) 0 rfl; go_simp; with_reducible rfl
    simp only [Act.put, List.setIfInBounds_toArray, List.set_cons_zero, List.set_cons_succ]
    refine take_ (i := 1) (N := (some 28)) (v := ?_) #[true, true, false, false, false, false] rfl rfl (by kernel_rfl) (fun _ _ _ h => h) (Or.inl ⟨by rfl, ?_⟩) hS rfl ?_
    rotate_left
    · intro W hW; have q0 := blk_nth (hW.2.1.trans HM3.out.h4) 0 rfl; go_simp; with_reducible rfl
    simp only [Act.put, List.setIfInBounds_toArray, List.set_cons_zero, List.set_cons_succ]
    refine take_ (i := 2) (N := (some 29)) (v := ?_) #[true, true, true, false, false, false] rfl rfl (by kernel_rfl) (fun _ _ _ h => h) (Or.inl ⟨by rfl, ?_⟩) hS rfl ?_
    rotate_left
    · intro W hW; have q0 := blk_nth (hW.2.2.trans HBX.out) 0 rfl; have q1 := blk_nth (hW.2.2.trans HBX.out) 1 rfl; have q2 := blk_nth (hW.2.2.trans HBX.out) 2 rfl; go_simp; with_reducible rfl
    simp only [Act.put, List.setIfInBounds_toArray, List.set_cons_zero, List.set_cons_succ]
    refine one_ (i := 3) (N := (some 30)) #[true, true, true, true, false, false] rfl rfl (by kernel_rfl) (by decide) ?_
    intro K hK
    go_simp
    have hsd := HBD.out.size
    have hlt3 := RM3.out.lt
    have hon := HIH.out y (n + p2.length * 7 ^ d) wd HMY.out (HM3.out.move hsd (fun k hk _ => HBD.out.block k hk)) (RM3.out.move (HBD.out.block bm hlt3)) HBD2.out
    rw [hyv] at hon
    refine hon.mono ?_
    rintro en w6 ⟨rfl, hm6, hg6⟩
    rw [← HWY.out]
    have hb6 : ∀ k, k < W3.heap.size → k ≠ bm → w6.heap[k]? = W3.heap[k]? := fun k hk hn => (hg6.block k (Nat.lt_of_lt_of_le hk hsd) (by simpa using hn)).trans (HBD.out.block k hk)
    have hlb := HML.out bo (by simp)
    have hnb := HNE.out bo (by simp)
    have hrs := RG3.out.size
    refine hK.out _ _ ⟨hb6 _ (blk_lt RN3.out) (by omega), hb6 _ (by omega) hnb, hb6 _ (by omega) (by omega)⟩ (fun hS => ?_)
    have HM6 := Lib.hid hm6
    have HG6 := Lib.hid hg6
    have HB6 := Lib.hid hb6
    clear hm6 hg6 hb6 hon
    (try simp only [Act.put, List.setIfInBounds_toArray, List.set_cons_zero, List.set_cons_succ])
    refine take_ (i := 4) (N := (some 31)) (v := ?_) #[true, true, true, true, true, false] rfl rfl (by kernel_rfl) (fun _ _ _ h => h) (Or.inl ⟨by rfl, ?_⟩) hS rfl ?_
    rotate_left
    · intro W hW; go_simp; with_reducible rfl
    simp only [Act.put, List.setIfInBounds_toArray, List.set_cons_zero, List.set_cons_succ]
    refine last_ (i := 5) (N := none) #[true, true, true, true, true, true] rfl rfl (by kernel_rfl) (by decide) ?_
    intro K hK
    have k5 := hS.1.trans RN3.out
    have c5 := blk_nth k5 0 rfl
    have f5 := blk_frozen k5 0
    have K5 := Lib.hid k5
    clear k5
    go_simp
    refine hK.out _ _ ?_
    clear c5 f5
    (try simp only [Act.put, List.setIfInBounds_toArray, List.set_cons_zero, List.set_cons_succ])
    refine done_ (by kernel_rfl) ?_
    simp only [Exit.inBlock]
    have hwr : IntKind.i64.wrap ((sm : Int) + (wy : Int)) = (((p2 ++ [y]).map (wayN cs d)).sum : Nat) := by
      rw [IntWalk.i64_in _ (by omega), List.map_append, List.sum_append, ← HSM.out]
      simp [← HWY.out]
    rw [hwr]
    have hn5 := blk_put K5.out 0 (.int .i64 (((p2 ++ [y]).map (wayN cs d)).sum : Nat)) rfl
    obtain ⟨W7, hW7⟩ : ∃ W7, W7 = w6.setCell ⟨W.heap.size + 1, 0, none⟩ (.int .i64 (((p2 ++ [y]).map (wayN cs d)).sum : Nat)) := ⟨_, rfl⟩
    rw [← hW7] at hn5 ⊢
    have hsame : ∀ k, k ≠ W.heap.size + 1 → W7.heap[k]? = w6.heap[k]? := fun k h1 => by rw [hW7]; exact Below.heap_setCell _ _ _ _ h1
    have hsz : W7.heap.size = w6.heap.size := by rw [hW7]; simp
    have hos : W7.os = w6.os ∧ W7.tape = w6.tape ∧ W7.output = w6.output := by rw [hW7]; exact ⟨rfl, rfl, rfl⟩
    have hs6 := HG6.out.size
    have hos3 : W7.os = W3.os ∧ W7.tape = W3.tape ∧ W7.output = W3.output := ⟨hos.1.trans (HG6.out.os.trans HBD.out.os), hos.2.1.trans (HG6.out.tape.trans HBD.out.tape), hos.2.2.trans (HG6.out.output.trans HBD.out.output)⟩
    refine ⟨fun k => k = W.heap.size + 1 ∨ k = bm, ?_, ⟨hos3.1, hos3.2.1, hos3.2.2, by omega, fun k hk hn => ?_⟩, fun _ => Iff.rfl, hn5, ?_, ⟨hos3.1.trans RG3.out.os, hos3.2.1.trans RG3.out.tape, hos3.2.2.trans RG3.out.output, by omega, fun k hk hn => ?_⟩, ?_, ?_⟩
    · rintro k (rfl | rfl)
      · exact ⟨.inl ((ROI.out _).2 (.inl rfl)), by have := blk_lt hn5; omega⟩
      · exact ⟨.inl ((ROI.out _).2 (.inr rfl)), by omega⟩
    · have h1 : k ≠ W.heap.size + 1 := fun e => hn ((ROI.out k).2 (.inl e))
      have h2 : k ≠ bm := fun e => hn ((ROI.out k).2 (.inr e))
      exact (hsame k h1).trans (HB6.out k hk h2)
    · rw [List.length_append, List.length_singleton, Nat.add_mul, Nat.one_mul, ← Nat.add_assoc]
      exact HM6.out.move (hsame bm (by omega))
    · have h2 : k ≠ bm := fun e => hn (by rw [e])
      exact (hsame k (by omega)).trans ((HB6.out k (by omega) h2).trans (RG3.out.block k hk hn))
    · exact (hsame _ (by omega)).trans ((HB6.out _ (by omega) (by omega)).trans RS3.out)
    · have := RS.out
      exact Lib.hid (by omega)
theorem way_all {ba bk bc bo bm g ga al : Nat} {e f : Int} {A : Option Addr} {c : Nat} {ps : List (List Int)} {cs : List S65} (h6 : cs.length ≤ 6) (hal : al = 2 ^ cs.length - 1) (hc : ∀ k, k < cs.length → 0 ≤ (cl cs k).f0.f0 ∧ (cl cs k).f0.f1 ≤ 203) :
    ∀ d, WaySpec ba bk bc bo bm g ga al e f A c ps cs d
  | 0 => way_zero h6 hal
  | d + 1 => way_succ h6 hal hc (way_all h6 hal hc d)
end Go.Proofs.Ytihfmphaajdhnaa.P
/-! Hand-made contracts of package chase: ways, Orders. -/
namespace Go.Proofs.Ytihfmphaajdhnaa.P
open Go.RowKit Go.Proofs.YtihfmphaajdhnaaW.PrintWords Go.Proofs.YtihfmphaajdhnaaW.PrintLast Go.Proofs.YtihfmphaajdhnaaW.PrintMore
set_option linter.unusedVariables false
set_option linter.unusedSimpArgs false

theorem shl7 : ∀ p : Nat, p < 7 → IntKind.u64.wrap ((2 : Int) ^ p) = (2 : Int) ^ p ∧ IntKind.u64.wrap ((2 : Int) ^ p - 1) = ((2 ^ p - 1 : Nat) : Int) := by decide +kernel
theorem five_boxes (w : World) (o0 o1 o2 o3 o4 : Obj) : ∃ w6, w6 = ((((w.alloc o0).alloc o1).alloc o2).alloc o3).alloc o4 ∧ w6.heap[w.heap.size]? = some o0 ∧ w6.heap[w.heap.size + 1]? = some o1 ∧ w6.heap[w.heap.size + 1 + 1]? = some o2 ∧
    w6.heap[w.heap.size + 1 + 1 + 1]? = some o3 ∧ w6.heap[w.heap.size + 1 + 1 + 1 + 1]? = some o4 ∧ Below w.heap.size w w6 := by
  have b0 : Below w.heap.size w (w.alloc o0) := (Below.refl _ _).alloc (Nat.le_refl _) _
  have b1 := b0.alloc (by simp) o1
  have b2 := b1.alloc (by simp; omega) o2
  have b3 := b2.alloc (by simp; omega) o3
  have b4 := b3.alloc (by simp; omega) o4
  have n0 := World.alloc_heap_new w o0
  have n1 := World.alloc_heap_new (w.alloc o0) o1
  have n2 := World.alloc_heap_new ((w.alloc o0).alloc o1) o2
  have n3 := World.alloc_heap_new (((w.alloc o0).alloc o1).alloc o2) o3
  have n4 := World.alloc_heap_new ((((w.alloc o0).alloc o1).alloc o2).alloc o3) o4
  simp only [World.size_alloc] at n1 n2 n3 n4
  refine ⟨_, rfl, ?_, ?_, ?_, ?_, n4, b4⟩
  · rw [Below.heap_alloc _ _ _ (by simp; omega), Below.heap_alloc _ _ _ (by simp; omega), Below.heap_alloc _ _ _ (by simp; omega), Below.heap_alloc _ _ _ (by simp)]; exact n0
  · rw [Below.heap_alloc _ _ _ (by simp <;> omega), Below.heap_alloc _ _ _ (by simp <;> omega), Below.heap_alloc _ _ _ (by simp)]; exact n1
  · rw [Below.heap_alloc _ _ _ (by simp <;> omega), Below.heap_alloc _ _ _ (by simp)]; exact n2
  · rw [Below.heap_alloc _ _ _ (by simp)]; exact n3
set_option maxHeartbeats 2000000 in
set_option maxRecDepth 100000 in
theorem ways_any {g ga : Nat} {e f : Int} {A : Option Addr} {c : Nat} {ps : List (List Int)} {cs : List S65} (w : World) (hM : Mem w g ga e f A c ps cs) (hga : ga < w.heap.size) (h6 : cs.length ≤ 6)
    (hc : ∀ k, k < cs.length → 0 ≤ (cl cs k).f0.f0 ∧ (cl cs k).f0.f1 ≤ 203) :
    Calls Try.prog 59 #[.pointer (some ⟨g, 0, none⟩)] w fun en w' => en = .returned (.int .i64 ((allOrders cs).length : Int)) ∧ Below w.heap.size w w' := by
  have hmf : ∀ (fn : Fn) (first cap : Array Value) (w : World), (Instr.makeFunc fn first cap).run Try.prog w = .ok (.func fn first cap) w := fun _ _ _ _ => rfl
  have hstf : ∀ (a : Addr) (fn : Fn) (x y : Array Value) (m : Mode) (w : World), (store a (.func fn x y) m).run Try.prog w = stored Try.prog w a (.func fn x y) m := fun a fn x y m w => run_store Try.prog w a _ m rfl
  have hmm := @run_makeMap Try.prog
  obtain ⟨v, hg, hv⟩ := hM.out
  obtain ⟨Av, cv, rfl, hlc, hC⟩ := Kd.R_reads hv
  have hgl := blk_lt hg
  obtain ⟨hs1, hs2⟩ := shl7 cs.length (by omega)
  obtain ⟨al, hal⟩ : ∃ al : Nat, al = 2 ^ cs.length - 1 := ⟨_, rfl⟩
  have q3 := blk_nth hg 3 rfl
  have q3' := fun o => cell_alloc q3 o
  have q3'' := fun o o' => cell_alloc (q3' o) o'
  have q3''' := fun o o' o'' => cell_alloc (q3'' o o') o''
  have HM := Lib.hid hM
  have HC := Lib.hid hc
  have HAL := Lib.hid hal
  clear hM hc hg hv hC hal
  go_enter Try.func59, Try.ntmps59
  go_wp2_with fail
  rw [← HAL.out]
  obtain ⟨w3, hw3, k0, km, k1, k2, k3, hb3⟩ := five_boxes w (.cells #[.pointer (some ⟨g, 0, none⟩)] 69) (.map #[] 0) (.cells #[.map (some (w.heap.size + 1))] 110) (.cells #[.int .u64 (al : Int)] 77) (.cells #[.func (.func 75) #[] #[.pointer (some ⟨w.heap.size + 1 + 1 + 1, 0, none⟩), .pointer (some ⟨w.heap.size + 1 + 1, 0, none⟩), .pointer (some ⟨w.heap.size, 0, none⟩), .pointer (some ⟨w.heap.size + 1 + 1 + 1 + 1, 0, none⟩)]] 111)
  rw [← hw3]
  have hs5 : w3.heap.size = w.heap.size + 5 := by rw [hw3]; simp
  have K0 := Lib.hid k0
  have KM := Lib.hid km
  have K1 := Lib.hid k1
  have K2 := Lib.hid k2
  have K3 := Lib.hid k3
  have HB3 := Lib.hid hb3
  clear k0 km k1 k2 k3 hb3 hw3 q3 q3' q3'' q3''' hs1 hs2
  refine start_ (n := 4) (ds := []) (S := fun V => V.heap[w.heap.size + 1 + 1 + 1 + 1]? = w3.heap[w.heap.size + 1 + 1 + 1 + 1]?) #[false, false, false, false] (by kernel_rfl) rfl rfl (rfl) ?_
  intro hS
  obtain ⟨wd, hwd⟩ : ∃ wd, World.drew w3 = wd := ⟨_, rfl⟩
  rw [hwd] at hS ⊢
  have hbd : Below w3.heap.size w3 wd := hwd ▸ below_drew (Below.refl _ _)
  have HBD := Lib.hid hbd
  clear hbd hwd
  refine take_ (i := 0) (N := (some 15)) (v := ?_) #[true, false, false, false] rfl rfl (by kernel_rfl) (fun _ _ _ h => h) (Or.inl ⟨by rfl, ?_⟩) hS rfl ?_
  rotate_left
  · intro W hW; have q0 := blk_nth (hW.trans K3.out) 0 rfl; go_simp; with_reducible rfl
  simp only [Act.put, List.setIfInBounds_toArray, List.set_cons_zero, List.set_cons_succ]
  refine one_ (i := 1) (N := (some 16)) #[true, true, false, false] rfl rfl (by kernel_rfl) (by decide) ?_
  intro K hK
  go_simp
  refine (chase_begin.calls 0 (-1) 0 _ rfl).mono ?_
  rintro en w4 ⟨rfl, hb4⟩
  have H4 := Lib.hid ((HB3.out.trans (HBD.out.mono HB3.out.size)).trans (hb4.mono (by have := HB3.out.size; have := HBD.out.size; omega)))
  have H34 := Lib.hid (HBD.out.trans (hb4.mono HBD.out.size))
  refine hK.out _ _ ((hb4.block _ (by have := HBD.out.size; omega)).trans hS) (fun hS => ?_)
  clear hb4
  (try simp only [Act.put, List.setIfInBounds_toArray, List.set_cons_zero, List.set_cons_succ])
  refine one_ (i := 2) (N := (some 17)) #[true, true, true, false] rfl rfl (by kernel_rfl) (by decide) ?_
  intro K hK
  go_simp
  have hwl := H4.out.size
  have hon := way_all h6 HAL.out HC.out (ba := w.heap.size + 1 + 1 + 1) (bk := w.heap.size + 1 + 1) (bc := w.heap.size) (bo := w.heap.size + 1 + 1 + 1 + 1) (bm := w.heap.size + 1) (g := g) (ga := ga) (e := e) (f := f) (A := A) (c := c) (ps := ps) cs.length begin0 0 w4 (met_begin h6)
    ⟨blk_below K2.out H34.out, blk_below K1.out H34.out, blk_below K0.out H34.out, blk_below K3.out H34.out, HM.out.move (H4.out.block g hgl) (H4.out.block ga hga), Nat.lt_of_lt_of_le hga hwl, fun k hk => by omega⟩
    ⟨.map [], ⟨#[], 0, (H34.out.block _ (by omega)).trans KM.out, ⟨by simp, MapKept.stamped_empty 0, by simp⟩, Nat.le_refl _, rfl⟩, good_empty cs⟩
    (by have := Nat.pow_le_pow_right (n := 7) (by decide) h6; have : 7 ^ 6 = 117649 := by decide
        omega)
  refine hon.mono ?_
  rintro en w5 ⟨rfl, hm', hg'⟩
  refine hK.out _ _ ((hg'.block _ (by have := H34.out.size; omega) (by simp; omega)).trans hS) (fun hS => ?_)
  have HG' := Lib.hid hg'
  clear hm' hg' hon
  (try simp only [Act.put, List.setIfInBounds_toArray, List.set_cons_zero, List.set_cons_succ])
  refine take_ (i := 3) (N := (some 2)) (v := ?_) #[true, true, true, true] rfl rfl (by kernel_rfl) (fun _ _ _ h => h) (Or.inl ⟨by rfl, ?_⟩) hS rfl ?_
  rotate_left
  · intro W hW; go_simp; with_reducible rfl
  simp only [Act.put, List.setIfInBounds_toArray, List.set_cons_zero, List.set_cons_succ]
  refine done_ (by kernel_rfl) ?_
  go_wp2
  go_ret
  refine ⟨rfl, HG'.out.os.trans H4.out.os, HG'.out.tape.trans H4.out.tape, HG'.out.output.trans H4.out.output, Nat.le_trans H4.out.size HG'.out.size, fun k hk => (HG'.out.block k (Nat.lt_of_lt_of_le hk H4.out.size) (by simp; omega)).trans (H4.out.block k hk)⟩

/-- How many orders there are, and the error. -/
def chase_Orders.f (e f : Int) (ps : List (List Int)) : Option (Int × Int) :=
  if errOf e f ps true = 0 then some (((allOrders (clks e ps)).length : Int), 0) else some (0, errOf e f ps true)
theorem chase_Orders.err {e f : Int} {ps : List (List Int)} {r1 r2 c : Int} (h : chase_Orders.f e f ps = some (r1, r2)) (he : errOf e f ps true = c) (hc : c ≠ 0) : r1 = 0 ∧ r2 = c := by
  unfold chase_Orders.f at h
  rw [he, if_neg hc] at h
  simp only [Option.some.injEq, Prod.mk.injEq] at h
  exact ⟨h.1.symm, h.2.symm⟩

set_option maxHeartbeats 2000000 in
set_option maxRecDepth 100000 in
theorem chase_Orders.calls (a0_0 : Int) (a0_1 : Int) (A0_2 : Option Addr) (c0_2 : Nat) (l0_2 : List (List Int)) (r1 : Int) (r2 : Int) (w : World)
    (hr0_2 : Kd.C (Kd.slice 3 (Kd.int .i64)) w A0_2 l0_2.length l0_2) (hc0_2 : l0_2.length ≤ c0_2) (h : chase_Orders.f a0_0 a0_1 l0_2 = some (r1, r2)) :
    Calls Try.prog 24 #[.agg #[.int .i64 a0_0, .int .i64 a0_1, .slice A0_2 l0_2.length c0_2]] w fun en w' =>
      en = .returned (.tuple #[.int .i64 r1, .int .i64 r2]) ∧ Below w.heap.size w w' := by
  have hmf : ∀ (fn : Fn) (first cap : Array Value) (w : World), (Instr.makeFunc fn first cap).run Try.prog w = .ok (.func fn first cap) w := fun _ _ _ _ => rfl
  have HR := Lib.hid hr0_2
  have HF := Lib.hid h
  clear hr0_2 h
  go_enter_defers Try.func24, Try.ntmps24
  go_wp2_with fail
  obtain ⟨w3, hw3, k1, k3, hB⟩ := two_boxes w #[.int .i64 a0_0, .int .i64 a0_1, .slice A0_2 l0_2.length c0_2] #[.int .i64 0] 32 27
  rw [← hw3]
  have q0 := blk_nth k1 0 rfl
  have q1 := blk_nth k1 1 rfl
  have q2 := blk_nth k1 2 rfl
  have K1 := Lib.hid k1
  have K3 := Lib.hid k3
  have HB := Lib.hid hB
  clear k1 k3 hB hw3
  go_wp2_with fail
  clear q0 q1 q2
  refine (open_any _ _ _ _ _ _ _ (Kd.C_below HR.out HB.out)).mono ?_
  rintro en w5 ⟨hb5, (⟨hv, his, g, rfl, hop⟩ | ⟨hv, rfl⟩ | ⟨hv, his, rfl⟩)⟩
  rotate_left
  · skip
    change Leaves Try.prog Try.f24 _ _ _ (.panicking (refused 1)) _
    refine refused_leaves rec_Orders (blk_below K3.out hb5) ?_
    intro w2 hb2 hg2
    obtain ⟨rfl, rfl⟩ := chase_Orders.err HF.out (c := 1) (by simp [errOf, hv]) (by decide)
    exact ⟨_, results_num rfl rfl rfl (load_err hg2), rfl, (HB.out.trans (hb5.mono HB.out.size)).trans (hb2.mono (by omega))⟩
  · cases his
  have H5 := Lib.hid (HB.out.trans (hb5.mono HB.out.size))
  have HV := Lib.hid hv
  have HOP := Lib.hid hop
  have K35 := Lib.hid (blk_below K3.out hb5)
  clear hb5 hv hop
  go_wp2_with fail
  refine (told_any _ HOP.out).mono ?_
  rintro en w6 ⟨hb6, (⟨hbad, rfl⟩ | ⟨hbad, rfl⟩)⟩
  rotate_left
  · skip
    change Leaves Try.prog Try.f24 _ _ _ (.panicking (refused 10)) _
    refine refused_leaves rec_Orders (blk_below K35.out hb6) ?_
    intro w2 hb2 hg2
    obtain ⟨rfl, rfl⟩ := chase_Orders.err HF.out (c := 10) (by simp [errOf, HV.out, hbad]) (by decide)
    exact ⟨_, results_num rfl rfl rfl (load_err hg2), rfl, (H5.out.trans (hb6.mono H5.out.size)).trans (hb2.mono (by omega))⟩
  have H6 := Lib.hid (H5.out.trans (hb6.mono H5.out.size))
  have HOP6 := Lib.hid (HOP.out.below hb6)
  have K36 := Lib.hid (blk_below K35.out hb6)
  have HBAD := Lib.hid hbad
  clear hb6 hbad
  obtain ⟨hn1, hn6, _⟩ := vld_len HV.out
  have hlen := clks_len a0_0 l0_2
  obtain ⟨ga, hm, hga⟩ := HOP6.out.mem (by omega)
  have HM := Lib.hid hm
  clear hm
  go_wp2_with fail
  refine (ways_any w6 HM.out hga (by omega) (fun k hk => ⟨(clks_bd HV.out (by omega)).1, (clks_bd HV.out (by omega)).2.2.2⟩)).mono ?_
  rintro en w7 ⟨rfl, hb7⟩
  have H7 := Lib.hid (H6.out.trans (hb7.mono H6.out.size))
  have k5 := blk_below K36.out hb7
  have c0 := blk_nth k5 0 rfl
  have f0 := blk_frozen k5 0
  have KK5 := Lib.hid k5
  clear k5 hb7
  go_wp2
  have hf := HF.out
  unfold chase_Orders.f at hf
  rw [if_pos (show errOf a0_0 a0_1 l0_2 true = 0 by simp [errOf, HV.out, HBAD.out])] at hf
  simp only [Option.some.injEq, Prod.mk.injEq] at hf
  obtain ⟨rfl, rfl⟩ := hf
  change Leaves Try.prog Try.f24 _ _ _ .returning _
  refine settled_leaves rec_Orders (results_num rfl rfl rfl (load_err (blk_put KK5.out 0 _ rfl))) ⟨rfl, ?_⟩
  exact H7.out.setCell (by simp) _
end Go.Proofs.Ytihfmphaajdhnaa.P
