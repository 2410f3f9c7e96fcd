import Derived.Test.YtihfmphaajdhnaaHd
import Derived.Test.YtihfmphaajdhnaaTl
/-! known: a chase in which a pair's time is known. -/
namespace Go.Proofs.Ytihfmphaajdhnaa.P
open Go.RowKit Go.Proofs.YtihfmphaajdhnaaW.PrintWords Go.Proofs.YtihfmphaajdhnaaW.PrintLast Go.Proofs.YtihfmphaajdhnaaW.PrintMore Go.Proofs.Ytihfmphaajdhnaa.Th
set_option linter.unusedVariables false
set_option linter.unusedSimpArgs false

theorem load_chase {g tb : Nat} {e f : Int} {A : Option Addr} {n c : Nat} {w : World} (hg : w.heap[g]? = some (.cells #[.int .i64 e, .int .i64 f, .slice A n c] tb (0, 0))) :
    (loadVar 32 ⟨g, 0, none⟩).run Try.prog w = .ok (.agg #[.int .i64 e, .int .i64 f, .slice A n c]) w :=
  run_loadVar_row (P := Try.prog) w g tb 32 _ (0, 0) _ hg Try.underlying32 rfl (by kernel_rfl)
theorem results_cell_tmp {fn : Func} {c1 t1 c2 : Nat} {a1 : Addr} {v v2 : Value} (hres : fn.results = #[.cell c1 t1, .tmp c2]) {tmps : Array Value} {w : World}
    (h1 : tmps[c1]? = some (.pointer (some a1))) (h2 : tmps[c2]? = some v2) (q1 : (loadVar t1 a1).run Try.prog w = .ok v w) :
    (results fn tmps).run Try.prog w = .ok (.tuple #[v, v2]) w := by
  simp [results, hres, h1, h2, asAddr, q1]

theorem below_dN {b n : Nat} {A B : World} (h : Below b A B) : Below b A (B.drewN n) := ⟨h.os, h.tape, h.output, h.size, h.block⟩
theorem C_hd_move {w w' : World} {ad : Addr} {n : Nat} {hs : List (Option Addr × Nat × Nat)} (h : Kd.C kHd w (some ad) n hs) (hb : w'.heap[ad.block]? = w.heap[ad.block]?) : Kd.C kHd w' (some ad) n hs := by
  refine ⟨h.1, h.2.1, fun hn => ?_⟩
  obtain ⟨ad', e, hc⟩ := h.2.2 hn
  cases e
  refine ⟨ad, rfl, fun j x hj => ?_⟩
  obtain ⟨cs, h1, h2, h3⟩ := hc j x hj
  exact ⟨cs, h1, h2, fun i u hu => (World.cell?_of_block (w := w) (by rw [add_block]; exact hb)).trans (h3 i u hu)⟩
theorem hd_slice {w : World} {base n : Nat} {ok : Nat → Prop} {v : Value} {hs : List (Option Addr × Nat × Nat)} (h : Kd.R kHd 40 w base ok v hs) (hl : hs.length = n) (hn : 0 < n) : ∃ g cap, v = .slice (some ⟨g, 0, none⟩) n cap := by
  obtain ⟨inner, ho⟩ := Kd.R_own h
  rcases ho.2 with ⟨_, h0⟩ | ⟨g, cap, cur, rfl, _⟩
  · omega
  · exact ⟨g, cap, by rw [hl]⟩

/-- A chase in which a pair's time is known. -/
def KnownPost (e f : Int) (ps : List (List Int)) (p : Nat) (t : Int) (w : World) (en : Ending) (w' : World) : Prop :=
      ∃ (ps' : List (List Int)) (A' : Option Addr) (c' : Nat), ps' = ps.set p [t - e, t + e] ∧ en = .returned (.tuple #[.agg #[.int .i64 e, .int .i64 f, .slice A' ps'.length c'], .bool (decide (0 ≤ t - e) && decide (t + e ≤ 200))]) ∧
        Kd.C (Kd.slice 3 (Kd.int .i64)) w' A' ps'.length ps' ∧ ps'.length ≤ c' ∧ Below w.heap.size w w'

set_option maxHeartbeats 4000000 in
set_option maxRecDepth 100000 in
theorem known_any (e f : Int) (A : Option Addr) (c : Nat) (ps : List (List Int)) (p : Nat) (t : Int) (w : World) (hC : Kd.C (Kd.slice 3 (Kd.int .i64)) w A ps.length ps) (hc : ps.length ≤ c)
    (hp : p < ps.length) (h6 : ps.length ≤ 6) (he : 0 ≤ e ∧ e ≤ 3) (ht : 0 ≤ t ∧ t ≤ 203) :
    Calls Try.prog 30 #[.agg #[.int .i64 e, .int .i64 f, .slice A ps.length c], .int .i64 (p : Int), .int .i64 t] w (KnownPost e f ps p t w) := by
  obtain ⟨hs, hch, hld⟩ := C_split hC
  have hl := hld.1
  have HCH := Lib.hid hch
  have HLD := Lib.hid hld
  clear hC hch hld
  have hk24 : (0 + ps.length) * 24 ≤ 140737488355328 := by omega
  have HK24 := Lib.hid hk24
  clear hk24
  go_enter Try.func30, Try.ntmps30
  go_upto_region 2 with (fail)
  obtain ⟨w3, hw3, k0, k1, k2, hB⟩ := three_boxes w #[.int .i64 e, .int .i64 f, .slice A ps.length c] #[.int .i64 0, .int .i64 0, .slice none 0 0] #[.int .i64 e, .int .i64 f, .slice A ps.length c] 32 32 32
  rw [← hw3]
  have hs3 : w.heap.size + 3 ≤ w3.heap.size := by rw [hw3]; simp
  have K0 := Lib.hid k0
  have K1 := Lib.hid k1
  have K2 := Lib.hid k2
  have HB := Lib.hid hB
  have q2 := blk_nth k0 2 rfl
  have q2' := fun o => cell_alloc q2 o
  clear k0 k1 k2 hB hw3
  go_wp2_with (first
    | ((with_reducible refine gate_dst (N := 12) rfl ?_); refine Kd.R_lit kHd w3.heap.size 40 ?hg (N := 12) ?hd (xs := ([] : List (Option Addr × Nat × Nat))) (inner := []) (ok := fun _ => True) (okp := fun _ => True) ?hr ?hp (fun _ hk => hk) trivial (Below.refl _ _) (Nat.le_refl _) (by simp) ?_; (case hd => rfl); (case hg => rfl); (case hr => first | (go_simp; done) | (go_simp; rfl)); (case hp => exact Reps.none _ _); intro v1 w1 ho1 hb1 hg1 hnew1; have HO1 := Lib.hid ho1; have HB1 := Lib.hid hb1; have q21 := blk_nth (blk_below K0.out hb1) 2 rfl; clear ho1 hb1 hg1 hnew1)
    | (at_builtin; refine Kd.R_append_rows kHd (Rr := kHd.K w1) (w0 := w3) w3.heap.size rfl (.tmp 12) (.tmp 14) 30 40 (.slice none 0 0) 24 rfl Try.underlying30 info_row rfl (by decide) (by decide) v1 [] hs A ps.length c (fun _ => True) (fun _ => False) rfl rfl HO1.out (Kd.C_below HCH.out (HB.out.trans (HB1.out.mono HB.out.size))) (fun x cs' hx => hx) (fun _ hk => hk.elim) (fun _ _ => trivial) HB1.out HB1.out.size HK24.out ?_; intro v2 w2 ho2 hb2 hg2 hat2; obtain ⟨g2, cap2, rfl⟩ := hd_slice (hs := hs) (n := ps.length) ho2 hl (by omega); have HO2 := Lib.hid ho2; have HB2 := Lib.hid hb2; have c2 := blk_nth (blk_below K2.out hb2) 2 rfl; have f2 := blk_frozen (blk_below K2.out hb2) 2; clear ho2 hb2 hg2 hat2 q21 q2 q2'))
  clear c2 f2
  obtain ⟨w4, hw4⟩ : ∃ w4, w4 = w2.setCell ⟨w.heap.size + 1 + 1, 2, none⟩ (.slice (some ⟨g2, 0, none⟩) ps.length cap2) := ⟨_, rfl⟩
  rw [← hw4]
  obtain ⟨-, hcap, hbg, hgl, -, -, -⟩ := hd_put HO2.out p (by rw [show ([] ++ hs : List (Option Addr × Nat × Nat)).length = hs.length from rfl]; omega) (none, 0, 0)
  have k2 := blk_put (blk_below K2.out HB2.out) 2 (.slice (some ⟨g2, 0, none⟩) ps.length cap2) (cs' := #[.int .i64 e, .int .i64 f, .slice (some ⟨g2, 0, none⟩) ps.length cap2]) rfl
  have k0 := blk_far (blk_below K0.out HB2.out) (p := ⟨w.heap.size + 1 + 1, 2, none⟩) (by show w.heap.size ≠ w.heap.size + 1 + 1; omega) (.slice (some ⟨g2, 0, none⟩) ps.length cap2)
  have k1 := blk_far (blk_below K1.out HB2.out) (p := ⟨w.heap.size + 1 + 1, 2, none⟩) (by simp) (.slice (some ⟨g2, 0, none⟩) ps.length cap2)
  have hg4 : w4.heap[g2]? = w2.heap[g2]? := by rw [hw4]; exact Below.heap_setCell _ _ _ _ (by show g2 ≠ w.heap.size + 1 + 1; omega)
  have hb4 : Below w.heap.size w w4 := by rw [hw4]; exact (HB.out.trans (HB2.out.mono HB.out.size)).setCell (by simp; omega) _
  rw [← hw4] at k0 k1 k2
  have HO4 := Lib.hid (show Kd.R kHd 40 w4 w3.heap.size (fun _ => True) (.slice (some ⟨g2, 0, none⟩) ps.length cap2) hs from Kd.R_reok rfl (Kd.R_move (Kd.R_tight rfl HO2.out) (fun k hk => by
    have : g2 = k := by simpa [Value.ownBlock] using hk.symm
    rw [← this]; exact hg4)) (fun _ _ => trivial))
  have hg4l : g2 < w4.heap.size := by rw [hw4]; simpa using hgl
  have K04 := Lib.hid k0
  have K14 := Lib.hid k1
  have K24 := Lib.hid k2
  have HB4 := Lib.hid hb4
  have e0 := blk_nth k0 0 rfl
  have d1 : IntKind.i64.wrap (t - e) = t - e := IntWalk.i64_in _ (by omega)
  have d2 : IntKind.i64.wrap (t + e) = t + e := IntWalk.i64_in _ (by omega)
  clear k0 k1 k2 hb4 hw4 hg4 hgl
  go_quiet (fail)
  obtain ⟨w5, hw5, hb5⟩ : ∃ w5, w5 = w4.drewN nq ∧ Below w4.heap.size w4 w5 := ⟨_, rfl, below_dN (Below.refl _ _)⟩
  rw [← hw5]
  clear hw5 e0
  have HB5 := Lib.hid (HB4.out.trans (hb5.mono HB4.out.size))
  have HO5 := Lib.hid (Kd.R_below HO4.out hb5)
  have K15 := Lib.hid (blk_below K14.out hb5)
  have K25 := Lib.hid (blk_below K24.out hb5)
  have hg5 : g2 < w5.heap.size := Nat.lt_of_lt_of_le hg4l hb5.size
  have c2 := fun o => cell_alloc (blk_nth K25.out 2 rfl) o
  have c2' := blk_nth K25.out 2 rfl
  obtain ⟨-, -, -, -, ⟨u0, hu0⟩, hfz, hCp⟩ := hd_put HO5.out p (by omega) (some ⟨w5.heap.size, 0, none⟩, 2, 2)
  have hu1 := fun o => cell_alloc hu0 o
  have hf1 := fun o => (frozen_alloc' (lt_of_cell hu0) o).trans hfz
  obtain ⟨w7, hw7⟩ : ∃ w7, w7 = (w5.setCell ⟨g2, p, none⟩ (.slice (some ⟨w5.heap.size, 0, none⟩) 2 2)).alloc (.cells #[.int .i64 (t - e), .int .i64 (t + e)] 3) := ⟨_, rfl⟩
  have hbs : Below w5.heap.size (w5.setCell ⟨g2, p, none⟩ (.slice (some ⟨w5.heap.size, 0, none⟩) 2 2)) w7 := by rw [hw7]; exact (Below.refl _ _).alloc (by simp) _
  have hsz : (w5.setCell ⟨g2, p, none⟩ (.slice (some ⟨w5.heap.size, 0, none⟩) 2 2)).heap.size = w5.heap.size := by simp
  have k77 : w7.heap[w5.heap.size]? = some (.cells #[.int .i64 (t - e), .int .i64 (t + e)] 3 (0, 0)) := by
    have h := blk_new (w5.setCell ⟨g2, p, none⟩ (.slice (some ⟨w5.heap.size, 0, none⟩) 2 2)) (.cells #[.int .i64 (t - e), .int .i64 (t + e)] 3)
    rw [hsz] at h
    rw [hw7]
    exact h
  have k17 : w7.heap[w.heap.size + 1]? = some (.cells #[.int .i64 0, .int .i64 0, .slice none 0 0] 32 (0, 0)) := by rw [hw7]; exact blk_alloc (blk_far K15.out (by show w.heap.size + 1 ≠ g2; omega) _) _
  have k27 : w7.heap[w.heap.size + 1 + 1]? = some (.cells #[.int .i64 e, .int .i64 f, .slice (some ⟨g2, 0, none⟩) ps.length cap2] 32 (0, 0)) := by rw [hw7]; exact blk_alloc (blk_far K25.out (by show w.heap.size + 1 + 1 ≠ g2; omega) _) _
  have hb7 : Below w.heap.size w w7 := by rw [hw7]; exact (HB5.out.setCell (by show w.heap.size ≤ g2; omega) _).alloc (by rw [hsz]; exact HB5.out.size) _
  have hC7 : Kd.C kHd w7 (some ⟨g2, 0, none⟩) ps.length (hs.set p (some ⟨w5.heap.size, 0, none⟩, 2, 2)) := Kd.C_below hCp (by show Below (w5.setCell ⟨g2, p, none⟩ (.slice (some ⟨w5.heap.size, 0, none⟩) 2 2)).heap.size (w5.setCell ⟨g2, p, none⟩ (.slice (some ⟨w5.heap.size, 0, none⟩) 2 2)) w7; rw [hsz]; exact hbs)
  have z0 := blk_nth k27 0 rfl
  have z1 := blk_nth k27 1 rfl
  have z2 := blk_nth k27 2 rfl
  have y0 := blk_nth k17 0 rfl
  have y1 := blk_nth k17 1 rfl
  have y2 := blk_nth k17 2 rfl
  have g0 := blk_frozen k17 0
  have g1 := blk_frozen k17 1
  have g2' := blk_frozen k17 2
  have K77 := Lib.hid k77
  have K17 := Lib.hid k17
  have HB7 := Lib.hid hb7
  have HC7 := Lib.hid hC7
  have HW7 := Lib.hid hw7
  rw [hw7] at z0 z1 z2 y0 y1 y2 g0 g1 g2'
  clear hbs hsz hb5 k77 k17 k27 hb7 hC7 hw7 hCp
  have hfin : ∀ b : Bool, b = (decide (0 ≤ t - e) && decide (t + e ≤ 200)) → ∃ (ps' : List (List Int)) (A' : Option Addr) (c' : Nat), ps' = ps.set p [t - e, t + e] ∧ Ending.returned (.tuple #[.agg #[.int .i64 e, .int .i64 f, .slice (some ⟨g2, 0, none⟩) ps.length cap2], .bool b]) = .returned (.tuple #[.agg #[.int .i64 e, .int .i64 f, .slice A' ps'.length c'], .bool (decide (0 ≤ t - e) && decide (t + e ≤ 200))]) ∧
      Kd.C (Kd.slice 3 (Kd.int .i64)) (((w7.setCell ⟨w.heap.size + 1, 0, none⟩ (.int .i64 e)).setCell ⟨w.heap.size + 1, 1, none⟩ (.int .i64 f)).setCell ⟨w.heap.size + 1, 2, none⟩ (.slice (some ⟨g2, 0, none⟩) ps.length cap2)) A' ps'.length ps' ∧ ps'.length ≤ c' ∧
      Below w.heap.size w (((w7.setCell ⟨w.heap.size + 1, 0, none⟩ (.int .i64 e)).setCell ⟨w.heap.size + 1, 1, none⟩ (.int .i64 f)).setCell ⟨w.heap.size + 1, 2, none⟩ (.slice (some ⟨g2, 0, none⟩) ps.length cap2)) := by
    intro b hb
    have hbl : Below w.heap.size w (((w7.setCell ⟨w.heap.size + 1, 0, none⟩ (.int .i64 e)).setCell ⟨w.heap.size + 1, 1, none⟩ (.int .i64 f)).setCell ⟨w.heap.size + 1, 2, none⟩ (.slice (some ⟨g2, 0, none⟩) ps.length cap2)) := ((HB7.out.setCell (by simp) _).setCell (by simp) _).setCell (by simp) _
    refine ⟨ps.set p [t - e, t + e], some ⟨g2, 0, none⟩, cap2, rfl, by rw [List.length_set, hb], ?_, by rw [List.length_set]; exact hcap, hbl⟩
    rw [List.length_set]
    have hg2 : g2 ≠ w.heap.size + 1 := by omega
    have h5 : w5.heap.size ≠ w.heap.size + 1 := by have := blk_lt K15.out; omega
    refine C_join (C_hd_move HC7.out ?_) (Leads.set (x := [t - e, t + e]) (A := some ⟨w5.heap.size, 0, none⟩) (c := 2) (p := p) (HLD.out.below hbl) (by simp) ?_)
    · rw [Below.heap_setCell _ _ _ _ hg2, Below.heap_setCell _ _ _ _ hg2, Below.heap_setCell _ _ _ _ hg2]
    · exact lit_C (h1 := fun _ => rfl) [t - e, t + e] (by simp) (blk_far (blk_far (blk_far K77.out h5 _) h5 _) h5 _)
  have HFIN := Lib.hid hfin
  have K18 := Lib.hid (blk_put (blk_put (blk_put K17.out 0 (.int .i64 e) rfl) 1 (.int .i64 f) rfl) 2 (.slice (some ⟨g2, 0, none⟩) ps.length cap2) (cs' := #[.int .i64 e, .int .i64 f, .slice (some ⟨g2, 0, none⟩) ps.length cap2]) rfl)
  clear hfin
  by_cases h1 : 0 ≤ t - e
  · have d3 : decide (t - e ≥ 0) = true := decide_eq_true h1
    have d4 : decide (0 ≤ t - e) = true := decide_eq_true h1
    go_wp2
    rw [← HW7.out]
    exact bodyPost_ret (results_cell_tmp rfl rfl rfl (load_chase K18.out)) rfl (HFIN.out _ (by rw [d4]; rfl))
  · have d3 : decide (t - e ≥ 0) = false := decide_eq_false h1
    have d4 : decide (0 ≤ t - e) = false := decide_eq_false h1
    go_wp2
    rw [← HW7.out]
    exact bodyPost_ret (results_cell_tmp rfl rfl rfl (load_chase K18.out)) rfl (HFIN.out false (by rw [d4]; rfl))
end Go.Proofs.Ytihfmphaajdhnaa.P
