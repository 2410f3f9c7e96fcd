import Derived.Test.YtihfmphaajdhnaaMa
import Derived.Test.YtihfmphaajdhnaaSo
import Derived.Sort.OwnSortedInts
import Derived.RangeFuncNested
import Derived.RangeFuncLeaves
import Derived.RangeFuncCalls
import Derived.OrdersIn
import Derived.TacticsIn
import Derived.Stop.RegionWithIn
import Derived.RangeFuncBound
import Derived.Scope
import Derived.OwnWalkIn
import Derived.TacticsInMore
import Derived.LoopNIn
import Derived.LoopIn
import Derived.Laws.CopyOwn
import Derived.Shelf.Abstract
/-! Hand-made contracts of package chase: Cut. -/
namespace Go.Proofs.Ytihfmphaajdhnaa.P
open Go.RowKit Go.Proofs.YtihfmphaajdhnaaW.PrintWords Go.Proofs.YtihfmphaajdhnaaW.PrintLast Go.Proofs.YtihfmphaajdhnaaW.PrintMore
set_option linter.unusedVariables false
set_option linter.unusedSimpArgs false

def sortI (l : List Int) : List Int := l.mergeSort fun x y => decide (x ≤ y)
theorem sortI_len (l : List Int) : (sortI l).length = l.length := List.length_mergeSort l
theorem ints_reps {w : World} {base : Nat} {ok : Nat → Prop} (l : List Int) : Reps ((Kd.int .i64).M w base ok) 1 l (l.map (Value.int .i64)) := by
  refine ⟨by simp, fun j p hj => ?_⟩
  have hj' := List.getElem?_eq_some_iff.1 hj
  obtain ⟨h1, h2⟩ := hj'
  have : ((l.map (Value.int .i64)).drop (j * 1)).take 1 = [Value.int .i64 p] := by
    rw [Nat.mul_one, List.drop_eq_getElem_cons (by simpa using h1)]
    simp [h2]
  rw [this]
  exact rfl
theorem ints_inner {w : World} {base : Nat} {ok : Nat → Prop} {l : List Int} {cs : List Value} (h : Reps ((Kd.int .i64).M w base ok) 1 l cs) : cs = l.map (Value.int .i64) := by
  obtain ⟨hl, hr⟩ := h
  apply List.ext_getElem (by simpa using hl)
  intro j h1 h2
  have hj : j < l.length := by simpa using h2
  have h3 : (cs.drop (j * 1)).take 1 = [Value.int .i64 l[j]] := hr j l[j] (List.getElem?_eq_getElem hj)
  rw [Nat.mul_one, List.drop_eq_getElem_cons h1] at h3
  simp only [List.take_succ_cons, List.take_zero] at h3
  injection h3 with h4 _
  rw [h4, List.getElem_map]

theorem sort_any {base : Nat} {ok : Nat → Prop} {v : Value} {l : List Int} (w : World) (h : Kd.R (Kd.int .i64) 3 w base ok v l) (hn : 1 ≤ l.length) (h6 : l.length ≤ 6) :
    Calls Try.prog 57 #[v] w fun en w' => en = .returned (.tuple #[]) ∧ Kd.R (Kd.int .i64) 3 w' base ok v (sortI l) ∧ w.grownBy w' v.ownBlock := by
  obtain ⟨h0, inner, hown, hr⟩ := h
  obtain rfl := ints_inner hr
  rcases hown.2 with ⟨_, h0'⟩ | ⟨g, cap, cur, rfl, hb, hg, hn', hm, hs, ht⟩
  · omega
  have ht' : cur.toList.take l.length = l.map (Value.int .i64) := by have h := ht; rwa [show l.length * (Kd.int .i64).sz = l.length from Nat.mul_one _] at h
  have hH := holds_of_blockI hg ht'
  refine (AnyM.slices_Sort_int Try.lSort g 0 cap l w hH (by have := blk_lt hg; exact this) (by omega)).mono ?_
  rintro en w' ⟨rfl, n, os, rfl⟩
  refine ⟨rfl, ⟨h0, _, ?_, ints_reps (sortI l)⟩, grownBy_sortedI _⟩
  have h := ownsRow_sortedI (n := n) (os := os) (ss := l) (ts := sortI l) (sortI_len l) hb hg hn' hm hs
  rw [sortI_len]
  exact h

/-- Inside Cut's round: two slices of the call's own, and the clock. -/
structure Cs (w7 : World) (N0 : Nat) (lo hi p : Int) (W : World) (vl : Value) (L : List Int) (vh : Value) (H : List Int) : Prop where
  below : Below w7.heap.size w7 W
  n0 : N0 < W.heap.size
  rl : Kd.R (Kd.int .i64) 3 W w7.heap.size (fun _ => True) vl L
  rh : Kd.R (Kd.int .i64) 3 W w7.heap.size (fun _ => True) vh H
  ap : ∀ b, vl.ownBlock = some b → vh.ownBlock ≠ some b
  ck : W.heap[N0]? = some (.cells #[.int .i64 lo, .int .i64 hi, .int .i64 p] 65 (0, 0))
section
variable {w7 W W' : World} {N0 : Nat} {lo hi p : Int} {vl vh : Value} {L H : List Int}
theorem R_lt {base : Nat} {ok : Nat → Prop} {v : Value} {l : List Int} (h : Kd.R (Kd.int .i64) 3 W base ok v l) : ∀ b, v.ownBlock = some b → b < W.heap.size := by
  intro b hb
  obtain ⟨inner, ho⟩ := Kd.R_own h
  exact own_lt ho b hb
theorem Cs.move (h : Cs w7 N0 lo hi p W vl L vh H) (hb : Below W.heap.size W W') : Cs w7 N0 lo hi p W' vl L vh H :=
  ⟨h.below.trans (hb.mono h.below.size), Nat.lt_of_lt_of_le h.n0 hb.size, Kd.R_below h.rl hb, Kd.R_below h.rh hb, h.ap, blk_below h.ck hb⟩
theorem Cs.low {v1 : Value} {x : Int} (h : Cs w7 N0 lo hi p W vl L vh H) (hl : ∀ b, vl.ownBlock = some b → b < N0) (hr : Kd.R (Kd.int .i64) 3 W' w7.heap.size (fun _ => True) v1 (L ++ [x]))
    (hb : Below w7.heap.size w7 W') (hg : W.grownBy W' vl.ownBlock) (ha : v1.ownBlock = vl.ownBlock ∨ ∃ b, v1.ownBlock = some b ∧ W.heap.size ≤ b) : Cs w7 N0 lo hi p W' v1 (L ++ [x]) vh H :=
  ⟨hb, Nat.lt_of_lt_of_le h.n0 hg.size, hr, Kd.R_grown2 h.rh rfl hg (fun k hk e => h.ap k hk e.symm), (by
    intro b hb1 hb2
    rcases ha with ha | ⟨b', ha, hle⟩
    · exact h.ap b (ha ▸ hb1) hb2
    · rw [ha] at hb1
      injection hb1 with hb1
      have := R_lt h.rh b hb2
      omega), blk_grown h.ck hg (fun e => by have := hl N0 e.symm; omega)⟩
theorem Cs.high {v1 : Value} {x : Int} (h : Cs w7 N0 lo hi p W vl L vh H) (hl : ∀ b, vh.ownBlock = some b → b < N0) (hr : Kd.R (Kd.int .i64) 3 W' w7.heap.size (fun _ => True) v1 (H ++ [x]))
    (hb : Below w7.heap.size w7 W') (hg : W.grownBy W' vh.ownBlock) (ha : v1.ownBlock = vh.ownBlock ∨ ∃ b, v1.ownBlock = some b ∧ W.heap.size ≤ b) : Cs w7 N0 lo hi p W' vl L v1 (H ++ [x]) :=
  ⟨hb, Nat.lt_of_lt_of_le h.n0 hg.size, Kd.R_grown2 h.rl rfl hg (fun k hk e => h.ap k e.symm hk), hr, (by
    intro b hb1 hb2
    rcases ha with ha | ⟨b', ha, hle⟩
    · exact h.ap b hb1 (ha ▸ hb2)
    · rw [ha] at hb2
      injection hb2 with hb2
      have := R_lt h.rl b hb1
      omega), blk_grown h.ck hg (fun e => by have := hl N0 e.symm; omega)⟩
end
theorem add_block (a : Addr) (n : Nat) : (a.add n).block = a.block := by unfold Addr.add; split <;> rfl
theorem wrap_n {n : Nat} (h : n ≤ 6) : IntKind.i64.wrap (n : Int) = n := by
  have : n = 0 ∨ n = 1 ∨ n = 2 ∨ n = 3 ∨ n = 4 ∨ n = 5 ∨ n = 6 := by omega
  rcases this with rfl | rfl | rfl | rfl | rfl | rfl | rfl <;> rfl
theorem SK.set {w1 W : World} {g : Nat} (h : SK w1 (some g) W) (j : Nat) (v : Value) : SK w1 (some g) (W.setCell ⟨g, j, none⟩ v) :=
  ⟨by simpa using h.1, fun k hk hne => (Below.heap_setCell W ⟨g, j, none⟩ v k (fun e => hne (by rw [e]))).trans (h.2 k hk hne)⟩
theorem R_at {w : World} {base : Nat} {ok : Nat → Prop} {a : Addr} {n c : Nat} {l : List Int} (h : Kd.R (Kd.int .i64) 3 w base ok (.slice (some a) n c) l) : base ≤ a.block := by
  obtain ⟨inner, ho⟩ := Kd.R_own h
  exact own_base ho _ rfl
theorem below_grown_own {w0 w w1 : World} {base : Nat} {ok : Nat → Prop} {v : Value} {l : List Int} (hbs : base ≤ w.heap.size) (hb : Below base w0 w) (hg : w.grownBy w1 v.ownBlock) (h : Kd.R (Kd.int .i64) 3 w base ok v l) : Below base w0 w1 := by
  obtain ⟨inner, ho⟩ := Kd.R_own h
  exact hb.grown hg hbs (own_base ho)
def losOf (cs : List S65) : List Int := cs.map (·.f0.f0)
def hisOf (cs : List S65) : List Int := cs.map (·.f0.f1)
theorem losOf_take {cs : List S65} {k : Nat} (h : k < cs.length) : losOf (cs.take (k + 1)) = losOf (cs.take k) ++ [(cl cs k).f0.f0] := by
  rw [List.take_succ_eq_append_getElem h]
  unfold losOf
  rw [List.map_append]
  simp [cl, h]
theorem hisOf_take {cs : List S65} {k : Nat} (h : k < cs.length) : hisOf (cs.take (k + 1)) = hisOf (cs.take k) ++ [(cl cs k).f0.f1] := by
  rw [List.take_succ_eq_append_getElem h]
  unfold hisOf
  rw [List.map_append]
  simp [cl, h]
theorem info_int : (Try.prog.info? 3).map (fun i => (i.zero, i.size, i.bytes)) = some (some (.int .i64 0), 1, 8) := by kernel_rfl

def chase_Cut.f (e f : Int) (ps : List (List Int)) : Option (Int × Int × Int) :=
  if errOf e f ps true = 0 then some ((sortI (losOf (clks e ps))).getD (f - 1).toNat 0, (sortI (hisOf (clks e ps))).getD (f - 1).toNat 0, 0) else some (0, 0, errOf e f ps true)
theorem chase_Cut.err {e f : Int} {ps : List (List Int)} {r1 r2 r3 c : Int} (h : chase_Cut.f e f ps = some (r1, r2, r3)) (he : errOf e f ps true = c) (hc : c ≠ 0) : r1 = 0 ∧ r2 = 0 ∧ r3 = c := by
  unfold chase_Cut.f at h
  rw [he, if_neg hc] at h
  simp only [Option.some.injEq, Prod.mk.injEq] at h
  exact ⟨h.1.symm, h.2.1.symm, h.2.2.symm⟩

set_option maxHeartbeats 1000000 in
set_option maxRecDepth 100000 in
theorem chase_Cut.calls (a0_0 : Int) (a0_1 : Int) (A0_2 : Option Addr) (c0_2 : Nat) (l0_2 : List (List Int)) (r1 : Int) (r2 : Int) (r3 : Int) (w : World)
    (hr0_2 : Kd.C (Kd.slice 3 (Kd.int .i64)) w A0_2 l0_2.length l0_2) (hc0_2 : l0_2.length ≤ c0_2) (h : chase_Cut.f a0_0 a0_1 l0_2 = some (r1, r2, r3)) :
    Calls Try.prog 23 #[.agg #[.int .i64 a0_0, .int .i64 a0_1, .slice A0_2 l0_2.length c0_2]] w fun en w' =>
      en = .returned (.tuple #[.agg #[.int .i64 r1, .int .i64 r2], .int .i64 r3]) ∧ Below w.heap.size w w' := by
  have hmf : ∀ (fn : Fn) (first cap : Array Value) (w : World), (Instr.makeFunc fn first cap).run Try.prog w = .ok (.func fn first cap) w := fun _ _ _ _ => rfl
  have HR := Lib.hid hr0_2
  have HF := Lib.hid h
  clear hr0_2 h
  go_enter_defers Try.func23, Try.ntmps23
  go_wp2_with fail
  obtain ⟨w3, hw3, k1, k2, k3, hB⟩ := three_boxes w #[.int .i64 a0_0, .int .i64 a0_1, .slice A0_2 l0_2.length c0_2] #[.int .i64 0, .int .i64 0] #[.int .i64 0] 32 23 27
  rw [← hw3]
  have q0 := blk_nth k1 0 rfl
  have q1 := blk_nth k1 1 rfl
  have q2 := blk_nth k1 2 rfl
  have K2 := Lib.hid k2
  have K3 := Lib.hid k3
  have HB := Lib.hid hB
  clear k1 k2 k3 hB hw3
  go_wp2_with fail
  clear q0 q1 q2
  refine (open_any _ _ _ _ _ _ _ (Kd.C_below HR.out HB.out)).mono ?_
  rintro en w5 ⟨hb5, (⟨hv, his, g, rfl, hop⟩ | ⟨hv, rfl⟩ | ⟨hv, his, rfl⟩)⟩
  rotate_left
  · skip
    change Leaves Try.prog Try.f23 _ _ _ (.panicking (refused 1)) _
    refine refused_leaves rec_Cut (blk_below K3.out hb5) ?_
    intro w2 hb2 hg2
    obtain ⟨rfl, rfl, rfl⟩ := chase_Cut.err HF.out (c := 1) (by simp [errOf, hv]) (by decide)
    exact ⟨_, results_two rfl rfl rfl (load_span ((hb2.block _ (by omega)).trans (blk_below K2.out hb5))) (load_err hg2), rfl, (HB.out.trans (hb5.mono HB.out.size)).trans (hb2.mono (by omega))⟩
  · cases his
  have H5 := Lib.hid (HB.out.trans (hb5.mono HB.out.size))
  have HV := Lib.hid hv
  have HOP := Lib.hid hop
  have K25 := Lib.hid (blk_below K2.out hb5)
  have K35 := Lib.hid (blk_below K3.out hb5)
  clear hb5 hv hop
  go_wp2_with fail
  refine (told_any _ HOP.out).mono ?_
  rintro en w6 ⟨hb6, (⟨hbad, rfl⟩ | ⟨hbad, rfl⟩)⟩
  rotate_left
  · skip
    change Leaves Try.prog Try.f23 _ _ _ (.panicking (refused 10)) _
    refine refused_leaves rec_Cut (blk_below K35.out hb6) ?_
    intro w2 hb2 hg2
    obtain ⟨rfl, rfl, rfl⟩ := chase_Cut.err HF.out (c := 10) (by simp [errOf, HV.out, hbad]) (by decide)
    exact ⟨_, results_two rfl rfl rfl (load_span ((hb2.block _ (by omega)).trans (blk_below K25.out hb6))) (load_err hg2), rfl, (H5.out.trans (hb6.mono H5.out.size)).trans (hb2.mono (by omega))⟩
  have H6 := Lib.hid (H5.out.trans (hb6.mono H5.out.size))
  have HOP6 := Lib.hid (HOP.out.below hb6)
  have K26 := Lib.hid (blk_below K25.out hb6)
  have K36 := Lib.hid (blk_below K35.out hb6)
  have HBAD := Lib.hid hbad
  clear hb6 hbad
  obtain ⟨hn1, hn6, hf1, hfn⟩ := vld_len HV.out
  have hlen := clks_len a0_0 l0_2
  obtain ⟨cs, hcs⟩ : ∃ cs, cs = clks a0_0 l0_2 := ⟨_, rfl⟩
  rw [← hcs] at hlen
  have HCS := Lib.hid hcs
  obtain ⟨v, hg1, hbase, hv⟩ := HOP6.out
  rw [← hcs] at hv
  obtain ⟨Av, cv, rfl, hlc, hC⟩ := Kd.R_reads hv
  have HC := Lib.hid hC
  have HG1 := Lib.hid hg1
  have c3 := blk_nth hg1 3 rfl
  clear hg1 hv hC hcs
  go_wp2_with fail
  clear c3
  go_loopw [18, 5, 6] (fun i vl vh wr => ∃ k : Nat, i = .int .i64 k ∧ k ≤ cs.length ∧ Hid (Below w6.heap.size w6 wr) ∧ Hid (Kd.R (Kd.int .i64) 3 wr w6.heap.size (fun _ => True) vl (losOf (cs.take k))) ∧ Hid (Kd.R (Kd.int .i64) 3 wr w6.heap.size (fun _ => True) vh (hisOf (cs.take k))) ∧ Hid (∀ b, vl.ownBlock = some b → vh.ownBlock ≠ some b)) (fun i _ _ _ => cs.length - (intOf i).toNat)
  case atStart => exact ⟨0, rfl, Nat.zero_le _, Below.refl _ _, Kd.R_nil _ _ _ _ _, Kd.R_nil _ _ _ _ _, fun b hb => by simp [Value.ownBlock] at hb⟩
  case round =>
    obtain ⟨k, rfl, hk, HBR, HRL, HRH, HAP⟩ := hrel
    by_cases hkl : k < cs.length
    · obtain ⟨ad, had, p0, p1, p2⟩ := clock_at (Kd.C_below HC.out HBR.out) k hkl
      subst had
      obtain ⟨lo, hlo⟩ : ∃ x, x = (cl cs k).f0.f0 := ⟨_, rfl⟩
      obtain ⟨hi, hhi⟩ : ∃ x, x = (cl cs k).f0.f1 := ⟨_, rfl⟩
      obtain ⟨pn, hpn⟩ : ∃ x, x = (cl cs k).f1 := ⟨_, rfl⟩
      rw [← hlo] at p0
      rw [← hhi] at p1
      rw [← hpn] at p2
      have HLO := Lib.hid hlo
      have HHI := Lib.hid hhi
      clear hlo hhi hpn
      go_wp2_with fail
      clear p0 p1 p2
      have hlt1 := R_lt HRL.out
      have hlt2 := R_lt HRH.out
      obtain ⟨wb, hwb, hcs⟩ : ∃ wb, wb = wr.alloc (.cells #[.int .i64 lo, .int .i64 hi, .int .i64 pn] 65) ∧ Cs w6 wr.heap.size lo hi pn wb u5 (losOf (cs.take k)) u6 (hisOf (cs.take k)) :=
        ⟨_, rfl, HBR.out.alloc HBR.out.size _, by simp, Kd.R_below HRL.out ((Below.refl _ _).alloc (Nat.le_refl _) _), Kd.R_below HRH.out ((Below.refl _ _).alloc (Nat.le_refl _) _), HAP.out, blk_new _ _⟩
      rw [← hwb]
      refine wp_ins 2 3 ?_
      refine start_ (n := 14) (ds := []) (S := fun W => W.heap[wr.heap.size]? = some (.cells #[.int .i64 lo, .int .i64 hi, .int .i64 pn] 65 (0, 0))) #[false, false, false, false, false, false, false, false, false, false, false, false, false, false] (by kernel_rfl) rfl rfl (hcs.ck) ?_
      intro hS
      obtain ⟨wz, hwz, hst⟩ : ∃ wz, World.drew wb = wz ∧ Cs w6 wr.heap.size lo hi pn wz u5 (losOf (cs.take k)) u6 (hisOf (cs.take k)) := ⟨_, rfl, hcs.move (below_drew (Below.refl _ _))⟩
      rw [hwz] at hS ⊢
      have HST := Lib.hid hst
      clear hwz hst hcs hwb
      refine take_ (i := 0) (N := (some 22)) (v := ?_) #[true, false, false, false, false, false, false, false, false, false, false, false, false, false] rfl rfl (by kernel_rfl) (ins_put (by decide) (by decide)) (Or.inl ⟨by rfl, ?_⟩) hS rfl ?_
      rotate_left
      · intro W hW; go_simp; with_reducible rfl
      simp only [Act.put, List.setIfInBounds_toArray, List.set_cons_zero, List.set_cons_succ]
      refine take_ (i := 1) (N := (some 23)) (v := ?_) #[true, true, false, false, false, false, false, false, false, false, false, false, false, false] rfl rfl (by kernel_rfl) (ins_put (by decide) (by decide)) (Or.inl ⟨by rfl, ?_⟩) hS rfl ?_
      rotate_left
      · intro W hW; go_simp; with_reducible rfl
      simp only [Act.put, List.setIfInBounds_toArray, List.set_cons_zero, List.set_cons_succ]
      refine take_ (i := 2) (N := (some 24)) (v := ?_) #[true, true, true, false, false, false, false, false, false, false, false, false, false, false] rfl rfl (by kernel_rfl) (ins_put (by decide) (by decide)) (Or.inl ⟨by rfl, ?_⟩) hS rfl ?_
      rotate_left
      · intro W hW; go_simp; with_reducible rfl
      simp only [Act.put, List.setIfInBounds_toArray, List.set_cons_zero, List.set_cons_succ]
      refine take_ (i := 3) (N := (some 25)) (v := ?_) #[true, true, true, true, false, false, false, false, false, false, false, false, false, false] rfl rfl (by kernel_rfl) (ins_put (by decide) (by decide)) (Or.inl ⟨by rfl, ?_⟩) hS rfl ?_
      rotate_left
      · intro W hW; have q0 := blk_nth hW 0 rfl; go_simp; with_reducible rfl
      simp only [Act.put, List.setIfInBounds_toArray, List.set_cons_zero, List.set_cons_succ]
      refine take_ (i := 6) (N := (some 28)) (v := ?_) #[true, true, true, true, false, false, true, false, false, false, false, false, false, false] rfl rfl (by kernel_rfl) (ins_put (by decide) (by decide)) (Or.inl ⟨by rfl, ?_⟩) hS rfl ?_
      rotate_left
      · intro W hW; go_simp; with_reducible rfl
      simp only [Act.put, List.setIfInBounds_toArray, List.set_cons_zero, List.set_cons_succ]
      refine take_ (i := 7) (N := (some 29)) (v := ?_) #[true, true, true, true, false, false, true, true, false, false, false, false, false, false] rfl rfl (by kernel_rfl) (ins_put (by decide) (by decide)) (Or.inl ⟨by rfl, ?_⟩) hS rfl ?_
      rotate_left
      · intro W hW; go_simp; with_reducible rfl
      simp only [Act.put, List.setIfInBounds_toArray, List.set_cons_zero, List.set_cons_succ]
      refine take_ (i := 8) (N := (some 30)) (v := ?_) #[true, true, true, true, false, false, true, true, true, false, false, false, false, false] rfl rfl (by kernel_rfl) (ins_put (by decide) (by decide)) (Or.inl ⟨by rfl, ?_⟩) hS rfl ?_
      rotate_left
      · intro W hW; go_simp; with_reducible rfl
      simp only [Act.put, List.setIfInBounds_toArray, List.set_cons_zero, List.set_cons_succ]
      refine take_ (i := 9) (N := (some 31)) (v := ?_) #[true, true, true, true, false, false, true, true, true, true, false, false, false, false] rfl rfl (by kernel_rfl) (ins_put (by decide) (by decide)) (Or.inl ⟨by rfl, ?_⟩) hS rfl ?_
      rotate_left
      · intro W hW; have q1 := blk_nth hW 1 rfl; go_simp; with_reducible rfl
      simp only [Act.put, List.setIfInBounds_toArray, List.set_cons_zero, List.set_cons_succ]
      refine two_ (i := 4) (j := 10) (Ni := (some 26)) (Nj := (some 32)) #[true, true, true, true, true, false, true, true, true, true, false, false, false, false] #[true, true, true, true, false, false, true, true, true, true, true, false, false, false] rfl rfl rfl rfl (by kernel_rfl) (by decide) (by decide) ?_ ?_
      · intro K hK
        go_simp
        refine hK.out _ _ (blk_alloc hS _) (fun hS => ?_)
        obtain ⟨b1, hb1⟩ : ∃ b, b = wz.heap.size := ⟨_, rfl⟩
        obtain ⟨wz, hwy, hb, he⟩ : ∃ wy, wy = wz.alloc (.cells #[.int .i64 lo] 3) ∧ Below wz.heap.size wz wy ∧ wy.heap[wz.heap.size]? = some (.cells #[.int .i64 lo] 3 (0, 0)) := ⟨_, rfl, (Below.refl _ _).alloc (Nat.le_refl _) _, blk_new _ _⟩
        rw [← hwy] at hS ⊢
        have hn1 := HST.out.n0
        rw [← hb1] at he hn1 ⊢
        clear hb1
        have HST := Lib.hid (HST.out.move hb)
        have HE1 := Lib.hid he
        (try have HE2 := Lib.hid (blk_below HE2.out hb))
        clear hwy hb he
        (try simp only [Act.put, List.setIfInBounds_toArray, List.set_cons_zero, List.set_cons_succ])
        refine two_ (i := 5) (j := 10) (Ni := (some 27)) (Nj := (some 32)) #[true, true, true, true, true, true, true, true, true, true, false, false, false, false] #[true, true, true, true, true, false, true, true, true, true, true, false, false, false] rfl rfl rfl rfl (by kernel_rfl) (by decide) (by decide) ?_ ?_
        · intro K hK
          refine Kd.R_append_rows_step (Kd.int .i64) (Rr := (Kd.int .i64).K wz) (w0 := w6) w6.heap.size (by rfl) (.tmp 22) (.tmp 26) 40 3 (.int .i64 0) 8 rfl Try.underlying40 info_int rfl (by decide) (by decide) u5 (losOf (cs.take k)) [lo] (some ⟨b1, 0, none⟩) 1 1 (fun _ => True) (fun _ => False) rfl rfl HST.out.rl (lit_C (h1 := fun _ => rfl) [lo] (by simp) HE1.out) (fun _ _ h => h) (fun _ hk => hk.elim) (fun _ _ => trivial) HST.out.below HST.out.below.size (by simp [losOf]; omega) ?_
          intro v1 wz hr1 hbel1 hg1 hat1
          (try have HE2 := Lib.hid (blk_grown HE2.out hg1 (fun e => by have := hlt1 _ e.symm; omega)))
          have HST := Lib.hid (HST.out.low hlt1 hr1 hbel1 hg1 hat1)
          refine hK.out _ _ HST.out.ck (fun hS => ?_)
          clear hr1 hbel1 hg1 hat1
          (try simp only [Act.put, List.setIfInBounds_toArray, List.set_cons_zero, List.set_cons_succ])
          refine one_ (i := 10) (N := (some 32)) #[true, true, true, true, true, true, true, true, true, true, true, false, false, false] rfl rfl (by kernel_rfl) (by decide) ?_
          intro K hK
          go_simp
          refine hK.out _ _ (blk_alloc hS _) (fun hS => ?_)
          obtain ⟨b2, hb2⟩ : ∃ b, b = wz.heap.size := ⟨_, rfl⟩
          obtain ⟨wz, hwy, hb, he⟩ : ∃ wy, wy = wz.alloc (.cells #[.int .i64 hi] 3) ∧ Below wz.heap.size wz wy ∧ wy.heap[wz.heap.size]? = some (.cells #[.int .i64 hi] 3 (0, 0)) := ⟨_, rfl, (Below.refl _ _).alloc (Nat.le_refl _) _, blk_new _ _⟩
          rw [← hwy] at hS ⊢
          have hn2 := HST.out.n0
          rw [← hb2] at he hn2 ⊢
          clear hb2
          have HST := Lib.hid (HST.out.move hb)
          have HE2 := Lib.hid he
          (try have HE1 := Lib.hid (blk_below HE1.out hb))
          clear hwy hb he
          (try simp only [Act.put, List.setIfInBounds_toArray, List.set_cons_zero, List.set_cons_succ])
          refine one_ (i := 11) (N := (some 33)) #[true, true, true, true, true, true, true, true, true, true, true, true, false, false] rfl rfl (by kernel_rfl) (by decide) ?_
          intro K hK
          refine Kd.R_append_rows_step (Kd.int .i64) (Rr := (Kd.int .i64).K wz) (w0 := w6) w6.heap.size (by rfl) (.tmp 28) (.tmp 32) 40 3 (.int .i64 0) 8 rfl Try.underlying40 info_int rfl (by decide) (by decide) u6 (hisOf (cs.take k)) [hi] (some ⟨b2, 0, none⟩) 1 1 (fun _ => True) (fun _ => False) rfl rfl HST.out.rh (lit_C (h1 := fun _ => rfl) [hi] (by simp) HE2.out) (fun _ _ h => h) (fun _ hk => hk.elim) (fun _ _ => trivial) HST.out.below HST.out.below.size (by simp [hisOf]; omega) ?_
          intro v2 wz hr1 hbel1 hg1 hat1
          (try have HE1 := Lib.hid (blk_grown HE1.out hg1 (fun e => by have := hlt2 _ e.symm; omega)))
          have HST := Lib.hid (HST.out.high hlt2 hr1 hbel1 hg1 hat1)
          refine hK.out _ _ HST.out.ck (fun hS => ?_)
          clear hr1 hbel1 hg1 hat1
          (try simp only [Act.put, List.setIfInBounds_toArray, List.set_cons_zero, List.set_cons_succ])
          refine take_ (i := 12) (N := (some 5)) (v := ?_) #[true, true, true, true, true, true, true, true, true, true, true, true, true, false] rfl rfl (by kernel_rfl) (ins_put (by decide) (by decide)) (Or.inl ⟨by rfl, ?_⟩) hS rfl ?_
          rotate_left
          · intro W hW; go_simp; with_reducible rfl
          simp only [Act.put, List.setIfInBounds_toArray, List.set_cons_zero, List.set_cons_succ]
          refine take_ (i := 13) (N := (some 6)) (v := ?_) #[true, true, true, true, true, true, true, true, true, true, true, true, true, true] rfl rfl (by kernel_rfl) (ins_put (by decide) (by decide)) (Or.inl ⟨by rfl, ?_⟩) hS rfl ?_
          rotate_left
          · intro W hW; go_simp; with_reducible rfl
          simp only [Act.put, List.setIfInBounds_toArray, List.set_cons_zero, List.set_cons_succ]
          refine done_ (by kernel_rfl) ?_
          simp only [Ins]
          go_wp2
          refine ⟨⟨k + 1, by go_num, by omega, Lib.hid HST.out.below, ?_, ?_, Lib.hid HST.out.ap⟩, by simp [intOf]; omega⟩
          · rw [losOf_take hkl, ← HLO.out]; exact Lib.hid HST.out.rl
          · rw [hisOf_take hkl, ← HHI.out]; exact Lib.hid HST.out.rh
        · intro K hK
          go_simp
          refine hK.out _ _ (blk_alloc hS _) (fun hS => ?_)
          obtain ⟨b2, hb2⟩ : ∃ b, b = wz.heap.size := ⟨_, rfl⟩
          obtain ⟨wz, hwy, hb, he⟩ : ∃ wy, wy = wz.alloc (.cells #[.int .i64 hi] 3) ∧ Below wz.heap.size wz wy ∧ wy.heap[wz.heap.size]? = some (.cells #[.int .i64 hi] 3 (0, 0)) := ⟨_, rfl, (Below.refl _ _).alloc (Nat.le_refl _) _, blk_new _ _⟩
          rw [← hwy] at hS ⊢
          have hn2 := HST.out.n0
          rw [← hb2] at he hn2 ⊢
          clear hb2
          have HST := Lib.hid (HST.out.move hb)
          have HE2 := Lib.hid he
          (try have HE1 := Lib.hid (blk_below HE1.out hb))
          clear hwy hb he
          (try simp only [Act.put, List.setIfInBounds_toArray, List.set_cons_zero, List.set_cons_succ])
          refine one_ (i := 5) (N := (some 27)) #[true, true, true, true, true, true, true, true, true, true, true, false, false, false] rfl rfl (by kernel_rfl) (by decide) ?_
          intro K hK
          refine Kd.R_append_rows_step (Kd.int .i64) (Rr := (Kd.int .i64).K wz) (w0 := w6) w6.heap.size (by rfl) (.tmp 22) (.tmp 26) 40 3 (.int .i64 0) 8 rfl Try.underlying40 info_int rfl (by decide) (by decide) u5 (losOf (cs.take k)) [lo] (some ⟨b1, 0, none⟩) 1 1 (fun _ => True) (fun _ => False) rfl rfl HST.out.rl (lit_C (h1 := fun _ => rfl) [lo] (by simp) HE1.out) (fun _ _ h => h) (fun _ hk => hk.elim) (fun _ _ => trivial) HST.out.below HST.out.below.size (by simp [losOf]; omega) ?_
          intro v1 wz hr1 hbel1 hg1 hat1
          (try have HE2 := Lib.hid (blk_grown HE2.out hg1 (fun e => by have := hlt1 _ e.symm; omega)))
          have HST := Lib.hid (HST.out.low hlt1 hr1 hbel1 hg1 hat1)
          refine hK.out _ _ HST.out.ck (fun hS => ?_)
          clear hr1 hbel1 hg1 hat1
          (try simp only [Act.put, List.setIfInBounds_toArray, List.set_cons_zero, List.set_cons_succ])
          refine one_ (i := 11) (N := (some 33)) #[true, true, true, true, true, true, true, true, true, true, true, true, false, false] rfl rfl (by kernel_rfl) (by decide) ?_
          intro K hK
          refine Kd.R_append_rows_step (Kd.int .i64) (Rr := (Kd.int .i64).K wz) (w0 := w6) w6.heap.size (by rfl) (.tmp 28) (.tmp 32) 40 3 (.int .i64 0) 8 rfl Try.underlying40 info_int rfl (by decide) (by decide) u6 (hisOf (cs.take k)) [hi] (some ⟨b2, 0, none⟩) 1 1 (fun _ => True) (fun _ => False) rfl rfl HST.out.rh (lit_C (h1 := fun _ => rfl) [hi] (by simp) HE2.out) (fun _ _ h => h) (fun _ hk => hk.elim) (fun _ _ => trivial) HST.out.below HST.out.below.size (by simp [hisOf]; omega) ?_
          intro v2 wz hr1 hbel1 hg1 hat1
          (try have HE1 := Lib.hid (blk_grown HE1.out hg1 (fun e => by have := hlt2 _ e.symm; omega)))
          have HST := Lib.hid (HST.out.high hlt2 hr1 hbel1 hg1 hat1)
          refine hK.out _ _ HST.out.ck (fun hS => ?_)
          clear hr1 hbel1 hg1 hat1
          (try simp only [Act.put, List.setIfInBounds_toArray, List.set_cons_zero, List.set_cons_succ])
          refine take_ (i := 12) (N := (some 5)) (v := ?_) #[true, true, true, true, true, true, true, true, true, true, true, true, true, false] rfl rfl (by kernel_rfl) (ins_put (by decide) (by decide)) (Or.inl ⟨by rfl, ?_⟩) hS rfl ?_
          rotate_left
          · intro W hW; go_simp; with_reducible rfl
          simp only [Act.put, List.setIfInBounds_toArray, List.set_cons_zero, List.set_cons_succ]
          refine take_ (i := 13) (N := (some 6)) (v := ?_) #[true, true, true, true, true, true, true, true, true, true, true, true, true, true] rfl rfl (by kernel_rfl) (ins_put (by decide) (by decide)) (Or.inl ⟨by rfl, ?_⟩) hS rfl ?_
          rotate_left
          · intro W hW; go_simp; with_reducible rfl
          simp only [Act.put, List.setIfInBounds_toArray, List.set_cons_zero, List.set_cons_succ]
          refine done_ (by kernel_rfl) ?_
          simp only [Ins]
          go_wp2
          refine ⟨⟨k + 1, by go_num, by omega, Lib.hid HST.out.below, ?_, ?_, Lib.hid HST.out.ap⟩, by simp [intOf]; omega⟩
          · rw [losOf_take hkl, ← HLO.out]; exact Lib.hid HST.out.rl
          · rw [hisOf_take hkl, ← HHI.out]; exact Lib.hid HST.out.rh
      · intro K hK
        go_simp
        refine hK.out _ _ (blk_alloc hS _) (fun hS => ?_)
        obtain ⟨b2, hb2⟩ : ∃ b, b = wz.heap.size := ⟨_, rfl⟩
        obtain ⟨wz, hwy, hb, he⟩ : ∃ wy, wy = wz.alloc (.cells #[.int .i64 hi] 3) ∧ Below wz.heap.size wz wy ∧ wy.heap[wz.heap.size]? = some (.cells #[.int .i64 hi] 3 (0, 0)) := ⟨_, rfl, (Below.refl _ _).alloc (Nat.le_refl _) _, blk_new _ _⟩
        rw [← hwy] at hS ⊢
        have hn2 := HST.out.n0
        rw [← hb2] at he hn2 ⊢
        clear hb2
        have HST := Lib.hid (HST.out.move hb)
        have HE2 := Lib.hid he
        (try have HE1 := Lib.hid (blk_below HE1.out hb))
        clear hwy hb he
        (try simp only [Act.put, List.setIfInBounds_toArray, List.set_cons_zero, List.set_cons_succ])
        refine one_ (i := 4) (N := (some 26)) #[true, true, true, true, true, false, true, true, true, true, true, false, false, false] rfl rfl (by kernel_rfl) (by decide) ?_
        intro K hK
        go_simp
        refine hK.out _ _ (blk_alloc hS _) (fun hS => ?_)
        obtain ⟨b1, hb1⟩ : ∃ b, b = wz.heap.size := ⟨_, rfl⟩
        obtain ⟨wz, hwy, hb, he⟩ : ∃ wy, wy = wz.alloc (.cells #[.int .i64 lo] 3) ∧ Below wz.heap.size wz wy ∧ wy.heap[wz.heap.size]? = some (.cells #[.int .i64 lo] 3 (0, 0)) := ⟨_, rfl, (Below.refl _ _).alloc (Nat.le_refl _) _, blk_new _ _⟩
        rw [← hwy] at hS ⊢
        have hn1 := HST.out.n0
        rw [← hb1] at he hn1 ⊢
        clear hb1
        have HST := Lib.hid (HST.out.move hb)
        have HE1 := Lib.hid he
        (try have HE2 := Lib.hid (blk_below HE2.out hb))
        clear hwy hb he
        (try simp only [Act.put, List.setIfInBounds_toArray, List.set_cons_zero, List.set_cons_succ])
        refine one_ (i := 5) (N := (some 27)) #[true, true, true, true, true, true, true, true, true, true, true, false, false, false] rfl rfl (by kernel_rfl) (by decide) ?_
        intro K hK
        refine Kd.R_append_rows_step (Kd.int .i64) (Rr := (Kd.int .i64).K wz) (w0 := w6) w6.heap.size (by rfl) (.tmp 22) (.tmp 26) 40 3 (.int .i64 0) 8 rfl Try.underlying40 info_int rfl (by decide) (by decide) u5 (losOf (cs.take k)) [lo] (some ⟨b1, 0, none⟩) 1 1 (fun _ => True) (fun _ => False) rfl rfl HST.out.rl (lit_C (h1 := fun _ => rfl) [lo] (by simp) HE1.out) (fun _ _ h => h) (fun _ hk => hk.elim) (fun _ _ => trivial) HST.out.below HST.out.below.size (by simp [losOf]; omega) ?_
        intro v1 wz hr1 hbel1 hg1 hat1
        (try have HE2 := Lib.hid (blk_grown HE2.out hg1 (fun e => by have := hlt1 _ e.symm; omega)))
        have HST := Lib.hid (HST.out.low hlt1 hr1 hbel1 hg1 hat1)
        refine hK.out _ _ HST.out.ck (fun hS => ?_)
        clear hr1 hbel1 hg1 hat1
        (try simp only [Act.put, List.setIfInBounds_toArray, List.set_cons_zero, List.set_cons_succ])
        refine one_ (i := 11) (N := (some 33)) #[true, true, true, true, true, true, true, true, true, true, true, true, false, false] rfl rfl (by kernel_rfl) (by decide) ?_
        intro K hK
        refine Kd.R_append_rows_step (Kd.int .i64) (Rr := (Kd.int .i64).K wz) (w0 := w6) w6.heap.size (by rfl) (.tmp 28) (.tmp 32) 40 3 (.int .i64 0) 8 rfl Try.underlying40 info_int rfl (by decide) (by decide) u6 (hisOf (cs.take k)) [hi] (some ⟨b2, 0, none⟩) 1 1 (fun _ => True) (fun _ => False) rfl rfl HST.out.rh (lit_C (h1 := fun _ => rfl) [hi] (by simp) HE2.out) (fun _ _ h => h) (fun _ hk => hk.elim) (fun _ _ => trivial) HST.out.below HST.out.below.size (by simp [hisOf]; omega) ?_
        intro v2 wz hr1 hbel1 hg1 hat1
        (try have HE1 := Lib.hid (blk_grown HE1.out hg1 (fun e => by have := hlt2 _ e.symm; omega)))
        have HST := Lib.hid (HST.out.high hlt2 hr1 hbel1 hg1 hat1)
        refine hK.out _ _ HST.out.ck (fun hS => ?_)
        clear hr1 hbel1 hg1 hat1
        (try simp only [Act.put, List.setIfInBounds_toArray, List.set_cons_zero, List.set_cons_succ])
        refine take_ (i := 12) (N := (some 5)) (v := ?_) #[true, true, true, true, true, true, true, true, true, true, true, true, true, false] rfl rfl (by kernel_rfl) (ins_put (by decide) (by decide)) (Or.inl ⟨by rfl, ?_⟩) hS rfl ?_
        rotate_left
        · intro W hW; go_simp; with_reducible rfl
        simp only [Act.put, List.setIfInBounds_toArray, List.set_cons_zero, List.set_cons_succ]
        refine take_ (i := 13) (N := (some 6)) (v := ?_) #[true, true, true, true, true, true, true, true, true, true, true, true, true, true] rfl rfl (by kernel_rfl) (ins_put (by decide) (by decide)) (Or.inl ⟨by rfl, ?_⟩) hS rfl ?_
        rotate_left
        · intro W hW; go_simp; with_reducible rfl
        simp only [Act.put, List.setIfInBounds_toArray, List.set_cons_zero, List.set_cons_succ]
        refine done_ (by kernel_rfl) ?_
        simp only [Ins]
        go_wp2
        refine ⟨⟨k + 1, by go_num, by omega, Lib.hid HST.out.below, ?_, ?_, Lib.hid HST.out.ap⟩, by simp [intOf]; omega⟩
        · rw [losOf_take hkl, ← HLO.out]; exact Lib.hid HST.out.rl
        · rw [hisOf_take hkl, ← HHI.out]; exact Lib.hid HST.out.rh
    · obtain rfl : k = cs.length := by omega
      go_wp2_with fail
      have hll : (losOf cs).length = cs.length := by simp [losOf]
      have hlh : (hisOf cs).length = cs.length := by simp [hisOf]
      rw [List.take_length] at HRL HRH
      refine (sort_any _ HRL.out (by omega) (by omega)).mono ?_
      rintro en w8 ⟨rfl, hr8, hg8⟩
      have HL8 := Lib.hid hr8
      have HH8 := Lib.hid (Kd.R_grown2 HRH.out rfl hg8 (fun k hk e => HAP.out k hk e.symm))
      have HB8 := Lib.hid (show Below w6.heap.size w6 w8 from below_grown_own HBR.out.size HBR.out hg8 HRL.out)
      clear hr8 hg8
      go_wp2_with fail
      refine (sort_any _ HH8.out (by omega) (by omega)).mono ?_
      rintro en w9 ⟨rfl, hr9, hg9⟩
      have HH9 := Lib.hid hr9
      have HL9 := Lib.hid (Kd.R_grown2 HL8.out rfl hg9 (fun k hk e => HAP.out k e.symm hk))
      have HB9 := Lib.hid (show Below w6.heap.size w6 w9 from below_grown_own HB8.out.size HB8.out hg9 HH8.out)
      clear hr9 hg9
      obtain ⟨vl, cl1, rfl, _, hCl⟩ := Kd.R_reads HL9.out
      obtain ⟨vh, ch1, rfl, _, hCh⟩ := Kd.R_reads HH9.out
      rw [sortI_len, hll] at hCl
      rw [sortI_len, hlh] at hCh
      simp only [sortI_len, hll, hlh]
      obtain ⟨n, hn0⟩ : ∃ n : Nat, a0_1 = n + 1 := ⟨(a0_1 - 1).toNat, by omega⟩
      obtain ⟨al, rfl, hql⟩ := int_at hCl n (by omega)
      obtain ⟨ah, rfl, hqh⟩ := int_at hCh n (by omega)
      have hgl := blk_below HG1.out HB9.out
      have KK2 := Lib.hid (blk_below K26.out HB9.out)
      have KK3 := Lib.hid (blk_below K36.out HB9.out)
      have h6 := blk_lt K36.out
      have h3 := blk_lt K3.out
      have hgne : some g ≠ some (w.heap.size + 1) := fun e => by injection e with e; omega
      have hlne : some (al.add n).block ≠ some (w.heap.size + 1) := fun e => by injection e with e; rw [add_block] at e; have := R_at HL9.out; omega
      have hhne : some (ah.add n).block ≠ some (w.heap.size + 1) := fun e => by injection e with e; rw [add_block] at e; have := R_at HH9.out; omega
      have hwn := wrap_n (n := n) (by omega)
      have HWN := Lib.hid hwn
      have hnl : (n : Int) < l0_2.length := by omega
      clear hwn
      subst hn0
      have HGL := Lib.hid hgl
      have HQL := Lib.hid hql
      have HQH := Lib.hid hqh
      have H9 := Lib.hid (H6.out.trans (HB9.out.mono H6.out.size))
      clear hgl hql hqh hCl hCh HAP HRL HL8 HL9 HRH HH8 HH9
      obtain ⟨rfl, rfl, rfl⟩ : r1 = (sortI (losOf cs)).getD n 0 ∧ r2 = (sortI (hisOf cs)).getD n 0 ∧ r3 = 0 := by
        have h := HF.out
        unfold chase_Cut.f at h
        rw [show errOf a0_0 (n + 1) l0_2 true = 0 from by simp [errOf, HV.out, HBAD.out], if_pos rfl, ← HCS.out, show ((n : Int) + 1 - 1).toNat = n from by omega] at h
        simp only [Option.some.injEq, Prod.mk.injEq] at h
        exact ⟨h.1.symm, h.2.1.symm, h.2.2.symm⟩
      obtain ⟨lo, hlo⟩ : ∃ x, x = (sortI (losOf cs)).getD n 0 := ⟨_, rfl⟩
      obtain ⟨hi, hhi⟩ : ∃ x, x = (sortI (hisOf cs)).getD n 0 := ⟨_, rfl⟩
      rw [← hlo] at HQL
      rw [← hhi] at HQH
      have HLO := Lib.hid hlo
      have HHI := Lib.hid hhi
      clear hlo hhi HF
      go_wp2_with fail
      refine wp_ins 2 3 ?_
      refine start_ (n := 24) (ds := [22, 23]) (S := fun W => SK w9 (some (w.heap.size + 1)) W) #[false, false, false, false, false, false, false, false, false, false, false, false, false, false, false, false, false, false, false, false, false, false, false, false] (by kernel_rfl) rfl rfl (SK.drew (SK.refl _ _)) ?_
      intro hS
      obtain ⟨wd, hwd⟩ : ∃ wd, World.drew w9 = wd := ⟨_, rfl⟩
      rw [hwd] at hS ⊢
      have hbd : Below w9.heap.size w9 wd := hwd ▸ below_drew (Below.refl _ _)
      have HBD := Lib.hid hbd
      clear hbd hwd
      refine take_ (i := 0) (N := (some 39)) (v := ?_) #[true, false, false, false, false, false, false, false, false, false, false, false, false, false, false, false, false, false, false, false, false, false, false, false] rfl rfl (by kernel_rfl) (ins_put (by decide) (by decide)) (Or.inl ⟨by rfl, ?_⟩) hS rfl ?_
      rotate_left
      · intro W hW; go_simp; with_reducible rfl
      simp only [Act.put, List.setIfInBounds_toArray, List.set_cons_zero, List.set_cons_succ]
      refine take_ (i := 1) (N := (some 40)) (v := ?_) #[true, true, false, false, false, false, false, false, false, false, false, false, false, false, false, false, false, false, false, false, false, false, false, false] rfl rfl (by kernel_rfl) (ins_put (by decide) (by decide)) (Or.inl ⟨by rfl, ?_⟩) hS rfl ?_
      rotate_left
      · intro W hW; go_simp; with_reducible rfl
      simp only [Act.put, List.setIfInBounds_toArray, List.set_cons_zero, List.set_cons_succ]
      refine take_ (i := 2) (N := (some 41)) (v := ?_) #[true, true, true, false, false, false, false, false, false, false, false, false, false, false, false, false, false, false, false, false, false, false, false, false] rfl rfl (by kernel_rfl) (ins_put (by decide) (by decide)) (Or.inl ⟨by rfl, ?_⟩) hS rfl ?_
      rotate_left
      · intro W hW; go_simp; with_reducible rfl
      simp only [Act.put, List.setIfInBounds_toArray, List.set_cons_zero, List.set_cons_succ]
      refine take_ (i := 3) (N := (some 42)) (v := ?_) #[true, true, true, true, false, false, false, false, false, false, false, false, false, false, false, false, false, false, false, false, false, false, false, false] rfl rfl (by kernel_rfl) (ins_put (by decide) (by decide)) (Or.inl ⟨by rfl, ?_⟩) hS rfl ?_
      rotate_left
      · intro W hW; go_simp; with_reducible rfl
      simp only [Act.put, List.setIfInBounds_toArray, List.set_cons_zero, List.set_cons_succ]
      refine take_ (i := 4) (N := (some 43)) (v := ?_) #[true, true, true, true, true, false, false, false, false, false, false, false, false, false, false, false, false, false, false, false, false, false, false, false] rfl rfl (by kernel_rfl) (ins_put (by decide) (by decide)) (Or.inl ⟨by rfl, ?_⟩) hS rfl ?_
      rotate_left
      · intro W hW; go_simp; with_reducible rfl
      simp only [Act.put, List.setIfInBounds_toArray, List.set_cons_zero, List.set_cons_succ]
      refine take_ (i := 5) (N := (some 44)) (v := ?_) #[true, true, true, true, true, true, false, false, false, false, false, false, false, false, false, false, false, false, false, false, false, false, false, false] rfl rfl (by kernel_rfl) (ins_put (by decide) (by decide)) (Or.inl ⟨by rfl, ?_⟩) hS rfl ?_
      rotate_left
      · intro W hW; have q0 := SK.nth hW HGL.out hgne 1 rfl; go_simp; with_reducible rfl
      simp only [Act.put, List.setIfInBounds_toArray, List.set_cons_zero, List.set_cons_succ]
      refine take_ (i := 6) (N := (some 45)) (v := .int .i64 n) #[true, true, true, true, true, true, true, false, false, false, false, false, false, false, false, false, false, false, false, false, false, false, false, false] rfl rfl (by kernel_rfl) (ins_put (by decide) (by decide)) (Or.inl ⟨by rfl, ?_⟩) hS rfl ?_
      · intro W hW; have q0 := HWN.out; first | (go_simp; done) | (go_simp; rfl)
      simp only [Act.put, List.setIfInBounds_toArray, List.set_cons_zero, List.set_cons_succ]
      refine take_ (i := 7) (N := (some 46)) (v := ?_) #[true, true, true, true, true, true, true, true, false, false, false, false, false, false, false, false, false, false, false, false, false, false, false, false] rfl rfl (by kernel_rfl) (ins_put (by decide) (by decide)) (Or.inl ⟨by rfl, ?_⟩) hS rfl ?_
      rotate_left
      · intro W hW; go_simp; with_reducible rfl
      simp only [Act.put, List.setIfInBounds_toArray, List.set_cons_zero, List.set_cons_succ]
      refine take_ (i := 8) (N := (some 47)) (v := ?_) #[true, true, true, true, true, true, true, true, true, false, false, false, false, false, false, false, false, false, false, false, false, false, false, false] rfl rfl (by kernel_rfl) (ins_put (by decide) (by decide)) (Or.inl ⟨by rfl, ?_⟩) hS rfl ?_
      rotate_left
      · intro W hW; have q0 := SK.cell hW HQL.out hlne; go_simp; with_reducible rfl
      simp only [Act.put, List.setIfInBounds_toArray, List.set_cons_zero, List.set_cons_succ]
      refine take_ (i := 9) (N := (some 48)) (v := ?_) #[true, true, true, true, true, true, true, true, true, true, false, false, false, false, false, false, false, false, false, false, false, false, false, false] rfl rfl (by kernel_rfl) (ins_put (by decide) (by decide)) (Or.inl ⟨by rfl, ?_⟩) hS rfl ?_
      rotate_left
      · intro W hW; go_simp; with_reducible rfl
      simp only [Act.put, List.setIfInBounds_toArray, List.set_cons_zero, List.set_cons_succ]
      refine take_ (i := 10) (N := (some 49)) (v := ?_) #[true, true, true, true, true, true, true, true, true, true, true, false, false, false, false, false, false, false, false, false, false, false, false, false] rfl rfl (by kernel_rfl) (ins_put (by decide) (by decide)) (Or.inl ⟨by rfl, ?_⟩) hS rfl ?_
      rotate_left
      · intro W hW; go_simp; with_reducible rfl
      simp only [Act.put, List.setIfInBounds_toArray, List.set_cons_zero, List.set_cons_succ]
      refine take_ (i := 11) (N := (some 50)) (v := ?_) #[true, true, true, true, true, true, true, true, true, true, true, true, false, false, false, false, false, false, false, false, false, false, false, false] rfl rfl (by kernel_rfl) (ins_put (by decide) (by decide)) (Or.inl ⟨by rfl, ?_⟩) hS rfl ?_
      rotate_left
      · intro W hW; go_simp; with_reducible rfl
      simp only [Act.put, List.setIfInBounds_toArray, List.set_cons_zero, List.set_cons_succ]
      refine take_ (i := 12) (N := (some 51)) (v := ?_) #[true, true, true, true, true, true, true, true, true, true, true, true, true, false, false, false, false, false, false, false, false, false, false, false] rfl rfl (by kernel_rfl) (ins_put (by decide) (by decide)) (Or.inl ⟨by rfl, ?_⟩) hS rfl ?_
      rotate_left
      · intro W hW; go_simp; with_reducible rfl
      simp only [Act.put, List.setIfInBounds_toArray, List.set_cons_zero, List.set_cons_succ]
      refine take_ (i := 13) (N := (some 52)) (v := ?_) #[true, true, true, true, true, true, true, true, true, true, true, true, true, true, false, false, false, false, false, false, false, false, false, false] rfl rfl (by kernel_rfl) (ins_put (by decide) (by decide)) (Or.inl ⟨by rfl, ?_⟩) hS rfl ?_
      rotate_left
      · intro W hW; go_simp; with_reducible rfl
      simp only [Act.put, List.setIfInBounds_toArray, List.set_cons_zero, List.set_cons_succ]
      refine take_ (i := 14) (N := (some 53)) (v := ?_) #[true, true, true, true, true, true, true, true, true, true, true, true, true, true, true, false, false, false, false, false, false, false, false, false] rfl rfl (by kernel_rfl) (ins_put (by decide) (by decide)) (Or.inl ⟨by rfl, ?_⟩) hS rfl ?_
      rotate_left
      · intro W hW; have q0 := SK.nth hW HGL.out hgne 1 rfl; go_simp; with_reducible rfl
      simp only [Act.put, List.setIfInBounds_toArray, List.set_cons_zero, List.set_cons_succ]
      refine take_ (i := 15) (N := (some 54)) (v := .int .i64 n) #[true, true, true, true, true, true, true, true, true, true, true, true, true, true, true, true, false, false, false, false, false, false, false, false] rfl rfl (by kernel_rfl) (ins_put (by decide) (by decide)) (Or.inl ⟨by rfl, ?_⟩) hS rfl ?_
      · intro W hW; have q0 := HWN.out; first | (go_simp; done) | (go_simp; rfl)
      simp only [Act.put, List.setIfInBounds_toArray, List.set_cons_zero, List.set_cons_succ]
      refine take_ (i := 16) (N := (some 55)) (v := ?_) #[true, true, true, true, true, true, true, true, true, true, true, true, true, true, true, true, true, false, false, false, false, false, false, false] rfl rfl (by kernel_rfl) (ins_put (by decide) (by decide)) (Or.inl ⟨by rfl, ?_⟩) hS rfl ?_
      rotate_left
      · intro W hW; go_simp; with_reducible rfl
      simp only [Act.put, List.setIfInBounds_toArray, List.set_cons_zero, List.set_cons_succ]
      refine take_ (i := 17) (N := (some 56)) (v := ?_) #[true, true, true, true, true, true, true, true, true, true, true, true, true, true, true, true, true, true, false, false, false, false, false, false] rfl rfl (by kernel_rfl) (ins_put (by decide) (by decide)) (Or.inl ⟨by rfl, ?_⟩) hS rfl ?_
      rotate_left
      · intro W hW; have q0 := SK.cell hW HQH.out hhne; go_simp; with_reducible rfl
      simp only [Act.put, List.setIfInBounds_toArray, List.set_cons_zero, List.set_cons_succ]
      refine one_ (i := 18) (N := none) #[true, true, true, true, true, true, true, true, true, true, true, true, true, true, true, true, true, true, true, false, false, false, false, false] rfl rfl (by kernel_rfl) (by decide) ?_
      intro K hK
      have k2 := blk_below KK2.out HBD.out
      have c0 := blk_nth k2 0 rfl
      have c1 := blk_nth k2 1 rfl
      have f0 := blk_frozen k2 0
      have f1 := blk_frozen k2 1
      go_simp
      have KS := Lib.hid (blk_put (blk_put k2 0 (.int .i64 0) rfl) 1 (.int .i64 0) rfl)
      refine hK.out _ _ (SK.set (SK.set hS 0 _) 1 _) (fun hS => ?_)
      clear c0 c1 f0 f1 k2
      (try simp only [Act.put, List.setIfInBounds_toArray, List.set_cons_zero, List.set_cons_succ])
      refine take_ (i := 19) (N := (some 57)) (v := ?_) #[true, true, true, true, true, true, true, true, true, true, true, true, true, true, true, true, true, true, true, true, false, false, false, false] rfl rfl (by kernel_rfl) (ins_put (by decide) (by decide)) (Or.inl ⟨by rfl, ?_⟩) hS rfl ?_
      rotate_left
      · intro W hW; go_simp; with_reducible rfl
      simp only [Act.put, List.setIfInBounds_toArray, List.set_cons_zero, List.set_cons_succ]
      refine one_ (i := 20) (N := none) #[true, true, true, true, true, true, true, true, true, true, true, true, true, true, true, true, true, true, true, true, true, false, false, false] rfl rfl (by kernel_rfl) (by decide) ?_
      intro K hK
      have c0 := blk_nth KS.out 0 rfl
      have f0 := blk_frozen KS.out 0
      go_simp
      have KS2 := Lib.hid (blk_put KS.out 0 (.int .i64 lo) rfl)
      refine hK.out _ _ (SK.set hS 0 _) (fun hS => ?_)
      clear c0 f0
      (try simp only [Act.put, List.setIfInBounds_toArray, List.set_cons_zero, List.set_cons_succ])
      refine take_ (i := 21) (N := (some 58)) (v := ?_) #[true, true, true, true, true, true, true, true, true, true, true, true, true, true, true, true, true, true, true, true, true, true, false, false] rfl rfl (by kernel_rfl) (ins_put (by decide) (by decide)) (Or.inl ⟨by rfl, ?_⟩) hS rfl ?_
      rotate_left
      · intro W hW; go_simp; with_reducible rfl
      simp only [Act.put, List.setIfInBounds_toArray, List.set_cons_zero, List.set_cons_succ]
      refine last_ (i := 22) (N := none) #[true, true, true, true, true, true, true, true, true, true, true, true, true, true, true, true, true, true, true, true, true, true, true, false] rfl rfl (by kernel_rfl) (by decide) ?_
      intro K hK
      have c0 := blk_nth KS2.out 1 rfl
      have f0 := blk_frozen KS2.out 1
      go_simp
      have KS3 := Lib.hid (blk_put KS2.out 1 (.int .i64 hi) rfl)
      refine hK.out _ _ ?_
      clear c0 f0
      (try simp only [Act.put, List.setIfInBounds_toArray, List.set_cons_zero, List.set_cons_succ])
      refine last_ (i := 23) (N := none) #[true, true, true, true, true, true, true, true, true, true, true, true, true, true, true, true, true, true, true, true, true, true, true, true] rfl rfl (by kernel_rfl) (by decide) ?_
      intro K hK
      have k3 := blk_far (SK.blk hS KK3.out (by simp)) (p := ⟨w.heap.size + 1, 1, none⟩) (by simp) (.int .i64 hi)
      have c0 := blk_nth k3 0 rfl
      have f0 := blk_frozen k3 0
      have KE := Lib.hid k3
      clear k3
      go_simp
      refine hK.out _ _ ?_
      clear c0 f0
      (try simp only [Act.put, List.setIfInBounds_toArray, List.set_cons_zero, List.set_cons_succ])
      refine done_ (by kernel_rfl) ?_
      simp only [Ins]
      go_wp2
      change Leaves Try.prog Try.f23 _ _ _ .returning _
      refine settled_leaves rec_Cut (results_two rfl rfl rfl (load_span (blk_far KS3.out (by simp) _)) (load_err (blk_put KE.out 0 _ rfl))) ⟨by rw [← HLO.out, ← HHI.out], ?_⟩
      exact (((((H9.out.trans (HBD.out.mono H9.out.size)).setCell (by simp) _).setCell (by simp) _).setCell (by simp) _).setCell (by simp) _).setCell (by simp; omega) _
end Go.Proofs.Ytihfmphaajdhnaa.P
/-! A range over a function whose values lie in memory: what the iterator may turn, and what a round may. -/
namespace Go.Proofs.Ytihfmphaajdhnaa.P
open Go.RowKit
set_option linter.unusedVariables false
set_option linter.unusedSimpArgs false

/-- What an iterator may do: nothing that lay ahead of its start (B0), nothing of the caller's own (O), has turned. -/
structure Turn (B0 : Nat) (O : Nat → Prop) (A B : World) : Prop where
  os : B.os = A.os
  tape : B.tape = A.tape
  output : B.output = A.output
  size : A.heap.size ≤ B.heap.size
  same : ∀ k, k < A.heap.size → (k < B0 ∨ O k) → B.heap[k]? = A.heap[k]?
/-- What a round may do: nothing but the caller's own has turned. -/
structure Kept (O : Nat → Prop) (A B : World) : Prop where
  os : B.os = A.os
  tape : B.tape = A.tape
  output : B.output = A.output
  size : A.heap.size ≤ B.heap.size
  same : ∀ k, k < A.heap.size → ¬ O k → B.heap[k]? = A.heap[k]?
theorem Turn.refl (B0 : Nat) (O : Nat → Prop) (A : World) : Turn B0 O A A := ⟨rfl, rfl, rfl, Nat.le_refl _, fun _ _ _ => rfl⟩
theorem Turn.trans {B0 : Nat} {O : Nat → Prop} {A B C : World} (h : Turn B0 O A B) (k : Turn B0 O B C) : Turn B0 O A C :=
  ⟨k.os.trans h.os, k.tape.trans h.tape, k.output.trans h.output, Nat.le_trans h.size k.size, fun i hi hO => (k.same i (Nat.lt_of_lt_of_le hi h.size) hO).trans (h.same i hi hO)⟩
theorem Turn.of_below {B0 : Nat} {O : Nat → Prop} {A B : World} (h : Below A.heap.size A B) : Turn B0 O A B := ⟨h.os, h.tape, h.output, h.size, fun k hk _ => h.block k hk⟩
theorem Turn.weak {B0 B1 : Nat} {O O1 : Nat → Prop} {A B : World} (h : Turn B1 O1 A B) (hB : ∀ k, (k < B0 ∨ O k) → (k < B1 ∨ O1 k)) : Turn B0 O A B := ⟨h.os, h.tape, h.output, h.size, fun k hk hO => h.same k hk (hB k hO)⟩
theorem Turn.put {B0 l : Nat} {O : Nat → Prop} {A : World} (hl : B0 ≤ l) (hO : ¬ O l) (o : Obj) : Turn B0 O A (A.putObj l o) :=
  ⟨rfl, rfl, rfl, by simp, fun k _ hk => World.putObj_heap_other (fun e => by subst e; exact hk.elim (fun h => by omega) (fun h => hO h))⟩
theorem Turn.set {B0 : Nat} {p : Addr} {O : Nat → Prop} {A : World} (hl : B0 ≤ p.block) (hO : ¬ O p.block) (v : Value) : Turn B0 O A (A.setCell p v) :=
  ⟨rfl, rfl, rfl, by simp, fun k _ hk => Below.heap_setCell A p v k (fun e => by subst e; exact hk.elim (fun h => by omega) (fun h => hO h))⟩
theorem Turn.grown {B0 : Nat} {row : Option Nat} {O : Nat → Prop} {A B : World} (hg : A.grownBy B row) (hr : ∀ k, row = some k → B0 ≤ k ∧ ¬ O k) : Turn B0 O A B :=
  ⟨hg.os, hg.tape, hg.output, hg.size, fun k hk hO => hg.block k hk (fun e => by obtain ⟨h1, h2⟩ := hr k e.symm; exact hO.elim (fun h => by omega) (fun h => h2 h))⟩
theorem Kept.refl (O : Nat → Prop) (A : World) : Kept O A A := ⟨rfl, rfl, rfl, Nat.le_refl _, fun _ _ _ => rfl⟩
theorem Kept.trans {O O' : Nat → Prop} {A B C : World} (h : Kept O A B) (k : Kept O' B C) (hO : ∀ i, O' i → O i ∨ A.heap.size ≤ i) : Kept O A C :=
  ⟨k.os.trans h.os, k.tape.trans h.tape, k.output.trans h.output, Nat.le_trans h.size k.size, fun i hi hn => (k.same i (Nat.lt_of_lt_of_le hi h.size) (fun h' => (hO i h').elim (fun h' => hn h') (fun h' => by omega))).trans (h.same i hi hn)⟩
theorem Kept.of_below {O : Nat → Prop} {A B : World} (h : Below A.heap.size A B) : Kept O A B := ⟨h.os, h.tape, h.output, h.size, fun k hk _ => h.block k hk⟩
theorem Kept.grown {row : Option Nat} {O : Nat → Prop} {A B : World} (hg : A.grownBy B row) (hr : ∀ k, row = some k → O k) : Kept O A B :=
  ⟨hg.os, hg.tape, hg.output, hg.size, fun k hk hn => hg.block k hk (fun e => hn (hr k e.symm))⟩
theorem Kept.set {p : Addr} {O : Nat → Prop} {A : World} (hO : O p.block) (v : Value) : Kept O A (A.setCell p v) :=
  ⟨rfl, rfl, rfl, by simp, fun k _ hk => Below.heap_setCell A p v k (fun e => by subst e; exact hk hO)⟩
theorem Kept.blk {O : Nat → Prop} {A B : World} (h : Kept O A B) {k : Nat} {o : Obj} (hb : A.heap[k]? = some o) (hO : ¬ O k) : B.heap[k]? = some o := (h.same k (Array.getElem?_eq_some_iff.1 hb).1 hO).trans hb

/-- Where a call of yield leads. -/
def YPost {α : Type} (Gv : Nat → Prop) (J Jx : List α → (Nat → Prop) → World → Prop) (s : List α) (O : Nat → Prop) (W1 : World) (e : Ending) (W' : World) : Prop :=
  ∃ O', (∀ k, O' k → (O k ∨ W1.heap.size ≤ k ∨ Gv k) ∧ k < W'.heap.size) ∧ Kept O W1 W' ∧ ((e = .returned (.bool true) ∧ J s O' W') ∨ (e = .returned (.bool false) ∧ Jx s O' W'))
theorem YPost.one {α : Type} {Gv : Nat → Prop} {J Jx : List α → (Nat → Prop) → World → Prop} {s : List α} {O : Nat → Prop} {W1 : World} {e : Ending} {W' : World} (h : YPost Gv J Jx s O W1 e W') :
    ∃ (O' : Nat → Prop) (b : Bool), e = .returned (.bool b) ∧ (∀ k, O' k → (O k ∨ W1.heap.size ≤ k ∨ Gv k) ∧ k < W'.heap.size) ∧ Kept O W1 W' ∧ (b = true → J s O' W') ∧ (b = false → Jx s O' W') := by
  obtain ⟨O', h1, h2, (⟨rfl, h3⟩ | ⟨rfl, h3⟩)⟩ := h
  · exact ⟨O', true, rfl, h1, h2, fun _ => h3, fun h => by cases h⟩
  · exact ⟨O', false, rfl, h1, h2, fun h => (by cases h), fun _ => h3⟩
/-- An iterator, called in a world: whatever loop calls it, whatever that loop knows, it yields these values, in this order, till a round says no more. -/
def Iter {α : Type} (P : Program) (g : Nat) (lb : Array Value) (Enc : α → Value → World → Prop) (Gv : Value → Nat → Prop) (Rd : Nat → Prop) (L : List α) (W : World) : Prop :=
  ∀ (l : Nat) (J Jx : List α → (Nat → Prop) → World → Prop) (O : Nat → Prop),
    (∀ s O A B, J s O A → Turn W.heap.size O A B → J s O B) → (∀ s O A B, Jx s O A → Turn W.heap.size O A B → Jx s O B) →
    (∀ pre O x v W1, J pre O W1 → Enc x v W1 → (∀ k, Gv v k → W.heap.size ≤ k) → (pre ++ [x]) <+: L → ∀ m, YieldAt Fence.wide m P l #[v] W1 (YPost (Gv v) J Jx (pre ++ [x]) O W1)) →
    J [] O W → (∀ k, O k → k < W.heap.size) → (∀ k, Rd k → ¬ O k) →
    Calls P g (#[.func (.yield l) #[] #[]] ++ lb) W fun e W' => (∃ v, e = .returned v) ∧ ((∃ O', J L O' W') ∨ (∃ pre O', Jx pre O' W' ∧ pre ≠ [] ∧ pre <+: L))

theorem Iter.weak {α : Type} {P : Program} {g : Nat} {lb : Array Value} {Enc Enc' : α → Value → World → Prop} {Gv : Value → Nat → Prop} {Rd : Nat → Prop} {L : List α} {W : World} (h : Iter P g lb Enc Gv Rd L W) (hE : ∀ x v W, Enc x v W → Enc' x v W) : Iter P g lb Enc' Gv Rd L W :=
  fun l J Jx O hJ hJx hY h0 hO hRd => h l J Jx O hJ hJx (fun pre O x v W1 hj he hg hp m => hY pre O x v W1 hj (hE _ _ _ he) hg hp m) h0 hO hRd

theorem roundIn_any {F : Fence} {n m : Nat} {P : Program} {l f : Nat} {tmps : Array Value} {assign body : Code} {w : World} {R : Ending → World → Prop} (hd : F.depth = none) (h : RoundIn F n P l f tmps assign body w R) : RoundIn F m P l f tmps assign body w R :=
  ⟨h.1, fun c cs _ => h.2 c cs (fun d e => by rw [hd] at e; cases e)⟩

/-- How a round's body is left. -/
def RPost {α : Type} (Gv : Nat → Prop) (I : List α → (Nat → Prop) → World → Prop) (Ix : Code → List α → (Nat → Prop) → World → Prop) (s : List α) (O : Nat → Prop) (W : World) : Exit → Act → World → Prop
  | .normal, _, W' => ∃ O', (∀ k, O' k → (O k ∨ W.heap.size ≤ k ∨ Gv k) ∧ k < W'.heap.size) ∧ Kept O W W' ∧ I s O' W'
  | .ret, _, W' => ∃ O', (∀ k, O' k → (O k ∨ W.heap.size ≤ k ∨ Gv k) ∧ k < W'.heap.size) ∧ Kept O W W' ∧ Ix .ret s O' W'
  | .exit id, _, W' => ∃ O', (∀ k, O' k → (O k ∨ W.heap.size ≤ k ∨ Gv k) ∧ k < W'.heap.size) ∧ Kept O W W' ∧ Ix (.exit id) s O' W'
  | .goto t, _, W' => ∃ O', (∀ k, O' k → (O k ∨ W.heap.size ≤ k ∨ Gv k) ∧ k < W'.heap.size) ∧ Kept O W W' ∧ Ix (.goto t) s O' W'
  | .panic _, _, _ => False
  | .outgrown, _, _ => False

theorem range_own {α : Type} {P : Program} {n : Nat} {g : Operand} {p : Tmp} {assign body : Code} {Q : Exit → Act → World → Prop} {a : Act} {w : World} {gf : Nat} (D : Nat) (hD : w.heap.size = D) {lb : Array Value}
    (hg : a.eval g = .func (.func gf) #[] lb) (eg : ∀ args w, (callFunc gf args).run P w = .ok (.enter gf args) w) {Enc : α → Value → World → Prop} {Gv : Value → Nat → Prop} {Rd : Nat → Prop} {L : List α}
    (hseq : ∀ W, Below D w W → W.heap.size = D + 2 → Iter P gf lb Enc Gv Rd L W) (hRd : ∀ k, Rd k → k < D)
    (I : List α → (Nat → Prop) → World → Prop) (Ix : Code → List α → (Nat → Prop) → World → Prop)
    (hI : ∀ s O A B, I s O A → Turn D O A B → I s O B) (hIx : ∀ c s O A B, Ix c s O A → Turn D O A B → Ix c s O B)
    (O0 : Nat → Prop) (h0 : I [] O0 w) (hO0 : ∀ k, O0 k → k < D) (hRO : ∀ k, Rd k → ¬ O0 k)
    (hround : ∀ l pre O x v W, I pre O W → Enc x v W → (∀ k, Gv v k → D + 2 ≤ k) → (pre ++ [x]) <+: L → l = D + 1 → l < W.heap.size → ¬ O l →
      assign.wpIn (Fence.wide.inRound l) n P (Exit.then (fun a1 W1 => Below W.heap.size W W1 ∧ ∀ W2, W2.heap.size = W1.heap.size → (∀ k, k ≠ l → W2.heap[k]? = W1.heap[k]?) → Turn D O W1 W2 →
        body.wpIn (Fence.wide.inRound l) n P (RPost (Gv v) I Ix (pre ++ [x]) O W2) a1 W2) (fun _ _ _ => False)) { tmps := a.tmps.setIfInBounds p v, defers := [] } W)
    (hdone : ∀ O W, I L O W → ¬ O D → W.heap[D]? = some (.deferred (some [])) → Q .normal { a with defers := { target := .collected D, args := #[] } :: a.defers } W)
    (hstop : ∀ c pre O W, Ix c pre O W → pre ≠ [] → pre <+: L → ¬ O D → W.heap[D]? = some (.deferred (some [])) → c.wpIn Fence.wide n P Q { a with defers := { target := .collected D, args := #[] } :: a.defers } W) :
    (Code.rangeFunc g #[p] assign body).wpIn Fence.wide n P Q a w := by
  refine wpIn_rangeFunc ?_
  intro fn hfn
  obtain ⟨rec, hrec⟩ : ∃ rec : LoopState → Option Code → Loop, rec = fun st pe => { state := st, pending := pe, fn, tmps := a.tmps, params := #[p], assign, body, defers := D } := ⟨_, rfl⟩
  obtain ⟨W1, hW1⟩ : ∃ W1, (w.alloc (.deferred (some []))).alloc (.loop (rec .ready none)) = W1 := ⟨_, rfl⟩
  have hL1 : W1.heap[D + 1]? = some (.loop (rec .ready none)) := by
    rw [← hW1, ← hD]; have := World.alloc_heap_new (w.alloc (.deferred (some []))) (.loop (rec .ready none)); rwa [World.size_alloc] at this
  have hK1 : W1.heap[D]? = some (.deferred (some [])) := by
    rw [← hW1, ← hD]; exact (Below.heap_alloc _ _ _ (by simp)).trans (World.alloc_heap_new w _)
  have hb1 : Below D w W1 := by rw [← hW1, ← hD]; exact ((Below.refl _ w).alloc (Nat.le_refl _) _).alloc (by simp) _
  have hs1 : W1.heap.size = D + 2 := by rw [← hW1, ← hD]; simp
  have hnD : ∀ O1 : Nat → Prop, (∀ k, O1 k → k < D) → ¬ O1 D ∧ ¬ O1 (D + 1) := fun O1 h => ⟨fun h' => by have := h _ h'; omega, fun h' => by have := h _ h'; omega⟩
  refine ⟨D + 1, [{ target := .collected D, args := #[] }], W1, { target := .fn (.func gf) lb, args := #[.func (.yield (D + 1)) #[] #[]] }, W1, gf,
    #[.func (.yield (D + 1)) #[] #[]] ++ lb, W1, ?_, ?_, fun _ _ => trivial, ?_, fun h => by simp [Fence.wide] at h, ?_⟩
  · rw [← hW1, hrec, ← hD]; exact run_enterLoop_outer _ _ _ _ _
  · simp only [resolve, hg]
    simp [go_sem]
  · simp [invoke, go_sem, eg]
  refine callsIn_wide.2 ((hseq W1 hb1 (by omega) (D + 1)
    (fun s O A => ∃ O1, (∀ k, O k ↔ (O1 k ∨ k = D ∨ k = D + 1)) ∧ I s O1 A ∧ ¬ O1 D ∧ ¬ O1 (D + 1) ∧ A.heap[D + 1]? = some (.loop (rec .ready none)) ∧ A.heap[D]? = some (.deferred (some [])))
    (fun s O A => ∃ c O1, (∀ k, O k ↔ (O1 k ∨ k = D ∨ k = D + 1)) ∧ Ix c s O1 A ∧ ¬ O1 D ∧ ¬ O1 (D + 1) ∧ A.heap[D + 1]? = some (.loop (rec .done (some c))) ∧ A.heap[D]? = some (.deferred (some [])))
    (fun k => O0 k ∨ k = D ∨ k = D + 1) ?_ ?_ ?_ ?_ ?_ (fun k hk h => by have := hRd k hk; exact h.elim (hRO k hk) (fun h => by omega))).mono ?_)
  · rintro s O A B ⟨O1, hO, hi, n1, n2, hl, hk⟩ ht
    have hlt := (Array.getElem?_eq_some_iff.1 hl).1
    exact ⟨O1, hO, hI s O1 A B hi (ht.weak (fun k hk' => hk'.elim (fun h => .inl (by omega)) (fun h => .inr ((hO k).2 (.inl h))))), n1, n2,
      (ht.same _ hlt (.inl (by omega))).trans hl, (ht.same _ (by omega) (.inl (by omega))).trans hk⟩
  · rintro s O A B ⟨c, O1, hO, hi, n1, n2, hl, hk⟩ ht
    have hlt := (Array.getElem?_eq_some_iff.1 hl).1
    exact ⟨c, O1, hO, hIx c s O1 A B hi (ht.weak (fun k hk' => hk'.elim (fun h => .inl (by omega)) (fun h => .inr ((hO k).2 (.inl h))))), n1, n2,
      (ht.same _ hlt (.inl (by omega))).trans hl, (ht.same _ (by omega) (.inl (by omega))).trans hk⟩
  · rintro pre O x v W ⟨O1, hO, hi, n1, n2, hl, hk⟩ henc hgv hpre m
    have hlt : D + 1 < W.heap.size := (Array.getElem?_eq_some_iff.1 hl).1
    have hy := run_yield (P := P) (args := #[v]) hl (by rw [hrec]; rfl)
    rw [hrec] at hy
    refine ⟨fn, a.tmps.setIfInBounds p v, assign, body, by simpa using hy, roundIn_any (n := n) rfl (roundIn_of_wpIn hfn ?_)⟩
    refine wpIn_mono (hround (D + 1) pre O1 x v W hi henc (fun k hk => by have := hgv k hk; omega) hpre rfl hlt n2) ?_
    rintro e a1 Wa hp
    cases e with
    | normal =>
      obtain ⟨hba, hbody⟩ := hp
      have hla : Wa.heap[D + 1]? = some (.loop (rec .ready none)) := (hba.block _ hlt).trans hl
      have hka : Wa.heap[D]? = some (.deferred (some [])) := (hba.block _ (by omega)).trans hk
      have hlta : D + 1 < Wa.heap.size := (Array.getElem?_eq_some_iff.1 hla).1
      refine ⟨_, run_beginRound hla (by rw [hrec]), ?_⟩
      obtain ⟨W2, hW2⟩ : ∃ W2, W2 = Wa.putObj (D + 1) (.loop { rec .ready none with state := .busy }) := ⟨_, rfl⟩
      rw [← hW2]
      have hs2 : W2.heap.size = Wa.heap.size := by rw [hW2]; simp
      have ho2 : ∀ k, k ≠ D + 1 → W2.heap[k]? = Wa.heap[k]? := fun k hk => by rw [hW2]; exact World.putObj_heap_other hk
      have hl2 : W2.heap[D + 1]? = some (.loop { rec .ready none with state := .busy }) := by rw [hW2]; exact World.putObj_heap_same hlta
      have hk2 : W2.heap[D]? = some (.deferred (some [])) := (ho2 D (by omega)).trans hka
      have hk02 : Kept O W W2 := ⟨by rw [hW2]; exact hba.os, by rw [hW2]; exact hba.tape, by rw [hW2]; exact hba.output, by rw [hs2]; exact hba.size, fun k hk hn => (ho2 k (fun e => hn ((hO k).2 (.inr (.inr e))))).trans (hba.block k hk)⟩
      refine wpIn_mono (hbody W2 hs2 ho2 (by rw [hW2]; exact Turn.put (by omega) n2 _)) ?_
      have fin : ∀ (jump : Option Code) (O' : Nat → Prop) (W3 : World), (∀ k, O' k → (O1 k ∨ W2.heap.size ≤ k ∨ Gv v k) ∧ k < W3.heap.size) → Kept O1 W2 W3 →
          (Instr.endRound (D + 1) jump).run P W3 = .ok (.bool jump.isNone) (W3.putObj (D + 1) (.loop (rec (if jump.isNone then .ready else .done) jump))) ∧
          Turn D O' W3 (W3.putObj (D + 1) (.loop (rec (if jump.isNone then .ready else .done) jump))) ∧ ¬ O' D ∧ ¬ O' (D + 1) ∧
          (W3.putObj (D + 1) (.loop (rec (if jump.isNone then .ready else .done) jump))).heap[D + 1]? = some (.loop (rec (if jump.isNone then .ready else .done) jump)) ∧
          (W3.putObj (D + 1) (.loop (rec (if jump.isNone then .ready else .done) jump))).heap[D]? = some (.deferred (some [])) ∧
          (∀ k, (O' k ∨ k = D ∨ k = D + 1) → (O k ∨ W.heap.size ≤ k ∨ Gv v k) ∧ k < (W3.putObj (D + 1) (.loop (rec (if jump.isNone then .ready else .done) jump))).heap.size) ∧ Kept O W (W3.putObj (D + 1) (.loop (rec (if jump.isNone then .ready else .done) jump))) := by
        intro jump O' W3 hO' hk3
        have hl3 := hk3.blk hl2 n2
        have hr := run_endRound (P := P) jump hl3
        have n1' : ¬ O' D := fun h => (hO' _ h).1.elim (fun h => n1 h) (fun h => h.elim (fun h => by omega) (fun h => by have := hgv _ h; omega))
        have n2' : ¬ O' (D + 1) := fun h => (hO' _ h).1.elim (fun h => n2 h) (fun h => h.elim (fun h => by omega) (fun h => by have := hgv _ h; omega))
        have hlt3 := (Array.getElem?_eq_some_iff.1 hl3).1
        rw [hrec] at hr
        refine ⟨by rw [hrec]; exact hr, Turn.put (by omega) n2' _, n1', n2', World.putObj_heap_same hlt3, (World.putObj_heap_other (by omega)).trans (hk3.blk hk2 n1), ?_, ?_⟩
        · rintro k (h | h | h)
          · obtain ⟨h, hlt'⟩ := hO' k h
            refine ⟨?_, by simpa using hlt'⟩
            rcases h with h | h | h
            · exact .inl ((hO k).2 (.inl h))
            · have := hba.size; exact .inr (.inl (by omega))
            · exact .inr (.inr h)
          · exact ⟨.inl ((hO k).2 (.inr (.inl h))), by rw [World.putObj_size]; omega⟩
          · exact ⟨.inl ((hO k).2 (.inr (.inr h))), by rw [World.putObj_size]; omega⟩
        · refine hk02.trans (O' := O) ⟨hk3.os, hk3.tape, hk3.output, by have := hk3.size; simpa using this, fun k hk hn => ?_⟩ (fun i h => .inl h)
          exact (World.putObj_heap_other (fun e => hn ((hO k).2 (.inr (.inr e))))).trans (hk3.same k hk (fun h => hn ((hO k).2 (.inl h))))
      rintro e a3 W3 hp
      cases e with
      | normal =>
        obtain ⟨O', hO', hk3, hi3⟩ := hp
        obtain ⟨hr, ht, n1', n2', hl4, hk4, hsub, hkk⟩ := fin none O' W3 hO' hk3
        exact ⟨_, _, hr, fun k => O' k ∨ k = D ∨ k = D + 1, hsub, hkk, .inl ⟨rfl, O', fun _ => Iff.rfl, hI _ _ _ _ hi3 ht, n1', n2', hl4, hk4⟩⟩
      | ret =>
        obtain ⟨O', hO', hk3, hi3⟩ := hp
        obtain ⟨hr, ht, n1', n2', hl4, hk4, hsub, hkk⟩ := fin (some .ret) O' W3 hO' hk3
        exact ⟨_, _, hr, fun k => O' k ∨ k = D ∨ k = D + 1, hsub, hkk, .inr ⟨rfl, .ret, O', fun _ => Iff.rfl, hIx _ _ _ _ _ hi3 ht, n1', n2', hl4, hk4⟩⟩
      | exit id =>
        obtain ⟨O', hO', hk3, hi3⟩ := hp
        obtain ⟨hr, ht, n1', n2', hl4, hk4, hsub, hkk⟩ := fin (some (.exit id)) O' W3 hO' hk3
        exact ⟨_, _, hr, fun k => O' k ∨ k = D ∨ k = D + 1, hsub, hkk, .inr ⟨rfl, .exit id, O', fun _ => Iff.rfl, hIx _ _ _ _ _ hi3 ht, n1', n2', hl4, hk4⟩⟩
      | goto t =>
        obtain ⟨O', hO', hk3, hi3⟩ := hp
        obtain ⟨hr, ht, n1', n2', hl4, hk4, hsub, hkk⟩ := fin (some (.goto t)) O' W3 hO' hk3
        exact ⟨_, _, hr, fun k => O' k ∨ k = D ∨ k = D + 1, hsub, hkk, .inr ⟨rfl, .goto t, O', fun _ => Iff.rfl, hIx _ _ _ _ _ hi3 ht, n1', n2', hl4, hk4⟩⟩
      | panic ch => exact hp.elim
      | outgrown => exact hp.elim
    | exit id => exact hp.elim
    | goto t => exact hp.elim
    | ret => exact hp.elim
    | panic ch => exact hp.elim
    | outgrown => exact hp.elim
  · exact ⟨O0, fun _ => Iff.rfl, hI _ _ _ _ h0 (Turn.of_below (by rw [hD]; exact hb1)), (hnD O0 hO0).1, (hnD O0 hO0).2, hL1, hK1⟩
  · rintro k (h | h | h)
    · have := hO0 k h; omega
    · omega
    · omega
  · rintro e W2 ⟨⟨v, rfl⟩, (⟨O', O1, hO, hi, n1, n2, hl, hk⟩ | ⟨pre, O', ⟨c, O1, hO, hi, n1, n2, hl, hk⟩, hne, hpre⟩)⟩
    · exact ⟨none, _, by have := run_endLoop (P := P) hl (by rw [hrec]; simp); rw [hrec] at this; exact this, hdone O1 _ (hI _ _ _ _ hi (Turn.put (by omega) n2 _)) n1 ((World.putObj_heap_other (by omega)).trans hk)⟩
    · exact ⟨some c, _, by have := run_endLoop (P := P) hl (by rw [hrec]; simp); rw [hrec] at this; exact this, hstop c pre O1 _ (hIx c _ _ _ _ hi (Turn.put (by omega) n2 _)) hne hpre n1 ((World.putObj_heap_other (by omega)).trans hk)⟩
end Go.Proofs.Ytihfmphaajdhnaa.P
/-! A region that draws its order, inside a round: the print's steps serve there too. -/
namespace Go.Proofs.Ytihfmphaajdhnaa.P
open Go.RowKit Go.Proofs.YtihfmphaajdhnaaW.PrintWords Go.Proofs.YtihfmphaajdhnaaW.PrintLast Go.Proofs.YtihfmphaajdhnaaW.PrintMore
set_option linter.unusedVariables false
set_option linter.unusedSimpArgs false
section
variable {P : Program} {ops : Array Oper} {Q : Exit → Act → World → Prop} {md : Region.Mode}
theorem uponIn_of_upon {l n : Nat} {o : Oper} {a : Act} {K K' : Act → World → Prop} (hk : ∀ a w, K a w → K' a w) : ∀ {r : Result Next}, o.upon P a K Q r → o.uponIn (Fence.wide.inRound l) n P a K' Q r
  | .ok (.value v) w', h => hk _ _ h
  | .ok .skip w', h => hk _ _ h
  | .ok (.defer d) w', h => hk _ _ h
  | .ok (.enter f args) w', h => ⟨fun hh => (by cases hh), CallsIn.inRound l (callsIn_wide.2 (Calls.mono h (fun e w'' he => (by
      cases e with
      | returned v => exact hk _ _ he
      | panicked c => exact he
      | outgrown => exact he))))⟩
  | .ok (.row row args) w', h => ⟨fun hh => (by cases hh), fun c cs _ => (match h c cs with
      | ⟨v, w'', hr, hs⟩ => ⟨v, w'', hk _ _ hr, stepsIn_wide.2 hs⟩)⟩
  | .halt (.panic v) w', h => h
theorem wpOpIn_of_wpOp {l n i : Nat} {a : Act} {w : World} {K K' : Act → World → Prop} (hd : ∀ (i : Nat) o, ops[i]? = some o → ∀ c, o.op ≠ .defer c) (hl : ¬ LetsOut Q) (hk : ∀ a w, K a w → K' a w)
    (h : wpOp P ops Q i K a w) : wpOpIn (Fence.wide.inRound l) n P ops Q i K' a w := by
  unfold wpOp at h
  unfold wpOpIn
  cases ho : ops[i]? with
  | none => rw [ho] at h; exact hk _ _ h
  | some o =>
    rw [ho] at h
    simp only at h ⊢
    split at h
    · rename_i hw
      rw [if_pos hw]
      rcases h with h | h
      · refine ⟨fun _ _ => trivial, ?_⟩
        show o.uponIn _ n P a K' Q ((Oper.semAt (some l) a.eval o).run P w)
        rw [Oper.semAt_some l a.eval o (hd i o ho)]
        exact uponIn_of_upon hk h
      · exact absurd h.2 hl
    · rename_i hw
      rw [if_neg hw]
      exact ⟨fun _ _ => trivial, hk _ _ h⟩
theorem wpAnyIn_of_wpAny {l n : Nat} (hd : ∀ (i : Nat) o, ops[i]? = some o → ∀ c, o.op ≠ .defer c) (hl : ¬ LetsOut Q) : ∀ (fuel : Nat) (listed : Array Bool) (a : Act) (w : World), wpAny P md ops Q fuel listed a w → wpAnyIn (Fence.wide.inRound l) n P md ops Q fuel listed a w
  | 0, _, _, _, h => h
  | fuel + 1, _, _, _, h => ⟨h.1, fun i hi => wpOpIn_of_wpOp hd hl (fun a w => wpAnyIn_of_wpAny hd hl fuel _ a w) (h.2 i hi)⟩
def noDefer (ops : Array Oper) : Bool := ops.all fun o => match o.op with | .defer _ => false | _ => true
theorem noDefer_spec (h : noDefer ops = true) : ∀ (i : Nat) o, ops[i]? = some o → ∀ c, o.op ≠ .defer c := by
  intro i o ho c hc
  unfold noDefer at h
  rw [Array.all_eq_true] at h
  obtain ⟨hi, rfl⟩ := Array.getElem?_eq_some_iff.1 ho
  have := h i hi
  rw [hc] at this
  cases this
theorem startR_ {l m : Nat} {S : World → Prop} {ds : List Nat} {id n : Nat} {a : Act} {w : World} (hl : ¬ LetsOut Q) (hnd : noDefer ops = true) (lb : Array Bool) (hm : P.follows .mixedOrders = true) (hn : ops.size = n) (hlb : Array.replicate n false = lb) (hS : S w.drew)
    (h : S w.drew → wpAnyLast P .any ops Q S ds n lb a w.drew) : (Code.region id ops true).wpIn (Fence.wide.inRound l) m P Q a w := by
  subst hn
  subst hlb
  exact wpIn_region_any hm (wpAnyIn_of_wpAny (noDefer_spec hnd) hl _ _ _ _ (wpAny_of_last _ _ _ _ (h hS)))
theorem wpListIn_of_wpList {l n : Nat} (hd : ∀ (i : Nat) o, ops[i]? = some o → ∀ c, o.op ≠ .defer c) (hl : ¬ LetsOut Q) : ∀ (rest : List Oper), (∀ o ∈ rest, ∃ i : Nat, ops[i]? = some o) → ∀ (a : Act) (w : World), wpList P ops Q rest a w → wpListIn (Fence.wide.inRound l) n P ops Q rest a w
  | [], _, _, _, h => h
  | o :: rest, hr, a, w, h => by
    have ih := wpListIn_of_wpList (l := l) (n := n) hd hl rest (fun o ho => hr o (by simp [ho]))
    obtain ⟨i, hi⟩ := hr o (by simp)
    unfold wpList at h
    unfold wpListIn
    split at h
    · rename_i hw
      rw [if_pos hw]
      rcases h with h | h
      · refine ⟨fun _ _ => trivial, ?_⟩
        show o.uponIn _ n P a _ Q ((Oper.semAt (some l) a.eval o).run P w)
        rw [Oper.semAt_some l a.eval o (hd i o hi)]
        exact uponIn_of_upon ih h
      · exact absurd h.2 hl
    · rename_i hw
      rw [if_neg hw]
      exact ⟨fun _ _ => trivial, ih _ _ h⟩
theorem regionR {l n id : Nat} {os : List Oper} {a : Act} {w : World} (hl : ¬ LetsOut Q) (hnd : noDefer os.toArray = true) (h : wpList P os.toArray Q os a w) : (Code.region id os.toArray false).wpIn (Fence.wide.inRound l) n P Q a w :=
  wpIn_region_lit (wpListIn_of_wpList (noDefer_spec hnd) hl os (fun o ho => by
    obtain ⟨i, hi, rfl⟩ := List.getElem_of_mem ho
    exact ⟨i, by simp [hi]⟩) a w h)
end
end Go.Proofs.Ytihfmphaajdhnaa.P
/-! Package chase: next, an iterator. -/
namespace Go.Proofs.Ytihfmphaajdhnaa.P
open Go.RowKit Go.Proofs.YtihfmphaajdhnaaW.PrintWords Go.Proofs.YtihfmphaajdhnaaW.PrintLast Go.Proofs.YtihfmphaajdhnaaW.PrintMore
set_option linter.unusedVariables false
set_option linter.unusedSimpArgs false
attribute [local go_sem] Oper.semAt_some

/-- Pairs that are placed, the last one, its least time. -/
structure St where
  placed : Nat
  last : Int
  time : Int
  deriving Inhabited, DecidableEq
def St.v (s : St) : Value := .agg #[.int .u64 s.placed, .int .i64 s.last, .int .i64 s.time]
def earl (k : S65) (s : St) : Int := mx k.f0.f0 (if k.f1 < s.last then s.time + 1 else s.time)
/-- May a pair come next? -/
def mayNext (cs : List S65) (s : St) (p : Nat) : Bool := !s.placed.testBit p && decide (earl (cl cs p) s ≤ (cl cs p).f0.f1)
def stNext (cs : List S65) (s : St) (p : Nat) : St := ⟨s.placed ||| 2 ^ p, p, earl (cl cs p) s⟩
def nextsTo (cs : List S65) (s : St) (k : Nat) : List St := ((List.range k).filter (mayNext cs s)).map (stNext cs s)
def nexts (cs : List S65) (s : St) : List St := nextsTo cs s cs.length
theorem nextsTo_succ (cs : List S65) (s : St) (k : Nat) : nextsTo cs s (k + 1) = nextsTo cs s k ++ if mayNext cs s k then [stNext cs s k] else [] := by
  unfold nextsTo
  rw [List.range_succ, List.filter_append, List.map_append]
  congr 1
  by_cases h : mayNext cs s k <;> simp [h]
theorem nextsTo_prefix (cs : List S65) (s : St) {j k : Nat} (h : j ≤ k) : nextsTo cs s j <+: nextsTo cs s k := by
  obtain ⟨d, rfl⟩ := Nat.le.dest h
  induction d with
  | zero => exact List.prefix_refl _
  | succ d ih => rw [← Nat.add_assoc, nextsTo_succ]; exact (ih (by omega)).trans (List.prefix_append _ _)

/-- A chase that is looked at, in two blocks. -/
structure Mem (w : World) (g ga : Nat) (e f : Int) (A : Option Addr) (c : Nat) (ps : List (List Int)) (cs : List S65) : Prop where
  out : ∃ v, w.heap[g]? = some (.cells #[.int .i64 e, .int .i64 f, .slice A ps.length c, v] 68 (0, 0)) ∧ Kd.R k65 65 w 0 (fun k => k = ga) v cs
theorem Mem.move {w w1 : World} {g ga : Nat} {e f : Int} {A : Option Addr} {c : Nat} {ps : List (List Int)} {cs : List S65} (h : Mem w g ga e f A c ps cs) (h1 : w1.heap[g]? = w.heap[g]?) (h2 : w1.heap[ga]? = w.heap[ga]?) : Mem w1 g ga e f A c ps cs := by
  obtain ⟨v, hg, hv⟩ := h.out
  exact ⟨v, h1.trans hg, Kd.R_move hv (fun k hk => by rw [hk]; exact h2)⟩

theorem Mem.clocks {w : World} {g ga n : Nat} {e f : Int} {A Av : Option Addr} {c cv : Nat} {ps : List (List Int)} {cs : List S65} (h : Mem w g ga e f A c ps cs)
    (h0 : w.heap[g]? = some (.cells #[.int .i64 e, .int .i64 f, .slice A ps.length c, .slice Av n cv] 68 (0, 0))) : n = cs.length ∧ Kd.C k65 w Av cs.length cs := by
  obtain ⟨v, hg, hv⟩ := h.out
  rw [h0] at hg
  obtain ⟨A', c', rfl, _, hC⟩ := Kd.R_reads hv
  simp only [Option.some.injEq, Obj.cells.injEq, and_true, Array.mk.injEq, List.cons.injEq, true_and, Value.slice.injEq] at hg
  obtain ⟨rfl, rfl, rfl⟩ := hg
  exact ⟨rfl, hC⟩
theorem and6 : ∀ s : Nat, s < 64 → ∀ p : Nat, p < 6 → Go.bits .and .u64 ((s : Int) / 2 ^ p) 1 = ((s / 2 ^ p % 2 : Nat) : Int) := by decide +kernel
theorem or6 : ∀ s : Nat, s < 64 → ∀ p : Nat, p < 6 → Go.bits .or .u64 (s : Int) ((2 : Int) ^ p) = ((s ||| 2 ^ p : Nat) : Int) := by decide +kernel
theorem shl6 : ∀ p : Nat, p < 6 → IntKind.u64.wrap ((2 : Int) ^ p) = (2 : Int) ^ p := by decide +kernel

set_option maxHeartbeats 2000000 in
set_option maxRecDepth 100000 in
theorem next1_iter {g ga b1 b2 : Nat} {e f : Int} {A : Option Addr} {c : Nat} {ps : List (List Int)} {cs : List S65} {s : St} (W : World) (hM : Mem W g ga e f A c ps cs)
    (h1 : W.heap[b1]? = some (.cells #[.pointer (some ⟨g, 0, none⟩)] 69 (0, 0))) (h2 : W.heap[b2]? = some (.cells #[.int .u64 s.placed, .int .i64 s.last, .int .i64 s.time] 113 (0, 0)))
    (hga : ga < W.heap.size) (hl : cs.length ≤ 6) (hp : s.placed < 64) (ht0 : 0 ≤ s.time) (ht1 : s.time ≤ 1000) :
    Iter Try.prog 96 #[.pointer (some ⟨b1, 0, none⟩), .pointer (some ⟨b2, 0, none⟩)] (fun (x : St) v _ => v = x.v) (fun _ _ => False) (fun k => k = g ∨ k = ga ∨ k = b1 ∨ k = b2) (nexts cs s) W := by
  intro l J Jx O hJ hJx hY h0 hO hRd
  obtain ⟨v, hg, hv⟩ := hM.out
  obtain ⟨Av, cv, rfl, hlc, hC⟩ := Kd.R_reads hv
  have HC := Lib.hid hC
  have HG := Lib.hid hg
  have H1 := Lib.hid h1
  have H2 := Lib.hid h2
  have HM := Lib.hid hM
  have HJ := Lib.hid hJ
  have HJX := Lib.hid hJx
  have HY := Lib.hid hY
  have H0 := Lib.hid h0
  have HO := Lib.hid hO
  have HRD := Lib.hid hRd
  have q1 := blk_nth h1 0 rfl
  have q3 := blk_nth hg 3 rfl
  clear hC hg h1 h2 hM hJ hJx hY h0 hO hRd hv
  refine callsIn_wide (n := 5) |>.1 ?_
  change CallsIn _ _ _ _ #[.func (.yield l) #[] #[], .pointer (some ⟨b1, 0, none⟩), .pointer (some ⟨b2, 0, none⟩)] _ _
  refine callsIn_of_wp Try.func96 rfl trivial ?_
  simp only [Try.ntmps96, List.size_toArray, List.length_cons, List.length_nil, Nat.reduceAdd, Nat.reduceSub, Array.replicate_succ, Array.replicate_zero, List.push_toArray, List.append_toArray, List.nil_append, List.cons_append]
  refine wpIn_wide.2 (wp_scope_straight (wpIn_wide (n := 5) |>.1 ?_))
  apply wpIn_seq_k
  intro K hK
  apply wpIn_label
  refine hK _ _ ?_
  clear hK
  gi_wp2_with fail
  gi_loopw [12] (fun i wr => ∃ (k : Nat) (O' : Nat → Prop), i = .int .i64 k ∧ k ≤ cs.length ∧ Hid (J (nextsTo cs s k) O' wr) ∧ Hid (∀ j, O' j → ¬ (j = g ∨ j = ga ∨ j = b1 ∨ j = b2)) ∧ Hid (W.heap.size ≤ wr.heap.size ∧ ∀ j, (j = g ∨ j = ga ∨ j = b1 ∨ j = b2) → wr.heap[j]? = W.heap[j]?)) (fun i _ => cs.length - (intOf i).toNat)
  case atStart => exact ⟨0, O, rfl, Nat.zero_le _, H0, fun j hj hr => HRD.out j hr hj, Nat.le_refl _, fun _ _ => rfl⟩
  case round =>
    obtain ⟨k, O', rfl, hk, HJR, HOR, HKR⟩ := hrel
    by_cases hkl : k < cs.length
    · obtain ⟨ad, had, p0, p1, p2⟩ := clock_at ((HM.out.move (HKR.out.2 g (.inl rfl)) (HKR.out.2 ga (.inr (.inl rfl)))).clocks ((HKR.out.2 g (.inl rfl)).trans HG.out)).2 k hkl
      subst had
      obtain ⟨lo, hlo⟩ : ∃ x, x = (cl cs k).f0.f0 := ⟨_, rfl⟩
      obtain ⟨hi, hhi⟩ : ∃ x, x = (cl cs k).f0.f1 := ⟨_, rfl⟩
      obtain ⟨pn, hpn⟩ : ∃ x, x = (cl cs k).f1 := ⟨_, rfl⟩
      rw [← hlo] at p0
      rw [← hhi] at p1
      rw [← hpn] at p2
      have HLO := Lib.hid hlo
      have HHI := Lib.hid hhi
      have HPN := Lib.hid hpn
      clear hlo hhi hpn
      have h2r := (HKR.out.2 b2 (.inr (.inr (.inr rfl)))).trans H2.out
      have r1 := cell_alloc (blk_nth h2r 1 rfl) (.cells #[.int .i64 lo, .int .i64 hi, .int .i64 pn] 65)
      have r2 := cell_alloc (blk_nth h2r 2 rfl) (.cells #[.int .i64 lo, .int .i64 hi, .int .i64 pn] 65)
      have HJR2 := Lib.hid (HJ.out _ _ _ _ HJR.out (Turn.of_below ((Below.refl _ wr).alloc (Nat.le_refl _) (.cells #[.int .i64 lo, .int .i64 hi, .int .i64 pn] 65))))
      gi_wp2_with fail
      have hte : chase_clock_earliest.f lo hi pn s.time s.last = some (earl (cl cs k) s) := by
        unfold chase_clock_earliest.f earl
        rw [← HLO.out, ← HPN.out, show wrap64 (s.time + 1) = s.time + 1 from by unfold wrap64; omega]
        split <;> rfl
      refine ⟨trivial, (callsIn_wide.2 (chase_clock_earliest.calls _ _ _ _ _ _ _ hte)).mono ?_⟩
      rintro en w1 ⟨rfl, hb1⟩
      have hba := ((Below.refl _ wr).alloc (Nat.le_refl _) (.cells #[.int .i64 lo, .int .i64 hi, .int .i64 pn] 65)).trans (hb1.mono (by simp))
      have hcl := blk_below (blk_new wr (.cells #[.int .i64 lo, .int .i64 hi, .int .i64 pn] 65)) hb1
      have HBA := Lib.hid hba
      have HCL := Lib.hid hcl
      have H2R := Lib.hid (blk_below h2r hba)
      have HJ1 := Lib.hid (HJ.out _ _ _ _ HJR.out (Turn.of_below hba))
      have HK1 := Lib.hid (show W.heap.size ≤ w1.heap.size ∧ ∀ j, (j = g ∨ j = ga ∨ j = b1 ∨ j = b2) → w1.heap[j]? = W.heap[j]? from ⟨Nat.le_trans HKR.out.1 hba.size, fun j hj => (hba.block j (by
        have := HKR.out.1
        have e1 := blk_lt HG.out
        have e2 := blk_lt H1.out
        have e3 := blk_lt H2.out
        rcases hj with h | h | h | h <;> omega)).trans (HKR.out.2 j hj)⟩)
      clear hba hcl h2r hb1 p0 p1 p2 r1 r2 HJR HJR2
      obtain ⟨t, ht⟩ : ∃ t, t = earl (cl cs k) s := ⟨_, rfl⟩
      rw [← ht]
      have HT := Lib.hid ht
      clear ht hte
      have han := and6 s.placed hp k (by omega)
      have hbit := Nat.testBit_eq_decide_div_mod_eq (x := s.placed) (i := k)
      have hm := Nat.mod_two_eq_zero_or_one (s.placed / 2 ^ k)
      obtain ⟨q, hq⟩ : ∃ q, q = s.placed / 2 ^ k % 2 := ⟨_, rfl⟩
      simp only [← hq] at han hbit hm
      clear hq
      have hsucc := nextsTo_succ cs s k
      have d0 := blk_nth H2R.out 0 rfl
      rcases hm with rfl | rfl
      · have k1 := blk_nth HCL.out 1 rfl
        by_cases hth : t ≤ hi
        · gi_wp2_with fail
          clear k1 d0
          have hmay : mayNext cs s k = true := by
            unfold mayNext
            rw [hbit, ← HT.out, ← HHI.out]
            simpa using hth
          rw [if_pos hmay] at hsucc
          have hor := or6 s.placed hp k (by omega)
          have hsl := shl6 k (by omega)
          obtain ⟨fn, tmps, assign, body, hy, hR⟩ := HY.out (nextsTo cs s k) O' (stNext cs s k) _ w1.drew (HJ.out _ _ _ _ HJ1.out (Turn.of_below (below_drew (Below.refl _ _)))) rfl (fun _ h => h.elim) (by rw [← hsucc]; exact nextsTo_prefix cs s (by omega)) 4
          simp only [St.v, stNext, ← HT.out] at hy
          have d0 := blk_nth H2R.out 0 rfl
          gi_region_with (refine hR.mono ?_; intro en W' hp; obtain ⟨O2, b, rfl, hO2, hk2, hj2, hx2⟩ := hp.one)
          have HK2 := Lib.hid hk2
          clear hk2
          cases b
          · gi_wp2
            (try simp only [Exit.noGoto])
            refine bodyPost_ret (results_none rfl _ _ _) rfl ?_
            exact ⟨⟨_, rfl⟩, .inr ⟨_, ⟨O2, hx2 (by trivial)⟩, by simp, by rw [← hsucc]; exact nextsTo_prefix cs s (by omega)⟩⟩
          · gi_wp2
            refine ⟨⟨k + 1, O2, by go_num, by omega, by rw [hsucc]; exact hj2 rfl, fun j hj hr => ?_, Nat.le_trans HK1.out.1 HK2.out.size, fun j hj => ?_⟩, by simp [intOf]; omega⟩
            · rcases (hO2 j hj).1 with h | h | h
              · exact HOR.out j h hr
              · have h : w1.heap.size ≤ j := h
                have := HK1.out.1
                have e1 := blk_lt HG.out
                have e2 := blk_lt H1.out
                have e3 := blk_lt H2.out
                rcases hr with hr | hr | hr | hr <;> omega
              · exact h.elim
            · have hlt : j < w1.heap.size := by
                have := HK1.out.1
                have e1 := blk_lt HG.out
                have e2 := blk_lt H1.out
                have e3 := blk_lt H2.out
                rcases hj with hr | hr | hr | hr <;> omega
              exact (HK2.out.same j hlt (fun h => HOR.out j h hj)).trans (HK1.out.2 j hj)
        · gi_wp2
          have hmay : mayNext cs s k = false := by
            unfold mayNext
            rw [hbit, ← HT.out, ← HHI.out]
            simpa using hth
          rw [if_neg (by simp [hmay]), List.append_nil] at hsucc
          exact ⟨⟨k + 1, O', by go_num, by omega, by rw [hsucc]; exact HJ1, HOR, HK1⟩, by simp [intOf]; omega⟩
      · gi_wp2
        have hmay : mayNext cs s k = false := by
          unfold mayNext
          rw [hbit]
          simp
        rw [if_neg (by simp [hmay]), List.append_nil] at hsucc
        exact ⟨⟨k + 1, O', by go_num, by omega, by rw [hsucc]; exact HJ1, HOR, HK1⟩, by simp [intOf]; omega⟩
    · obtain rfl : k = cs.length := by omega
      gi_wp2_with fail
      simp only [Exit.noGoto]
      go_end0
      exact ⟨⟨_, rfl⟩, .inl ⟨_, HJR.out⟩⟩
end Go.Proofs.Ytihfmphaajdhnaa.P
/-! Package chase: orders, an iterator over lists. -/
namespace Go.Proofs.Ytihfmphaajdhnaa.P
open Go.RowKit Go.Proofs.YtihfmphaajdhnaaW.PrintWords Go.Proofs.YtihfmphaajdhnaaW.PrintLast Go.Proofs.YtihfmphaajdhnaaW.PrintMore
set_option linter.unusedVariables false
set_option linter.unusedSimpArgs false
attribute [local go_sem] Oper.semAt_some

/-- All orders from a state on, so many pairs still to be placed. -/
def ordersF (cs : List S65) : Nat → St → List Int → List (List Int)
  | 0, _, x => [x]
  | d + 1, s, x => (nexts cs s).flatMap fun o => ordersF cs d o (x ++ [o.last])
/-- A list of numbers that lies in memory. -/
def SlC (W : World) (v : Value) (x : List Int) : Prop := ∃ A c, v = .slice A x.length c ∧ x.length ≤ c ∧ ∀ j, j < x.length → ∃ ad, A = some ad ∧ W.cell? (ad.add j) = some (.int .i64 (x.getD j 0))
theorem SlC.move {W W' : World} {v : Value} {x : List Int} (h : SlC W v x) (hb : ∀ k, v.ownBlock = some k → W'.heap[k]? = W.heap[k]?) : SlC W' v x := by
  obtain ⟨A, c, rfl, hc, hx⟩ := h
  refine ⟨A, c, rfl, hc, fun j hj => ?_⟩
  obtain ⟨ad, rfl, h⟩ := hx j hj
  refine ⟨ad, rfl, (World.cell?_of_block (w := W) ?_).trans h⟩
  rw [show (ad.add j).block = ad.block from by unfold Addr.add; split <;> rfl]
  exact hb _ rfl
theorem SlC.lt {W : World} {v : Value} {x : List Int} (h : SlC W v x) (hx : x ≠ []) : ∀ k, v.ownBlock = some k → k < W.heap.size := by
  obtain ⟨A, c, rfl, hc, hx'⟩ := h
  intro k hk
  obtain ⟨ad, rfl, hcell⟩ := hx' 0 (List.length_pos_iff.2 hx)
  have := lt_of_cell hcell
  rw [show (ad.add 0).block = ad.block from by unfold Addr.add; split <;> rfl] at this
  have hk' : ad.block = k := by simpa [Value.ownBlock] using hk
  omega
theorem SlC_of_R {w : World} {base : Nat} {ok : Nat → Prop} {v : Value} {l : List Int} (h : Kd.R (Kd.int .i64) 3 w base ok v l) : SlC w v l := by
  obtain ⟨A, c, rfl, hc, hC⟩ := Kd.R_reads h
  exact ⟨A, c, rfl, hc, fun j hj => int_at hC j hj⟩
/-- A list of numbers of the iterator's own. -/
def SlR (b : Nat) (W : World) (v : Value) (x : List Int) : Prop := Kd.R (Kd.int .i64) 3 W b (fun _ => True) v x
theorem SlR.slc {b : Nat} {W : World} {v : Value} {x : List Int} (h : SlR b W v x) : SlC W v x := SlC_of_R h
theorem SlR.move {b : Nat} {W W' : World} {v : Value} {x : List Int} (h : SlR b W v x) (hb : ∀ k, v.ownBlock = some k → W'.heap[k]? = W.heap[k]?) : SlR b W' v x :=
  Kd.R_reok rfl (Kd.R_move (Kd.R_tight rfl h) (fun k hk => hb k hk.symm)) (fun _ _ => trivial)
theorem SlR.lower {b b' : Nat} {W : World} {v : Value} {x : List Int} (h : SlR b W v x) (hb : b' ≤ b) : SlR b' W v x := Kd.R_lower h hb
/-- What the helper reads: the boxes of the chase, of yield and of itself. -/
structure OMem (W : World) (bc bt bo g ga l0 : Nat) (e f : Int) (A : Option Addr) (c : Nat) (ps : List (List Int)) (cs : List S65) : Prop where
  h1 : W.heap[bc]? = some (.cells #[.pointer (some ⟨g, 0, none⟩)] 69 (0, 0))
  h2 : W.heap[bt]? = some (.cells #[.func (.yield l0) #[] #[]] 119 (0, 0))
  h3 : W.heap[bo]? = some (.cells #[.func (.func 79) #[] #[.pointer (some ⟨bc, 0, none⟩), .pointer (some ⟨bt, 0, none⟩), .pointer (some ⟨bo, 0, none⟩)]] 120 (0, 0))
  mem : Mem W g ga e f A c ps cs
  lt : ga < W.heap.size
def MB (bc bt bo g ga k : Nat) : Prop := k = bc ∨ k = bt ∨ k = bo ∨ k = g ∨ k = ga
theorem OMem.move {W W' : World} {bc bt bo g ga l0 : Nat} {e f : Int} {A : Option Addr} {c : Nat} {ps : List (List Int)} {cs : List S65} (h : OMem W bc bt bo g ga l0 e f A c ps cs)
    (hs : W.heap.size ≤ W'.heap.size) (hm : ∀ k, MB bc bt bo g ga k → W'.heap[k]? = W.heap[k]?) : OMem W' bc bt bo g ga l0 e f A c ps cs :=
  ⟨(hm _ (.inl rfl)).trans h.h1, (hm _ (.inr (.inl rfl))).trans h.h2, (hm _ (.inr (.inr (.inl rfl)))).trans h.h3, h.mem.move (hm _ (.inr (.inr (.inr (.inl rfl))))) (hm _ (.inr (.inr (.inr (.inr rfl))))), Nat.lt_of_lt_of_le h.lt hs⟩
theorem OMem.mlt {W : World} {bc bt bo g ga l0 : Nat} {e f : Int} {A : Option Addr} {c : Nat} {ps : List (List Int)} {cs : List S65} (h : OMem W bc bt bo g ga l0 e f A c ps cs) : ∀ k, MB bc bt bo g ga k → k < W.heap.size := by
  rintro k (rfl | rfl | rfl | rfl | rfl)
  · exact blk_lt h.h1
  · exact blk_lt h.h2
  · exact blk_lt h.h3
  · obtain ⟨v, hg, _⟩ := h.mem.out; exact blk_lt hg
  · exact h.lt

set_option maxHeartbeats 400000 in
theorem next_any {g : Nat} {s : St} (w : World) :
    Calls Try.prog 76 #[.pointer (some ⟨g, 0, none⟩), s.v] w fun en w' =>
      en = .returned (.func (.func 96) #[] #[.pointer (some ⟨w.heap.size, 0, none⟩), .pointer (some ⟨w.heap.size + 1, 0, none⟩)]) ∧
      w'.heap[w.heap.size]? = some (.cells #[.pointer (some ⟨g, 0, none⟩)] 69 (0, 0)) ∧
      w'.heap[w.heap.size + 1]? = some (.cells #[.int .u64 s.placed, .int .i64 s.last, .int .i64 s.time] 113 (0, 0)) ∧ Below w.heap.size w w' ∧ w'.heap.size = w.heap.size + 2 := by
  have hmf : ∀ (fn : Fn) (first cap : Array Value) (w : World), (Instr.makeFunc fn first cap).run Try.prog w = .ok (.func fn first cap) w := fun _ _ _ _ => rfl
  unfold St.v
  go_enter Try.func76, Try.ntmps76
  go_wp2
  go_ret
  refine ⟨by simp, blk_alloc (blk_new _ _) _, ?_, ((Below.refl _ _).alloc (Nat.le_refl _) _).alloc (by simp) _, by simp⟩
  have := blk_new (w.alloc (.cells #[.pointer (some ⟨g, 0, none⟩)] 69)) (.cells #[.int .u64 s.placed, .int .i64 s.last, .int .i64 s.time] 113)
  simpa using this

/-- What a call of the helper comes to. -/
def OnPost (J Jx : List (List Int) → (Nat → Prop) → World → Prop) (O : Nat → Prop) (pre : List (List Int)) (v : Value) (L : List (List Int)) (W : World) (en : Ending) (W' : World) : Prop :=
  ∃ (O' : Nat → Prop) (b : Bool), en = .returned (.bool b) ∧ (∀ k, O' k → (O k ∨ W.heap.size ≤ k ∨ v.ownBlock = some k) ∧ k < W'.heap.size) ∧ Kept (fun k => O k ∨ v.ownBlock = some k) W W' ∧
    (b = true → J (pre ++ L) O' W') ∧ (b = false → ∃ q, q ≠ [] ∧ q <+: L ∧ Jx (pre ++ q) O' W')
end Go.Proofs.Ytihfmphaajdhnaa.P
/-! Package chase: the helper of orders. -/
namespace Go.Proofs.Ytihfmphaajdhnaa.P
open Go.RowKit Go.Proofs.YtihfmphaajdhnaaW.PrintWords Go.Proofs.YtihfmphaajdhnaaW.PrintLast Go.Proofs.YtihfmphaajdhnaaW.PrintMore
set_option linter.unusedVariables false
set_option linter.unusedSimpArgs false
attribute [local go_sem] Oper.semAt_some

theorem results_cell {fn : Func} {c1 t1 : Nat} {a1 : Addr} {v1 : Value} (hres : fn.results = #[.cell c1 t1]) {tmps : Array Value} {w : World}
    (h1 : tmps[c1]? = some (.pointer (some a1))) (q1 : (loadVar t1 a1).run Try.prog w = .ok v1 w) : (results fn tmps).run Try.prog w = .ok v1 w := by
  simp [results, hres, h1, asAddr, q1]
theorem load_bool {g2 tb2 : Nat} {x : Bool} {w : World} (hg2 : w.heap[g2]? = some (.cells #[.bool x] tb2 (0, 0))) :
    (loadVar 4 ⟨g2, 0, none⟩).run Try.prog w = .ok (.bool x) w := by
  have q2 := blk_nth hg2 0 rfl
  simp [go_sem, isAgg, run_underlying Try.underlying4, q2]
section
variable (J Jx : List (List Int) → (Nat → Prop) → World → Prop) (B0 l0 bc bt bo g ga : Nat) (Lall : List (List Int)) (e f : Int) (A : Option Addr) (c : Nat) (ps : List (List Int)) (cs : List S65)
structure OCtx : Prop where
  hJ : ∀ s O A B, J s O A → Turn B0 O A B → J s O B
  hJx : ∀ s O A B, Jx s O A → Turn B0 O A B → Jx s O B
  hY : ∀ pre O x v W1, J pre O W1 → SlR B0 W1 v x → (∀ k, v.ownBlock = some k → B0 ≤ k) → (pre ++ [x]) <+: Lall → ∀ m, YieldAt Fence.wide m Try.prog l0 #[v] W1 (YPost (fun k => v.ownBlock = some k) J Jx (pre ++ [x]) O W1)
  h6 : cs.length ≤ 6
  hc : ∀ k, k < cs.length → 0 ≤ (cl cs k).f0.f0 ∧ (cl cs k).f0.f1 ≤ 203
def OnSpec (d : Nat) : Prop := ∀ (s : St) (x : List Int) (v : Value) (pre : List (List Int)) (O : Nat → Prop) (W : World), x.length + d = cs.length → s.placed < 64 → 0 ≤ s.time → s.time ≤ 203 →
  OMem W bc bt bo g ga l0 e f A c ps cs → SlR B0 W v x → J pre O W → (∀ k, O k → k < W.heap.size) → (∀ k, MB bc bt bo g ga k → ¬ O k) →
  (∀ k, v.ownBlock = some k → B0 ≤ k ∧ ¬ O k ∧ k < W.heap.size ∧ ¬ MB bc bt bo g ga k) → B0 ≤ W.heap.size → (pre ++ ordersF cs d s x) <+: Lall →
  Calls Try.prog 79 #[s.v, v, .pointer (some ⟨bc, 0, none⟩), .pointer (some ⟨bt, 0, none⟩), .pointer (some ⟨bo, 0, none⟩)] W (OnPost J Jx O pre v (ordersF cs d s x) W)
end

set_option maxHeartbeats 2000000 in
set_option maxRecDepth 100000 in
theorem on_zero {J Jx : List (List Int) → (Nat → Prop) → World → Prop} {B0 l0 bc bt bo g ga : Nat} {Lall : List (List Int)} {e f : Int} {A : Option Addr} {c : Nat} {ps : List (List Int)} {cs : List S65}
    (H : OCtx J Jx B0 l0 Lall cs) : OnSpec J Jx B0 l0 bc bt bo g ga Lall e f A c ps cs 0 := by
  intro s x v pre O W hxd hsp ht0 ht1 hM hS hJ hO hMO hv hB hpre
  obtain ⟨Ax, cx, rfl, hcx, hx⟩ := hS.slc
  have hxl : x.length = cs.length := by omega
  rw [hxl] at hcx hS hv ⊢
  have HXL := Lib.hid hxl
  obtain ⟨vc, hg, hR⟩ := hM.mem.out
  obtain ⟨Av, cv, rfl, hlc, hC⟩ := Kd.R_reads hR
  have HC := Lib.hid H
  have HM := Lib.hid hM
  have HS := Lib.hid hS
  have HJ := Lib.hid hJ
  have HO := Lib.hid hO
  have HMO := Lib.hid hMO
  have HV := Lib.hid hv
  have HG := Lib.hid hg
  have HPRE := Lib.hid hpre
  clear hxl hxd hx hg hR hC hM hS hJ hO hMO hv hpre H
  unfold St.v
  refine callsIn_wide (n := 5) |>.1 ?_
  refine callsIn_of_wp Try.func79 rfl trivial ?_
  simp only [Try.ntmps79, List.size_toArray, List.length_cons, List.length_nil, Nat.reduceAdd, Nat.reduceSub, Array.replicate_succ, Array.replicate_zero, List.push_toArray, List.append_toArray, List.nil_append, List.cons_append]
  gi_wp2_with fail
  obtain ⟨w3, hw3, k5, k6, k7, hB3⟩ := three_boxes W #[.int .u64 s.placed, .int .i64 s.last, .int .i64 s.time] #[.slice Ax cs.length cx] #[.bool false] 113 40 4
  rw [← hw3]
  have K6 := Lib.hid k6
  have K7 := Lib.hid k7
  have HB3 := Lib.hid hB3
  have hs3 : w3.heap.size = W.heap.size + 3 := by rw [hw3]; simp
  have h1 := Lib.hid (blk_below HM.out.h1 hB3)
  have h2 := Lib.hid (blk_below HM.out.h2 hB3)
  have hg3 := Lib.hid (blk_below HG.out hB3)
  clear k5 k6 k7 hB3 hw3
  refine wpIn_wide.2 ?_
  refine start_ (n := 8) (ds := []) (S := fun W => SK w3 none W) #[false, false, false, false, false, false, false, false] (by kernel_rfl) rfl rfl (SK.drew (SK.refl _ _)) ?_
  intro hS
  obtain ⟨wd, hwd⟩ : ∃ wd, World.drew w3 = wd := ⟨_, rfl⟩
  rw [hwd] at hS ⊢
  have hbd : Below w3.heap.size w3 wd := hwd ▸ below_drew (Below.refl _ _)
  have HBD := Lib.hid hbd
  clear hbd hwd
  refine take_ (i := 0) (N := (some 10)) (v := ?_) #[true, false, false, false, false, false, false, false] rfl rfl (by kernel_rfl) (fun _ _ _ h => h) (Or.inl ⟨by rfl, ?_⟩) hS rfl ?_
  rotate_left
  · intro W hW; have q0 := SK.nth hW K6.out (by simp) 0 rfl; go_simp; with_reducible rfl
  simp only [Act.put, List.setIfInBounds_toArray, List.set_cons_zero, List.set_cons_succ]
  refine take_ (i := 1) (N := (some 11)) (v := ?_) #[true, true, false, false, false, false, false, false] rfl rfl (by kernel_rfl) (fun _ _ _ h => h) (Or.inl ⟨by rfl, ?_⟩) hS rfl ?_
  rotate_left
  · intro W hW; go_simp; with_reducible rfl
  simp only [Act.put, List.setIfInBounds_toArray, List.set_cons_zero, List.set_cons_succ]
  refine take_ (i := 2) (N := (some 12)) (v := ?_) #[true, true, true, false, false, false, false, false] rfl rfl (by kernel_rfl) (fun _ _ _ h => h) (Or.inl ⟨by rfl, ?_⟩) hS rfl ?_
  rotate_left
  · intro W hW; have q0 := SK.nth hW h1.out (by simp) 0 rfl; go_simp; with_reducible rfl
  simp only [Act.put, List.setIfInBounds_toArray, List.set_cons_zero, List.set_cons_succ]
  refine take_ (i := 3) (N := (some 13)) (v := ?_) #[true, true, true, true, false, false, false, false] rfl rfl (by kernel_rfl) (fun _ _ _ h => h) (Or.inl ⟨by rfl, ?_⟩) hS rfl ?_
  rotate_left
  · intro W hW; go_simp; with_reducible rfl
  simp only [Act.put, List.setIfInBounds_toArray, List.set_cons_zero, List.set_cons_succ]
  refine take_ (i := 4) (N := (some 14)) (v := ?_) #[true, true, true, true, true, false, false, false] rfl rfl (by kernel_rfl) (fun _ _ _ h => h) (Or.inl ⟨by rfl, ?_⟩) hS rfl ?_
  rotate_left
  · intro W hW; go_simp; with_reducible rfl
  simp only [Act.put, List.setIfInBounds_toArray, List.set_cons_zero, List.set_cons_succ]
  refine take_ (i := 5) (N := (some 15)) (v := ?_) #[true, true, true, true, true, true, false, false] rfl rfl (by kernel_rfl) (fun _ _ _ h => h) (Or.inl ⟨by rfl, ?_⟩) hS rfl ?_
  rotate_left
  · intro W hW; have q0 := SK.nth hW hg3.out (by simp) 3 rfl; go_simp; with_reducible rfl
  simp only [Act.put, List.setIfInBounds_toArray, List.set_cons_zero, List.set_cons_succ]
  refine take_ (i := 6) (N := (some 16)) (v := ?_) #[true, true, true, true, true, true, true, false] rfl rfl (by kernel_rfl) (fun _ _ _ h => h) (Or.inl ⟨by rfl, ?_⟩) hS rfl ?_
  rotate_left
  · intro W hW; go_simp; with_reducible rfl
  simp only [Act.put, List.setIfInBounds_toArray, List.set_cons_zero, List.set_cons_succ]
  refine take_ (i := 7) (N := (some 17)) (v := ?_) #[true, true, true, true, true, true, true, true] rfl rfl (by kernel_rfl) (fun _ _ _ h => h) (Or.inl ⟨by rfl, ?_⟩) hS rfl ?_
  rotate_left
  · intro W hW; go_simp; with_reducible rfl
  simp only [Act.put, List.setIfInBounds_toArray, List.set_cons_zero, List.set_cons_succ]
  refine done_ (by kernel_rfl) ?_
  have hbd := HB3.out.trans (HBD.out.mono HB3.out.size)
  have k2 := blk_nth (blk_below h2.out HBD.out) 0 rfl
  have k6 := blk_nth (blk_below K6.out HBD.out) 0 rfl
  have HK7 := Lib.hid (blk_below K7.out HBD.out)
  obtain ⟨fn, tmps, assign, body, hy, hR⟩ := HC.out.hY pre O x _ wd (HC.out.hJ _ _ _ _ HJ.out (Turn.of_below hbd)) (HS.out.move (fun k hk => hbd.block k (HV.out k hk).2.2.1)) (fun k hk => (HV.out k hk).1) HPRE.out 4
  have HBW := Lib.hid hbd
  have hsd := HBD.out.size
  clear hbd
  gi_wp2_with fail
  refine hR.mono ?_
  intro en w4 hp
  obtain ⟨O2, b, rfl, hO2, hk2, hj2, hx2⟩ := hp.one
  have h7n : ¬ O2 (W.heap.size + 1 + 1) := fun h => by
    rcases (hO2 _ h).1 with h | h | h
    · have := HO.out _ h; omega
    · have := blk_lt HK7.out; omega
    · have := (HV.out _ h).2.2.1; omega
  have h7o : ¬ O (W.heap.size + 1 + 1) := fun h => by have := HO.out _ h; omega
  have K74 := Lib.hid (hk2.blk HK7.out h7o)
  have HK2 := Lib.hid hk2
  have HO2 := Lib.hid hO2
  clear hR hy hp hk2 hO2 k2 k6
  have c7 := blk_nth K74.out 0 rfl
  have f7 := blk_frozen K74.out 0
  gi_wp2_with fail
  have ht : Turn B0 O2 w4 (w4.setCell ⟨W.heap.size + 1 + 1, 0, none⟩ (.bool b)) := Turn.set (by show B0 ≤ W.heap.size + 1 + 1; omega) h7n _
  refine ⟨rfl, .bool b, results_cell rfl rfl (load_bool (blk_put K74.out 0 _ rfl)), O2, b, rfl, ?_, ?_, fun hb => HC.out.hJ _ _ _ _ (hj2 hb) ht, fun hb => ⟨[x], by simp, List.prefix_refl _, HC.out.hJx _ _ _ _ (hx2 hb) ht⟩⟩
  · intro k hk
    refine ⟨?_, by simpa using (HO2.out k hk).2⟩
    rcases (HO2.out k hk).1 with h | h | h
    · exact .inl h
    · exact .inr (.inl (Nat.le_trans HBW.out.size h))
    · exact .inr (.inr h)
  · refine ⟨HK2.out.os.trans HBW.out.os, HK2.out.tape.trans HBW.out.tape, HK2.out.output.trans HBW.out.output, by simpa using Nat.le_trans HBW.out.size HK2.out.size, fun k hk hn => ?_⟩
    rw [Below.heap_setCell _ _ _ _ (by show k ≠ W.heap.size + 1 + 1; omega)]
    exact (HK2.out.same k (Nat.lt_of_lt_of_le hk HBW.out.size) (fun h => hn (.inl h))).trans (HBW.out.block k hk)
end Go.Proofs.Ytihfmphaajdhnaa.P
/-! Package chase: the helper of orders, its rounds. -/
namespace Go.Proofs.Ytihfmphaajdhnaa.P
open Go.RowKit Go.Shelf Go.Proofs.YtihfmphaajdhnaaW.PrintWords Go.Proofs.YtihfmphaajdhnaaW.PrintLast Go.Proofs.YtihfmphaajdhnaaW.PrintMore
set_option linter.unusedVariables false
set_option linter.unusedSimpArgs false
attribute [local go_sem] Oper.semAt_some

theorem nexts_mem {cs : List S65} {s o : St} (ho : o ∈ nexts cs s) (h6 : cs.length ≤ 6) (hc : ∀ k, k < cs.length → 0 ≤ (cl cs k).f0.f0 ∧ (cl cs k).f0.f1 ≤ 203) (hp : s.placed < 64) : o.placed < 64 ∧ 0 ≤ o.time ∧ o.time ≤ 203 := by
  unfold nexts nextsTo at ho
  simp only [List.mem_map, List.mem_filter, List.mem_range] at ho
  obtain ⟨p, ⟨hpl, hm⟩, rfl⟩ := ho
  unfold mayNext at hm
  simp only [Bool.and_eq_true, decide_eq_true_eq] at hm
  obtain ⟨h0, h1⟩ := hc p hpl
  refine ⟨?_, ?_, Int.le_trans hm.2 h1⟩
  · show s.placed ||| 2 ^ p < 64
    exact Nat.or_lt_two_pow (n := 6) hp (Nat.pow_lt_pow_right (by decide) (by omega))
  · show 0 ≤ earl (cl cs p) s
    unfold earl mx
    split <;> split <;> omega
theorem flat_prefix {α β : Type} (F : α → List β) {q l : List α} (h : q <+: l) : q.flatMap F <+: l.flatMap F := by
  obtain ⟨t, rfl⟩ := h
  rw [List.flatMap_append]
  exact List.prefix_append _ _

theorem mk_0 (w : World) : (Instr.makeSlice 40 (.int .i64 ((0 : Nat) : Int)) (.int .i64 (((0 : Nat) : Int) + 1))).run Try.prog w = .ok (.slice (some ⟨w.heap.size, 0, none⟩) 0 (0 + 1)) (w.alloc (.cells (List.replicate (0 + 1) (Value.int .i64 0)).toArray 3)) := by kernel_rfl
theorem mk_1 (w : World) : (Instr.makeSlice 40 (.int .i64 ((1 : Nat) : Int)) (.int .i64 (((1 : Nat) : Int) + 1))).run Try.prog w = .ok (.slice (some ⟨w.heap.size, 0, none⟩) 1 (1 + 1)) (w.alloc (.cells (List.replicate (1 + 1) (Value.int .i64 0)).toArray 3)) := by kernel_rfl
theorem mk_2 (w : World) : (Instr.makeSlice 40 (.int .i64 ((2 : Nat) : Int)) (.int .i64 (((2 : Nat) : Int) + 1))).run Try.prog w = .ok (.slice (some ⟨w.heap.size, 0, none⟩) 2 (2 + 1)) (w.alloc (.cells (List.replicate (2 + 1) (Value.int .i64 0)).toArray 3)) := by kernel_rfl
theorem mk_3 (w : World) : (Instr.makeSlice 40 (.int .i64 ((3 : Nat) : Int)) (.int .i64 (((3 : Nat) : Int) + 1))).run Try.prog w = .ok (.slice (some ⟨w.heap.size, 0, none⟩) 3 (3 + 1)) (w.alloc (.cells (List.replicate (3 + 1) (Value.int .i64 0)).toArray 3)) := by kernel_rfl
theorem mk_4 (w : World) : (Instr.makeSlice 40 (.int .i64 ((4 : Nat) : Int)) (.int .i64 (((4 : Nat) : Int) + 1))).run Try.prog w = .ok (.slice (some ⟨w.heap.size, 0, none⟩) 4 (4 + 1)) (w.alloc (.cells (List.replicate (4 + 1) (Value.int .i64 0)).toArray 3)) := by kernel_rfl
theorem mk_5 (w : World) : (Instr.makeSlice 40 (.int .i64 ((5 : Nat) : Int)) (.int .i64 (((5 : Nat) : Int) + 1))).run Try.prog w = .ok (.slice (some ⟨w.heap.size, 0, none⟩) 5 (5 + 1)) (w.alloc (.cells (List.replicate (5 + 1) (Value.int .i64 0)).toArray 3)) := by kernel_rfl
theorem mk6 (n : Nat) (h : n ≤ 5) (w : World) : (Instr.makeSlice 40 (.int .i64 (n : Int)) (.int .i64 ((n : Int) + 1))).run Try.prog w = .ok (.slice (some ⟨w.heap.size, 0, none⟩) n (n + 1)) (w.alloc (.cells (List.replicate (n + 1) (Value.int .i64 0)).toArray 3)) := by
  have : n = 0 ∨ n = 1 ∨ n = 2 ∨ n = 3 ∨ n = 4 ∨ n = 5 := by omega
  rcases this with rfl | rfl | rfl | rfl | rfl | rfl
  · exact mk_0 w
  · exact mk_1 w
  · exact mk_2 w
  · exact mk_3 w
  · exact mk_4 w
  · exact mk_5 w
/-- The blocks that the helper's own rounds lean on. -/
def MZ (bc bt bo g ga w0 : Nat) (v : Value) (k : Nat) : Prop := MB bc bt bo g ga k ∨ k = w0 + 1 ∨ k = w0 + 1 + 1 ∨ v.ownBlock = some k

set_option maxHeartbeats 4000000 in
set_option maxRecDepth 100000 in
theorem on_succ {J Jx : List (List Int) → (Nat → Prop) → World → Prop} {B0 l0 bc bt bo g ga : Nat} {Lall : List (List Int)} {e f : Int} {A : Option Addr} {c : Nat} {ps : List (List Int)} {cs : List S65} {d : Nat}
    (H : OCtx J Jx B0 l0 Lall cs) (IH : OnSpec J Jx B0 l0 bc bt bo g ga Lall e f A c ps cs d) : OnSpec J Jx B0 l0 bc bt bo g ga Lall e f A c ps cs (d + 1) := by
  intro s x v pre O W hxd hsp ht0 ht1 hM hS hJ hO hMO hv hB hpre
  obtain ⟨Ax, cx, hvv, hcx, hx⟩ := hS.slc
  obtain ⟨vc, hg, hR⟩ := hM.mem.out
  obtain ⟨Av, cv, rfl, hlc, hC⟩ := Kd.R_reads hR
  have HC := Lib.hid H
  have HM := Lib.hid hM
  have HS := Lib.hid hS
  have HJ := Lib.hid hJ
  have HO := Lib.hid hO
  have HMO := Lib.hid hMO
  have HV := Lib.hid hv
  have HG := Lib.hid hg
  have HPRE := Lib.hid hpre
  have HXD := Lib.hid hxd
  have HIH := Lib.hid IH
  have hxl : x.length < cs.length := by omega
  obtain ⟨n, hn⟩ : ∃ n, n = x.length := ⟨_, rfl⟩
  rw [← hn] at hvv hcx hx hxl
  have HN := Lib.hid hn
  have HVV := Lib.hid hvv
  have h66 := H.h6
  clear hx hg hR hC hM hS hJ hO hMO hv hpre H IH hxd hn
  rw [hvv]
  clear hvv
  refine callsIn_wide (n := 9) |>.1 ?_
  refine callsIn_of_wp_marks Try.func79 rfl trivial ?_
  have hsv : s.v = .agg #[.int .u64 s.placed, .int .i64 s.last, .int .i64 s.time] := rfl
  rw [hsv]
  simp only [Try.ntmps79, List.size_toArray, List.length_cons, List.length_nil, Nat.reduceAdd, Nat.reduceSub, Array.replicate_succ, Array.replicate_zero, List.push_toArray, List.append_toArray, List.nil_append, List.cons_append]
  gi_wp2_with fail
  obtain ⟨w3, hw3, k5, k6, k7, hB3⟩ := three_boxes W #[.int .u64 s.placed, .int .i64 s.last, .int .i64 s.time] #[.slice Ax n cx] #[.bool false] 113 40 4
  rw [← hw3]
  have K5 := Lib.hid k5
  have K6 := Lib.hid k6
  have K7 := Lib.hid k7
  have HB3 := Lib.hid hB3
  have hs3 : w3.heap.size = W.heap.size + 3 := by rw [hw3]; simp
  have h1 := Lib.hid (blk_below HM.out.h1 hB3)
  have hg3 := Lib.hid (blk_below HG.out hB3)
  clear k5 k6 k7 hB3 hw3
  refine wpIn_wide.2 ?_
  refine wp_ins 7 7 ?_
  refine start_ (n := 8) (ds := []) (S := fun W => SK w3 none W) #[false, false, false, false, false, false, false, false] (by kernel_rfl) rfl rfl (SK.drew (SK.refl _ _)) ?_
  intro hS
  obtain ⟨wd, hwd⟩ : ∃ wd, World.drew w3 = wd := ⟨_, rfl⟩
  rw [hwd] at hS ⊢
  have hbd : Below w3.heap.size w3 wd := hwd ▸ below_drew (Below.refl _ _)
  have HBD := Lib.hid hbd
  clear hbd hwd
  refine take_ (i := 0) (N := (some 10)) (v := ?_) #[true, false, false, false, false, false, false, false] rfl rfl (by kernel_rfl) (ins_put (by decide) (by decide)) (Or.inl ⟨by rfl, ?_⟩) hS rfl ?_
  rotate_left
  · intro W hW; have q0 := SK.nth hW K6.out (by simp) 0 rfl; go_simp; with_reducible rfl
  simp only [Act.put, List.setIfInBounds_toArray, List.set_cons_zero, List.set_cons_succ]
  refine take_ (i := 1) (N := (some 11)) (v := ?_) #[true, true, false, false, false, false, false, false] rfl rfl (by kernel_rfl) (ins_put (by decide) (by decide)) (Or.inl ⟨by rfl, ?_⟩) hS rfl ?_
  rotate_left
  · intro W hW; go_simp; with_reducible rfl
  simp only [Act.put, List.setIfInBounds_toArray, List.set_cons_zero, List.set_cons_succ]
  refine take_ (i := 2) (N := (some 12)) (v := ?_) #[true, true, true, false, false, false, false, false] rfl rfl (by kernel_rfl) (ins_put (by decide) (by decide)) (Or.inl ⟨by rfl, ?_⟩) hS rfl ?_
  rotate_left
  · intro W hW; have q0 := SK.nth hW h1.out (by simp) 0 rfl; go_simp; with_reducible rfl
  simp only [Act.put, List.setIfInBounds_toArray, List.set_cons_zero, List.set_cons_succ]
  refine take_ (i := 3) (N := (some 13)) (v := ?_) #[true, true, true, true, false, false, false, false] rfl rfl (by kernel_rfl) (ins_put (by decide) (by decide)) (Or.inl ⟨by rfl, ?_⟩) hS rfl ?_
  rotate_left
  · intro W hW; go_simp; with_reducible rfl
  simp only [Act.put, List.setIfInBounds_toArray, List.set_cons_zero, List.set_cons_succ]
  refine take_ (i := 4) (N := (some 14)) (v := ?_) #[true, true, true, true, true, false, false, false] rfl rfl (by kernel_rfl) (ins_put (by decide) (by decide)) (Or.inl ⟨by rfl, ?_⟩) hS rfl ?_
  rotate_left
  · intro W hW; go_simp; with_reducible rfl
  simp only [Act.put, List.setIfInBounds_toArray, List.set_cons_zero, List.set_cons_succ]
  refine take_ (i := 5) (N := (some 15)) (v := ?_) #[true, true, true, true, true, true, false, false] rfl rfl (by kernel_rfl) (ins_put (by decide) (by decide)) (Or.inl ⟨by rfl, ?_⟩) hS rfl ?_
  rotate_left
  · intro W hW; have q0 := SK.nth hW hg3.out (by simp) 3 rfl; go_simp; with_reducible rfl
  simp only [Act.put, List.setIfInBounds_toArray, List.set_cons_zero, List.set_cons_succ]
  refine take_ (i := 6) (N := (some 16)) (v := ?_) #[true, true, true, true, true, true, true, false] rfl rfl (by kernel_rfl) (ins_put (by decide) (by decide)) (Or.inl ⟨by rfl, ?_⟩) hS rfl ?_
  rotate_left
  · intro W hW; go_simp; with_reducible rfl
  simp only [Act.put, List.setIfInBounds_toArray, List.set_cons_zero, List.set_cons_succ]
  refine take_ (i := 7) (N := (some 17)) (v := ?_) #[true, true, true, true, true, true, true, true] rfl rfl (by kernel_rfl) (ins_put (by decide) (by decide)) (Or.inl ⟨by rfl, ?_⟩) hS rfl ?_
  rotate_left
  · intro W hW; go_simp; with_reducible rfl
  simp only [Act.put, List.setIfInBounds_toArray, List.set_cons_zero, List.set_cons_succ]
  refine done_ (by kernel_rfl) ?_
  simp only [Ins]
  have hbd := HB3.out.trans (HBD.out.mono HB3.out.size)
  have k1 := blk_nth (blk_below h1.out HBD.out) 0 rfl
  have k50 := blk_nth (blk_below K5.out HBD.out) 0 rfl
  have k51 := blk_nth (blk_below K5.out HBD.out) 1 rfl
  have k52 := blk_nth (blk_below K5.out HBD.out) 2 rfl
  have HBW := Lib.hid hbd
  have hsd := HBD.out.size
  clear hbd
  gi_wp2_with fail
  refine ⟨trivial, (callsIn_wide.2 (next_any (g := g) (s := s) wd)).mono ?_⟩
  rintro en w5 ⟨rfl, n1, n2, hb5, hs5⟩
  have hsd5 := HBW.out.size
  clear k1 k50 k51 k52
  gi_wp2_with fail
  obtain ⟨F, hF⟩ : ∃ F : St → List (List Int), F = fun o => ordersF cs d o (x ++ [o.last]) := ⟨_, rfl⟩
  have hLF : ordersF cs (d + 1) s x = (nexts cs s).flatMap F := by rw [hF]; rfl
  have HF := Lib.hid hF
  have HLF := Lib.hid hLF
  clear hF hLF
  have hb5W := HBW.out.trans (hb5.mono hsd5)
  have HB5 := Lib.hid hb5
  have HB5W := Lib.hid hb5W
  have N1 := Lib.hid n1
  have N2 := Lib.hid n2
  have K65 := Lib.hid (blk_below (blk_below K6.out HBD.out) hb5)
  have K75 := Lib.hid (blk_below (blk_below K7.out HBD.out) hb5)
  have HM5 := Lib.hid (HM.out.move hb5W.size (fun k hk => hb5W.block k (HM.out.mlt k hk)))
  have HS5 := Lib.hid (HS.out.move (fun k hk => hb5W.block k (HV.out k hk).2.2.1))
  have hw1 : W.heap.size + 1 + 1 < wd.heap.size := by omega
  clear hb5 hb5W n1 n2
  have hmz5 : ∀ k, MZ bc bt bo g ga W.heap.size v k → k < w5.heap.size := by
    rintro k (h | h | h | h)
    · exact HM5.out.mlt k h
    · omega
    · omega
    · have := (HV.out k h).2.2.1; have := HB5W.out.size; omega
  refine range_own (α := St) (D := w5.heap.size) rfl rfl (fun _ _ => enters_of Try.func96 (by kernel_rfl) rfl _ _) (Enc := fun (y : St) v _ => v = y.v) (Gv := fun _ _ => False) (Rd := fun k => k = g ∨ k = ga ∨ k = wd.heap.size ∨ k = wd.heap.size + 1) (L := nexts cs s)
    (fun W' hb' hs' => ?seq) ?rd
    (fun p2 Oi W2 => ∃ O2 : Nat → Prop, Hid (∀ k, Oi k ↔ (O2 k ∨ k = W.heap.size + 1 + 1)) ∧ Hid (J (pre ++ p2.flatMap F) O2 W2) ∧ Hid (∀ k, O2 k → (O k ∨ W.heap.size ≤ k) ∧ k < W2.heap.size) ∧ Hid (Kept O W W2) ∧ Hid (∀ k, MZ bc bt bo g ga W.heap.size v k → W2.heap[k]? = w5.heap[k]? ∧ ¬ O2 k) ∧ Hid (w5.heap.size ≤ W2.heap.size))
    (fun cd p2 Oi W2 => ∃ O2 : Nat → Prop, Hid (∀ k, Oi k ↔ (O2 k ∨ k = W.heap.size + 1 + 1)) ∧ cd = Code.ret ∧ Hid (∃ q, q ≠ [] ∧ q <+: ordersF cs (d + 1) s x ∧ Jx (pre ++ q) O2 W2) ∧ Hid (∀ k, O2 k → (O k ∨ W.heap.size ≤ k) ∧ k < W2.heap.size) ∧ Hid (Kept O W W2) ∧ Hid (W2.heap[W.heap.size + 1 + 1]? = some (.cells #[.bool false] 4 (0, 0))) ∧ Hid (¬ O2 (W.heap.size + 1 + 1)))
    ?I ?Ix (fun k => O k ∨ k = W.heap.size + 1 + 1) ?h0 ?hO0 ?hRO ?round ?done ?stop
  case seq => exact next1_iter W' (HM5.out.move hb'.size (fun k hk => hb'.block k (HM5.out.mlt k hk))).mem (blk_below N1.out hb') (blk_below N2.out hb') (Nat.lt_of_lt_of_le HM5.out.lt hb'.size) h66 hsp ht0 (by omega)
  case rd =>
    rintro k (rfl | rfl | rfl | rfl)
    · exact HM5.out.mlt _ (.inr (.inr (.inr (.inl rfl))))
    · exact HM5.out.lt
    · omega
    · omega
  case I =>
    rintro p2 Oi A' B' ⟨O2, hOi, hj, ho, hk, hm, hs⟩ ht
    refine ⟨O2, hOi, HC.out.hJ _ _ _ _ hj (ht.weak (fun k hk => hk.elim (fun h => .inl (by omega)) (fun h => .inr ((hOi k).2 (.inl h))))), fun k hk => ⟨(ho k hk).1, Nat.lt_of_lt_of_le (ho k hk).2 ht.size⟩, ⟨ht.os.trans hk.os, ht.tape.trans hk.tape, ht.output.trans hk.output, Nat.le_trans hk.size ht.size, fun k hk' hn => (ht.same k (Nat.lt_of_lt_of_le hk' hk.size) (.inl (by omega))).trans (hk.same k hk' hn)⟩, fun k hk' => ?_, Nat.le_trans hs ht.size⟩
    have hlt5 : k < w5.heap.size := hmz5 k hk'
    exact ⟨(ht.same k (Nat.lt_of_lt_of_le hlt5 hs) (.inl hlt5)).trans (hm k hk').1, (hm k hk').2⟩
  case Ix =>
    rintro cd p2 Oi A' B' ⟨O2, hOi, rfl, ⟨q, hq0, hq1, hq2⟩, ho, hk, h7, hn7⟩ ht
    have h7' := blk_lt h7
    exact ⟨O2, hOi, rfl, ⟨q, hq0, hq1, HC.out.hJx _ _ _ _ hq2 (ht.weak (fun k hk => hk.elim (fun h => .inl (by omega)) (fun h => .inr ((hOi k).2 (.inl h)))))⟩, fun k hk => ⟨(ho k hk).1, Nat.lt_of_lt_of_le (ho k hk).2 ht.size⟩, ⟨ht.os.trans hk.os, ht.tape.trans hk.tape, ht.output.trans hk.output, Nat.le_trans hk.size ht.size, fun k hk' hn => (ht.same k (Nat.lt_of_lt_of_le hk' hk.size) (.inl (by omega))).trans (hk.same k hk' hn)⟩,
      (ht.same _ h7' (.inl (by omega))).trans h7, hn7⟩
  case h0 =>
    refine ⟨O, fun _ => Iff.rfl, ?_, fun k hk => ⟨.inl hk, by have := HO.out k hk; have := HB5W.out.size; omega⟩, Kept.of_below HB5W.out, fun k hk => ⟨rfl, ?_⟩, Nat.le_refl _⟩
    · have h := HC.out.hJ _ _ _ _ HJ.out (Turn.of_below HB5W.out)
      exact (show J (pre ++ [].flatMap F) O w5 by simpa using h)
    · rcases hk with hk | hk | hk | hk
      · exact HMO.out k hk
      · exact fun h => by have := HO.out k h; omega
      · exact fun h => by have := HO.out k h; omega
      · exact (HV.out k hk).2.1
  case hO0 =>
    rintro k (hk | rfl)
    · have := HO.out k hk; omega
    · omega
  case hRO =>
    rintro k hk (h | h)
    · rcases hk with rfl | rfl | rfl | rfl
      · exact HMO.out _ (.inr (.inr (.inr (.inl rfl)))) h
      · exact HMO.out _ (.inr (.inr (.inr (.inr rfl)))) h
      · have := HO.out _ h; omega
      · have := HO.out _ h; omega
    · rcases hk with rfl | rfl | rfl | rfl
      · have := HM.out.mlt _ (.inr (.inr (.inr (.inl rfl)))); omega
      · have := HM.out.lt; omega
      · omega
      · omega
  case done =>
    rintro Of Wf ⟨O2, hOi, hj, ho, hk, hm, hs⟩ hnD hdef
    obtain ⟨m1, m2⟩ := hm _ (.inr (.inr (.inl rfl)))
    have K7f := m1.trans K75.out
    have c7 := blk_nth K7f 0 rfl
    have f7 := blk_frozen K7f 0
    have K7g := Lib.hid (blk_put K7f 0 (.bool true) rfl)
    have HJF := Lib.hid hj
    have HOF := Lib.hid ho
    have HKF := Lib.hid hk
    have HDF := Lib.hid hdef
    have HSF := Lib.hid hs
    have HOI := Lib.hid hOi
    clear K7f m1 hj ho hk hm hdef hs hOi
    gi_wp2
    obtain ⟨Wg, hWg⟩ : ∃ Wg, Wg = Wf.setCell ⟨W.heap.size + 1 + 1, 0, none⟩ (.bool true) := ⟨_, rfl⟩
    rw [← hWg]
    have hgo : ∀ k, k ≠ W.heap.size + 1 + 1 → Wg.heap[k]? = Wf.heap[k]? := fun k hk => by rw [hWg]; exact Below.heap_setCell _ _ _ _ hk
    have hgs : Wg.heap.size = Wf.heap.size := by rw [hWg]; simp
    have hK7 : Wg.heap[W.heap.size + 1 + 1]? = some (.cells #[.bool true] 4 (0, 0)) := by rw [hWg]; exact K7g.out
    have hdg := (hgo w5.heap.size (by omega)).trans HDF.out
    have hn2 : ¬ O2 w5.heap.size := fun h => hnD ((HOI.out _).2 (.inl h))
    have t1 : Turn B0 O2 Wf Wg := by rw [hWg]; exact Turn.set (by show B0 ≤ W.heap.size + 1 + 1; omega) m2 _
    have hgw : Wg.os = Wf.os ∧ Wg.tape = Wf.tape ∧ Wg.output = Wf.output := by rw [hWg]; exact ⟨rfl, rfl, rfl⟩
    change LeavesInM _ _ _ _ _ _ [{ target := .collected w5.heap.size, args := #[] }] .returning _
    refine ⟨by simp, .inl ⟨_, _, rfl, run_takeDeferred hdg, .bool true, results_cell rfl rfl (load_bool ((World.putObj_heap_other (by omega)).trans hK7)), O2, true, rfl, ?_, ?_, fun _ => ?_, fun h => by cases h⟩⟩
    · exact fun k hk => ⟨(HOF.out k hk).1.elim .inl (fun h => .inr (.inl h)), by have := (HOF.out k hk).2; rw [World.putObj_size]; omega⟩
    · exact ⟨hgw.1.trans HKF.out.os, hgw.2.1.trans HKF.out.tape, hgw.2.2.trans HKF.out.output, by have := HKF.out.size; rw [World.putObj_size]; omega, fun k hk hn => ((World.putObj_heap_other (by omega)).trans (hgo k (by omega))).trans (HKF.out.same k hk (fun h => hn (.inl h)))⟩
    · rw [HLF.out]
      exact HC.out.hJ _ _ _ _ HJF.out (t1.trans (Turn.put (by omega) hn2 _))
  case stop =>
    rintro cd p2 Of Wf ⟨O2, hOi, rfl, hx, ho, hk, h7, hn7⟩ hne hpre2 hnD hdef
    have HXF := Lib.hid hx
    have HOF := Lib.hid ho
    have HKF := Lib.hid hk
    have HDF := Lib.hid hdef
    have H7F := Lib.hid h7
    have HOI := Lib.hid hOi
    clear hx ho hk hdef h7 hOi
    gi_wp2
    obtain ⟨q, hq0, hq1, hq2⟩ := HXF.out
    have hn2 : ¬ O2 w5.heap.size := fun h => hnD ((HOI.out _).2 (.inl h))
    change LeavesInM _ _ _ _ _ _ [{ target := .collected w5.heap.size, args := #[] }] .returning _
    refine ⟨by simp, .inl ⟨_, _, rfl, run_takeDeferred HDF.out, .bool false, results_cell rfl rfl (load_bool ((World.putObj_heap_other (by omega)).trans H7F.out)), O2, false, rfl, ?_, ?_, fun h => (by cases h), fun _ => ⟨q, hq0, hq1, HC.out.hJx _ _ _ _ hq2 (Turn.put (by omega) hn2 _)⟩⟩⟩
    · exact fun k hk => ⟨(HOF.out k hk).1.elim .inl (fun h => .inr (.inl h)), by have := (HOF.out k hk).2; rw [World.putObj_size]; omega⟩
    · exact ⟨HKF.out.os, HKF.out.tape, HKF.out.output, by have := HKF.out.size; rw [World.putObj_size]; omega, fun k hk hn => (World.putObj_heap_other (by omega)).trans (HKF.out.same k hk (fun h => hn (.inl h)))⟩
  case round =>
    rintro l p2 Oi y v2 W2 ⟨O2, ROI, RJ, RO, RK, RM, RS⟩ rfl hgv hp2 hDl hlW hnli
    have hnl : ¬ O2 l := fun h => hnli ((ROI.out l).2 (.inl h))
    have hyv : y.v = .agg #[.int .u64 y.placed, .int .i64 y.last, .int .i64 y.time] := rfl
    rw [hyv]
    gi_wp2
    refine ⟨(Below.refl _ _).alloc (Nat.le_refl _) _, ?_⟩
    intro W3 hs3 ho3 ht3
    have hob : ∀ k, k < W2.heap.size → k ≠ l → W3.heap[k]? = W2.heap[k]? := fun k hk hne => (ho3 k hne).trans (Below.heap_alloc W2 _ k hk)
    have hmz : ∀ k, MZ bc bt bo g ga W.heap.size v k → W3.heap[k]? = w5.heap[k]? ∧ ¬ O2 k := fun k hk => by
      have h5 := hmz5 k hk
      exact ⟨(hob k (by have := RS.out; omega) (by omega)).trans (RM.out k hk).1, (RM.out k hk).2⟩
    have hbx : W3.heap[W2.heap.size]? = some (.cells #[.int .u64 y.placed, .int .i64 y.last, .int .i64 y.time] 113 (0, 0)) := (ho3 _ (by omega)).trans (blk_new W2 _)
    have hs3' : W3.heap.size = W2.heap.size + 1 := by rw [hs3]; simp
    have RJ3 := Lib.hid (HC.out.hJ _ _ _ _ (HC.out.hJ _ _ _ _ RJ.out (Turn.of_below ((Below.refl _ W2).alloc (Nat.le_refl _) _))) (ht3.weak (fun k hk => hk.elim (fun h => .inl (by omega)) (fun h => .inr ((ROI.out k).2 (.inl h))))))
    have RK3 := Lib.hid (show Kept O W W3 from ⟨(by rw [ht3.os]; exact RK.out.os), (by rw [ht3.tape]; exact RK.out.tape), (by rw [ht3.output]; exact RK.out.output), (by have := RK.out.size; omega), fun k hk hn => (hob k (Nat.lt_of_lt_of_le hk RK.out.size) (by have := HB5W.out.size; omega)).trans (RK.out.same k hk hn)⟩)
    have HOB := Lib.hid hob
    have HMZ := Lib.hid hmz
    have HBX := Lib.hid hbx
    have HM3 := Lib.hid (HM5.out.move (by have := RS.out; omega) (fun k hk => (hmz k (.inl hk)).1))
    have HS3 := Lib.hid (HS5.out.move (fun k hk => (hmz k (.inr (.inr (.inr hk)))).1))
    have K63 := Lib.hid ((hmz _ (.inr (.inl rfl))).1.trans K65.out)
    have K73 := Lib.hid ((hmz _ (.inr (.inr (.inl rfl)))).1.trans K75.out)
    clear hob hmz hbx ht3 ho3
    have k63 := blk_nth K63.out 0 rfl
    have hmk := mk6 n (by omega)
    apply wpIn_block
    apply wpIn_seq_k
    intro K5' hK5'
    have HK5' := Lib.hid hK5'
    clear hK5'
    gi_wp2_with fail
    refine HK5'.out _ _ ?_
    obtain ⟨W4, hW4, hbm, hnm⟩ : ∃ W4, W4 = W3.alloc (.cells (Array.replicate (n + 1) (Value.int .i64 0)) 3) ∧ Below W3.heap.size W3 W4 ∧ W4.heap[W3.heap.size]? = some (.cells (List.replicate (n + 1) (Value.int .i64 0)).toArray 3 (0, 0)) := ⟨_, rfl, (Below.refl _ _).alloc (Nat.le_refl _) _, by rw [List.toArray_replicate]; exact blk_new _ _⟩
    rw [← hW4]
    clear hW4
    apply wpIn_seq_k
    intro K6' hK6'
    have HK6' := Lib.hid hK6'
    clear hK6' HK5' k63 hmk
    refine regionR (by rintro ⟨_, _, hlo⟩; exact hlo) (by kernel_rfl) ?_
    have k64 := blk_nth (blk_below K63.out hbm) 0 rfl
    have hxx := HS3.out.slc.move (W' := W4) (fun k hk => hbm.block k (by have := (HV.out k hk).2.2.1; have := HB5W.out.size; have := RS.out; omega))
    rw [HVV.out] at hxx
    obtain ⟨Ay, cy, hay, hcy, hxa⟩ := hxx
    rw [← HN.out] at hay
    cases hay
    have HXA := Lib.hid hxa
    clear hxa hcy
    rw [hs3'] at hnm
    have HNM := Lib.hid hnm
    clear hnm
    have hsrc : 0 < (x.map (Value.int .i64)).length → (some (⟨W2.heap.size + 1, 0, none⟩ : Addr) = some ⟨W2.heap.size + 1, 0, none⟩ ∧ ∃ ad, Ax = some ad ∧ ∀ j u, (x.map (Value.int .i64))[j]? = some u → W4.cell? (ad.add j) = some u) := by
      intro hp
      refine ⟨rfl, ?_⟩
      obtain ⟨ad, hA, _⟩ := HXA.out 0 (by simpa using hp)
      refine ⟨ad, hA, fun j u hu => ?_⟩
      have hj := (List.getElem?_eq_some_iff.1 hu).1
      simp only [List.length_map] at hj
      obtain ⟨ad', hA', hc'⟩ := HXA.out j hj
      rw [hA] at hA'
      cases hA'
      rw [hc']
      simpa [hj] using hu
    have HSRC := Lib.hid hsrc
    have hone : ∀ u ∈ x.map (Value.int .i64), u.oneCell' = true := by
      intro u hu
      obtain ⟨z, _, rfl⟩ := List.mem_map.1 hu
      rfl
    have HONE := Lib.hid hone
    have hbase7 : W3.heap.size ≤ W2.heap.size + 1 := by omega
    have hsz7 : (Try.prog.info? 3).map (·.size) = some 1 := by kernel_rfl
    clear hone
    have hn1 : (x.map (Value.int .i64)).length = Nat.min n n := by rw [HN.out]; simp
    have hn2 : 0 + (x.map (Value.int .i64)).length ≤ (List.replicate (n + 1) (Value.int .i64 0)).length := by rw [HN.out]; simp
    have HN1 := Lib.hid hn1
    have HN2 := Lib.hid hn2
    have HBM := Lib.hid hbm
    clear hsrc hn1 hn2 hbm
    go_wp2_with (first | (refine wpList_copy_splice rfl (.tmp 31) (.tmp 32) 40 40 rfl 3 Try.underlying40 hsz7 (some ⟨W2.heap.size + 1, 0, none⟩) Ax n (n + 1) n cx rfl rfl (W2.heap.size + 1) 0 (List.replicate (n + 1) (Value.int .i64 0)) 3 HNM.out (x.map (Value.int .i64)) HN1.out HSRC.out HN2.out HONE.out W3.heap.size W3 HBM.out hbase7 ?_; intro W5 hrow hb5'))
    refine HK6'.out _ _ ?_
    clear HK6' k64
    have HROW := hrow
    have HB5' := Lib.hid hb5'
    have hymem : y ∈ nexts cs s := hp2.subset (by simp)
    obtain ⟨hy1, hy2, hy3⟩ := nexts_mem hymem h66 HC.out.hc hsp
    have hown : Kd.R (Kd.int .i64) 3 W5 W3.heap.size (fun _ => True) (.slice (some ⟨W2.heap.size + 1, 0, none⟩) n (n + 1)) x := by
      refine ⟨fun _ _ => trivial, x.map (Value.int .i64), ⟨by simp [Kd.int, Kd.scalar], .inr ⟨W2.heap.size + 1, n + 1, _, by rw [HN.out], by omega, HROW.out, by rw [HN.out]; omega, by simp [maxLen]; omega, ?_, ?_⟩⟩, ints_reps x⟩
      · simp [Kd.int, Kd.scalar, splice, HN.out]
      · simp [Kd.int, Kd.scalar, splice]
    have HOWN := Lib.hid hown
    have HBO := Lib.hid (blk_below HM3.out.h3 hb5')
    have HBY := Lib.hid (blk_below HBX.out hb5')
    have hlo := HM3.out.mlt bo (.inr (.inr (.inl rfl)))
    have hl5 := hb5'.size
    have hbon : some bo ≠ some (W2.heap.size + 1) := fun e => by injection e with e; have := hmz5 bo (.inl (.inr (.inr (.inl rfl)))); have := RS.out; omega
    clear hrow hb5' hown
    apply wpIn_seq_k
    intro K7' hK7'
    have HK7' := Lib.hid hK7'
    clear hK7'
    refine startR_ (n := 9) (ds := []) (S := fun W => W.heap[bo]? = W5.heap[bo]? ∧ W.heap[W2.heap.size]? = W5.heap[W2.heap.size]?) (by rintro ⟨_, _, hlo⟩; exact hlo) (by kernel_rfl) #[false, false, false, false, false, false, false, false, false] (by kernel_rfl) rfl rfl (⟨rfl, rfl⟩) ?_
    intro hS
    obtain ⟨wd, hwd⟩ : ∃ wd, World.drew W5 = wd := ⟨_, rfl⟩
    rw [hwd] at hS ⊢
    have hbd : Below W5.heap.size W5 wd := hwd ▸ below_drew (Below.refl _ _)
    have HBD := Lib.hid hbd
    clear hbd hwd
    refine take_ (i := 0) (N := (some 34)) (v := ?_) #[true, false, false, false, false, false, false, false, false] rfl rfl (by kernel_rfl) (fun _ _ _ h => h) (Or.inl ⟨by rfl, ?_⟩) hS rfl ?_
    rotate_left
    · intro W hW; have q0 := blk_nth (hW.1.trans HBO.out) 0 rfl; go_simp; with_reducible rfl
    simp only [Act.put, List.setIfInBounds_toArray, List.set_cons_zero, List.set_cons_succ]
    refine take_ (i := 1) (N := (some 35)) (v := ?_) #[true, true, false, false, false, false, false, false, false] rfl rfl (by kernel_rfl) (fun _ _ _ h => h) (Or.inl ⟨by rfl, ?_⟩) hS rfl ?_
    rotate_left
    · intro W hW; have q0 := blk_nth (hW.2.trans HBY.out) 0 rfl; have q1 := blk_nth (hW.2.trans HBY.out) 1 rfl; have q2 := blk_nth (hW.2.trans HBY.out) 2 rfl; go_simp; with_reducible rfl
    simp only [Act.put, List.setIfInBounds_toArray, List.set_cons_zero, List.set_cons_succ]
    refine take_ (i := 2) (N := (some 36)) (v := ?_) #[true, true, true, false, false, false, false, false, false] rfl rfl (by kernel_rfl) (fun _ _ _ h => h) (Or.inl ⟨by rfl, ?_⟩) hS rfl ?_
    rotate_left
    · intro W hW; go_simp; with_reducible rfl
    simp only [Act.put, List.setIfInBounds_toArray, List.set_cons_zero, List.set_cons_succ]
    refine take_ (i := 3) (N := (some 37)) (v := ?_) #[true, true, true, true, false, false, false, false, false] rfl rfl (by kernel_rfl) (fun _ _ _ h => h) (Or.inl ⟨by rfl, ?_⟩) hS rfl ?_
    rotate_left
    · intro W hW; go_simp; with_reducible rfl
    simp only [Act.put, List.setIfInBounds_toArray, List.set_cons_zero, List.set_cons_succ]
    refine take_ (i := 4) (N := (some 38)) (v := ?_) #[true, true, true, true, true, false, false, false, false] rfl rfl (by kernel_rfl) (fun _ _ _ h => h) (Or.inl ⟨by rfl, ?_⟩) hS rfl ?_
    rotate_left
    · intro W hW; have q1 := blk_nth (hW.2.trans HBY.out) 1 rfl; go_simp; with_reducible rfl
    simp only [Act.put, List.setIfInBounds_toArray, List.set_cons_zero, List.set_cons_succ]
    refine one_ (i := 5) (N := (some 39)) #[true, true, true, true, true, true, false, false, false] rfl rfl (by kernel_rfl) (by decide) ?_
    intro K hK
    have hS0 := hS
    go_simp
    have hal := fun (w : World) (o : Obj) (k : Nat) (hk : k < w.heap.size) => Below.heap_alloc w o k hk
    have hwd5 := HBD.out.size
    refine hK.out _ _ ⟨(hal _ _ _ (by have := blk_lt HBO.out; omega)).trans hS.1, (hal _ _ _ (by have := blk_lt HBY.out; omega)).trans hS.2⟩ (fun hS => ?_)
    (try simp only [Act.put, List.setIfInBounds_toArray, List.set_cons_zero, List.set_cons_succ])
    refine one_ (i := 6) (N := (some 40)) #[true, true, true, true, true, true, true, false, false] rfl rfl (by kernel_rfl) (by decide) ?_
    intro K hK
    have hbw : Below W3.heap.size W3 wd := HB5'.out.trans (HBD.out.mono HB5'.out.size)
    refine Kd.R_append_step (Kd.int .i64) (w0 := W3) W3.heap.size (by rfl) (.tmp 36) (.tmp 39) 40 3 (.int .i64 0) 8 rfl Try.underlying40 info_int rfl (by decide) (by decide) (.slice (some ⟨W2.heap.size + 1, 0, none⟩) n (n + 1)) x y.last [.int .i64 y.last] (fun _ => True) (fun _ => False) rfl rfl rfl (fun _ h => h.elim) (fun _ _ => trivial) (Kd.R_below HOWN.out HBD.out) hbw hbw.size (by rw [← HN.out]; omega) ?_
    intro v1 w1 hr1 hbel1 hg1 hat1
    have hlt5 := blk_lt HBO.out
    have hlt6 := blk_lt HBY.out
    refine hK.out _ _ ⟨(hg1.block bo (by omega) hbon).trans hS0.1, (hg1.block W2.heap.size (by omega) (fun e => by simp [Value.ownBlock] at e)).trans hS0.2⟩ (fun hS => ?_)
    have HR1 := Lib.hid hr1
    have HB1 := Lib.hid hbel1
    have hv1 : ∀ k, v1.ownBlock = some k → W3.heap.size ≤ k ∧ k < w1.heap.size := by
      obtain ⟨inner, ho⟩ := Kd.R_own hr1
      exact fun k hk => ⟨own_base ho k hk, own_lt ho k hk⟩
    have HV1 := Lib.hid hv1
    clear hr1 hbel1 hg1 hat1 hbw hv1 hal
    (try simp only [Act.put, List.setIfInBounds_toArray, List.set_cons_zero, List.set_cons_succ])
    refine one_ (i := 7) (N := (some 41)) #[true, true, true, true, true, true, true, true, false] rfl rfl (by kernel_rfl) (by decide) ?_
    intro K hK
    go_simp
    have hbl : ∀ k, k < W3.heap.size → w1.heap[k]? = W3.heap[k]? := HB1.out.block
    have hs13 := HB1.out.size
    have hmz3 : ∀ k, MZ bc bt bo g ga W.heap.size v k → k < W3.heap.size := fun k hk => by have := hmz5 k hk; have := RS.out; omega
    have hpf : (pre ++ p2.flatMap F) ++ ordersF cs d y (x ++ [y.last]) <+: Lall := by
      have h1 := flat_prefix F hp2
      rw [← HLF.out, List.flatMap_append, List.flatMap_singleton, HF.out] at h1
      rw [HF.out, List.append_assoc]
      exact ((List.prefix_append_right_inj pre).2 h1).trans HPRE.out
    have hon := HIH.out y (x ++ [y.last]) v1 (pre ++ p2.flatMap F) O2 w1 (by have := HXD.out; simp; omega) hy1 hy2 hy3 (HM3.out.move hs13 (fun k hk => hbl k (HM3.out.mlt k hk))) (Kd.R_lower HR1.out (by have := RS.out; have := HB5W.out.size; omega))
      (HC.out.hJ _ _ _ _ RJ3.out (Turn.of_below HB1.out)) (fun k hk => by have := (RO.out k hk).2; omega) (fun k hk => (HMZ.out k (.inl hk)).2)
      (fun k hk => by
        have h1 := HV1.out k hk
        have h2 := RS.out
        have h3 := HB5W.out.size
        exact ⟨by omega, fun h => by have := (RO.out k h).2; omega, h1.2, fun h => by have := hmz5 k (.inl h); omega⟩) (by have := RS.out; have := HB5W.out.size; omega) hpf
    rw [hyv] at hon
    refine hon.mono ?_
    rintro en w8 ⟨O3, b, rfl, hO3, hk3, hj3, hx3⟩
    have hk8 : ∀ k, k < W3.heap.size → ¬ O2 k → w8.heap[k]? = W3.heap[k]? := fun k hk hn => (hk3.same k (by omega) (fun h => h.elim hn (fun h => by have := (HV1.out k h).1; omega))).trans (hbl k hk)
    have hb8 : ∀ k, k < W3.heap.size → ¬ O2 k → w8.heap[k]? = W5.heap[k]? := fun k hk hn => (hk8 k hk hn).trans (HB5'.out.block k hk).symm
    refine hK.out _ _ ⟨hb8 bo (by omega) (HMZ.out bo (.inl (.inr (.inr (.inl rfl))))).2, hb8 _ (by omega) (fun h => by have := (RO.out _ h).2; omega)⟩ (fun hS => ?_)
    have HK8 := Lib.hid hk8
    have HK3 := Lib.hid hk3
    have HO3 := Lib.hid hO3
    have HJ3 := Lib.hid hj3
    have HX3 := Lib.hid hx3
    clear hon hk8 hb8 hO3 hk3 hj3 hx3 hbl hpf
    (try simp only [Act.put, List.setIfInBounds_toArray, List.set_cons_zero, List.set_cons_succ])
    refine take_ (i := 8) (N := (some 42)) (v := ?_) #[true, true, true, true, true, true, true, true, true] rfl rfl (by kernel_rfl) (fun _ _ _ h => h) (Or.inl ⟨by rfl, ?_⟩) hS rfl ?_
    rotate_left
    · intro W hW; go_simp; with_reducible rfl
    simp only [Act.put, List.setIfInBounds_toArray, List.set_cons_zero, List.set_cons_succ]
    refine done_ (by kernel_rfl) ?_
    simp only [Exit.then]
    refine HK7'.out _ _ ?_
    have hw8 : W3.heap.size ≤ w8.heap.size := Nat.le_trans HB1.out.size HK3.out.size
    have hO38 : ∀ k, O3 k → (O2 k ∨ W3.heap.size ≤ k) ∧ k < w8.heap.size := fun k hk => by
      obtain ⟨h, hlt⟩ := HO3.out k hk
      refine ⟨?_, hlt⟩
      rcases h with h | h | h
      · exact .inl h
      · exact .inr (Nat.le_trans HB1.out.size h)
      · exact .inr (HV1.out k h).1
    have hKept : Kept O2 W3 w8 := ⟨HK3.out.os.trans HB1.out.os, HK3.out.tape.trans HB1.out.tape, HK3.out.output.trans HB1.out.output, hw8, HK8.out⟩
    have hKeptW : Kept O W w8 := RK3.out.trans (O' := O2) hKept (fun k hk => (RO.out k hk).1)
    have hOW : ∀ k, O3 k → (O k ∨ W.heap.size ≤ k) ∧ k < w8.heap.size := fun k hk => by
      obtain ⟨h, hlt⟩ := hO38 k hk
      refine ⟨?_, hlt⟩
      rcases h with h | h
      · exact (RO.out k h).1
      · have := RS.out; have := HB5W.out.size; exact .inr (by omega)
    have hMZ8 : ∀ k, MZ bc bt bo g ga W.heap.size v k → w8.heap[k]? = w5.heap[k]? ∧ ¬ O3 k := fun k hk => by
      have h5 := hmz5 k hk
      have hr := RS.out
      obtain ⟨h1, h2⟩ := HMZ.out k hk
      exact ⟨(HK8.out k (by omega) h2).trans h1, fun h => by
        rcases (hO38 k h).1 with h | h
        · exact h2 h
        · omega⟩
    have hFy : F y = ordersF cs d y (x ++ [y.last]) := by rw [HF.out]
    have h7lt : W.heap.size + 1 + 1 < w5.heap.size := by omega
    have hOi : ∀ k, (O3 k ∨ k = W.heap.size + 1 + 1) → (Oi k ∨ W3.heap.size ≤ k ∨ False) ∧ k < w8.heap.size := fun k hk => by
      rcases hk with hk | hk
      · obtain ⟨h, hlt⟩ := hO38 k hk
        refine ⟨?_, hlt⟩
        rcases h with h | h
        · exact .inl ((ROI.out k).2 (.inl h))
        · exact .inr (.inl h)
      · exact ⟨.inl ((ROI.out k).2 (.inr hk)), by have := RS.out; omega⟩
    have hKeptI : Kept Oi W3 w8 := ⟨hKept.os, hKept.tape, hKept.output, hKept.size, fun k hk hn => hKept.same k hk (fun h => hn ((ROI.out k).2 (.inl h)))⟩
    cases b
    · have K78 := (hMZ8 _ (.inr (.inr (.inl rfl)))).1.trans K75.out
      have h73 := (hMZ8 _ (.inr (.inr (.inl rfl)))).2
      have c7 := blk_nth K78 0 rfl
      have f7 := blk_frozen K78 0
      have K79 := Lib.hid (blk_put K78 0 (.bool false) rfl)
      clear K78
      gi_wp2
      obtain ⟨q, hq0, hq1, hq2⟩ := HX3.out (by trivial)
      have ht : Turn B0 O3 w8 (w8.setCell ⟨W.heap.size + 1 + 1, 0, none⟩ (.bool false)) := Turn.set (by show B0 ≤ W.heap.size + 1 + 1; omega) h73 _
      have hst : ∀ k, k ≠ W.heap.size + 1 + 1 → (w8.setCell ⟨W.heap.size + 1 + 1, 0, none⟩ (.bool false)).heap[k]? = w8.heap[k]? := fun k hk => Below.heap_setCell _ _ _ _ hk
      refine ⟨fun k => O3 k ∨ k = W.heap.size + 1 + 1, fun k hk => by simpa using hOi k hk, ⟨hKeptI.os, hKeptI.tape, hKeptI.output, by simpa using hKeptI.size, fun k hk hn => (hst k (fun e => hn ((ROI.out k).2 (.inr e)))).trans (hKeptI.same k hk hn)⟩, O3, fun k => Iff.rfl, rfl, ⟨p2.flatMap F ++ q, by simp [hq0], ?_, ?_⟩, fun k hk => by simpa using hOW k hk,
        ⟨hKeptW.os, hKeptW.tape, hKeptW.output, by simpa using hKeptW.size, fun k hk hn => (hst k (by omega)).trans (hKeptW.same k hk hn)⟩, K79.out, h73⟩
      · have h1 := flat_prefix F hp2
        rw [← HLF.out, List.flatMap_append, List.flatMap_singleton, hFy] at h1
        exact ((List.prefix_append_right_inj _).2 hq1).trans h1
      · rw [← List.append_assoc]
        exact HC.out.hJx _ _ _ _ hq2 ht
    · gi_wp2
      refine ⟨fun k => O3 k ∨ k = W.heap.size + 1 + 1, hOi, hKeptI, O3, fun k => Iff.rfl, ?_, hOW, hKeptW, hMZ8, ?_⟩
      · have h1 := HJ3.out (by trivial)
        rw [List.flatMap_append, List.flatMap_singleton, hFy, ← List.append_assoc]
        exact h1
      · show _ ≤ w8.heap.size
        have := RS.out
        omega
end Go.Proofs.Ytihfmphaajdhnaa.P
/-! Package chase: orders, an iterator. -/
namespace Go.Proofs.Ytihfmphaajdhnaa.P
open Go.RowKit Go.Proofs.YtihfmphaajdhnaaW.PrintWords Go.Proofs.YtihfmphaajdhnaaW.PrintLast Go.Proofs.YtihfmphaajdhnaaW.PrintMore
set_option linter.unusedVariables false
set_option linter.unusedSimpArgs false

def begin0 : St := ⟨0, -1, 0⟩
/-- All orders. -/
def allOrders (cs : List S65) : List (List Int) := ordersF cs cs.length begin0 []
theorem on_all {J Jx : List (List Int) → (Nat → Prop) → World → Prop} {B0 l0 bc bt bo g ga : Nat} {Lall : List (List Int)} {e f : Int} {A : Option Addr} {c : Nat} {ps : List (List Int)} {cs : List S65}
    (H : OCtx J Jx B0 l0 Lall cs) : ∀ d, OnSpec J Jx B0 l0 bc bt bo g ga Lall e f A c ps cs d
  | 0 => on_zero H
  | d + 1 => on_succ H (on_all H d)

set_option maxHeartbeats 2000000 in
set_option maxRecDepth 100000 in
theorem orders1_iter {g ga bc : Nat} {e f : Int} {A : Option Addr} {c : Nat} {ps : List (List Int)} {cs : List S65} (W : World) (hM : Mem W g ga e f A c ps cs)
    (h1 : W.heap[bc]? = some (.cells #[.pointer (some ⟨g, 0, none⟩)] 69 (0, 0))) (hga : ga < W.heap.size) (h6 : cs.length ≤ 6) (hc : ∀ k, k < cs.length → 0 ≤ (cl cs k).f0.f0 ∧ (cl cs k).f0.f1 ≤ 203) :
    Iter Try.prog 78 #[.pointer (some ⟨bc, 0, none⟩)] (fun (x : List Int) v W' => SlR W.heap.size W' v x) (fun v k => v.ownBlock = some k) (fun k => k = bc ∨ k = g ∨ k = ga) (allOrders cs) W := by
  intro l J Jx O hJ hJx hY h0 hO hRd
  have HCX : Hid (OCtx J Jx W.heap.size l (allOrders cs) cs) := Lib.hid ⟨hJ, hJx, hY, h6, hc⟩
  have hmf : ∀ (fn : Fn) (first cap : Array Value) (w : World), (Instr.makeFunc fn first cap).run Try.prog w = .ok (.func fn first cap) w := fun _ _ _ _ => rfl
  have hstf : ∀ (a : Addr) (fn : Fn) (x y : Array Value) (m : Mode) (w : World), (store a (.func fn x y) m).run Try.prog w = stored Try.prog w a (.func fn x y) m := fun a fn x y m w => run_store Try.prog w a _ m rfl
  have H0 := Lib.hid h0
  have HO := Lib.hid hO
  have HRD := Lib.hid hRd
  have HM := Lib.hid hM
  have H1 := Lib.hid h1
  have hgl : g < W.heap.size := by obtain ⟨v, hg, _⟩ := hM.out; exact blk_lt hg
  have hbl : bc < W.heap.size := blk_lt h1
  clear hJ hJx hY h0 hO hRd hM h1
  change Calls _ _ #[.func (.yield l) #[] #[], .pointer (some ⟨bc, 0, none⟩)] _ _
  go_enter Try.func78, Try.ntmps78
  go_wp2_with fail
  obtain ⟨w3, hw3, kt3, ko3, hb3⟩ := two_boxes W #[.func (.yield l) #[] #[]] #[.func (.func 79) #[] #[.pointer (some ⟨bc, 0, none⟩), .pointer (some ⟨W.heap.size, 0, none⟩), .pointer (some ⟨W.heap.size + 1, 0, none⟩)]] 119 120
  rw [← hw3]
  have hs2 : w3.heap.size = W.heap.size + 2 := by rw [hw3]; simp
  have KO3 := Lib.hid ko3
  have KT3 := Lib.hid kt3
  have HB3 := Lib.hid hb3
  clear ko3 kt3 hb3 hw3
  refine start_ (n := 3) (ds := []) (S := fun V => V.heap[W.heap.size + 1]? = w3.heap[W.heap.size + 1]?) #[false, false, false] (by kernel_rfl) rfl rfl (rfl) ?_
  intro hS
  obtain ⟨wd, hwd⟩ : ∃ wd, World.drew w3 = wd := ⟨_, rfl⟩
  rw [hwd] at hS ⊢
  have hbd : Below w3.heap.size w3 wd := hwd ▸ below_drew (Below.refl _ _)
  have HBD := Lib.hid hbd
  clear hbd hwd
  refine take_ (i := 0) (N := (some 5)) (v := ?_) #[true, false, false] rfl rfl (by kernel_rfl) (fun _ _ _ h => h) (Or.inl ⟨by rfl, ?_⟩) hS rfl ?_
  rotate_left
  · intro W hW; have q0 := blk_nth (hW.trans KO3.out) 0 rfl; go_simp; with_reducible rfl
  simp only [Act.put, List.setIfInBounds_toArray, List.set_cons_zero, List.set_cons_succ]
  refine one_ (i := 1) (N := (some 6)) #[true, true, false] rfl rfl (by kernel_rfl) (by decide) ?_
  intro K hK
  go_simp
  refine (chase_begin.calls 0 (-1) 0 _ rfl).mono ?_
  rintro en w4 ⟨rfl, hb4⟩
  have H4 := Lib.hid ((HB3.out.trans (HBD.out.mono HB3.out.size)).trans (hb4.mono (by have := HB3.out.size; have := HBD.out.size; omega)))
  have H34 := Lib.hid (HBD.out.trans (hb4.mono HBD.out.size))
  refine hK.out _ _ ((hb4.block _ (by have := HBD.out.size; omega)).trans hS) (fun hS => ?_)
  clear hb4
  (try simp only [Act.put, List.setIfInBounds_toArray, List.set_cons_zero, List.set_cons_succ])
  refine one_ (i := 2) (N := (some 7)) #[true, true, true] rfl rfl (by kernel_rfl) (by decide) ?_
  intro K hK
  go_simp
  have hwl := H4.out.size
  have hon := on_all HCX.out (bc := bc) (bt := W.heap.size) (bo := W.heap.size + 1) (g := g) (ga := ga) (e := e) (f := f) (A := A) (c := c) (ps := ps) cs.length begin0 [] (.slice none 0 0) [] O w4 (by simp) (by decide) (by decide) (by decide)
    ⟨blk_below H1.out H4.out, blk_below KT3.out H34.out, blk_below KO3.out H34.out, HM.out.move (H4.out.block g hgl) (H4.out.block ga hga), Nat.lt_of_lt_of_le hga hwl⟩ (Kd.R_nil _ _ _ _ _)
    (HCX.out.hJ _ _ _ _ H0.out (Turn.of_below H4.out)) (fun k hk => Nat.lt_of_lt_of_le (HO.out k hk) hwl)
    (by
      rintro k (rfl | rfl | rfl | rfl | rfl) h
      · exact HRD.out _ (.inl rfl) h
      · have := HO.out _ h; omega
      · have := HO.out _ h; omega
      · exact HRD.out _ (.inr (.inl rfl)) h
      · exact HRD.out _ (.inr (.inr rfl)) h) (fun k hk => by simp [Value.ownBlock] at hk) hwl (List.prefix_refl _)
  refine hon.mono ?_
  rintro en w5 ⟨O', b, rfl, hO', hk', hj', hx'⟩
  refine hK.out _ _ ((hk'.same _ (by have := H34.out.size; omega) (fun h => h.elim (fun h => by have := HO.out _ h; omega) (fun h => by simp [Value.ownBlock] at h))).trans hS) (fun hS => ?_)
  have HJ' := Lib.hid hj'
  have HX' := Lib.hid hx'
  clear hj' hx' hon
  (try simp only [Act.put, List.setIfInBounds_toArray, List.set_cons_zero, List.set_cons_succ])
  refine done_ (by kernel_rfl) ?_
  go_wp2
  go_end0
  refine ⟨⟨_, rfl⟩, ?_⟩
  cases b
  · obtain ⟨q, h1, h2, h3⟩ := HX'.out rfl
    exact .inr ⟨q, O', h3, h1, h2⟩
  · exact .inl ⟨O', HJ'.out rfl⟩
end Go.Proofs.Ytihfmphaajdhnaa.P
/-! Package chase: what is asked of an order. -/
namespace Go.Proofs.Ytihfmphaajdhnaa.P
open Go.RowKit Go.Proofs.YtihfmphaajdhnaaW.PrintWords Go.Proofs.YtihfmphaajdhnaaW.PrintLast Go.Proofs.YtihfmphaajdhnaaW.PrintMore
set_option linter.unusedVariables false
set_option linter.unusedSimpArgs false

set_option maxHeartbeats 400000 in
theorem orders_any {g : Nat} (w : World) :
    Calls Try.prog 61 #[.pointer (some ⟨g, 0, none⟩)] w fun en w' =>
      en = .returned (.func (.func 78) #[] #[.pointer (some ⟨w.heap.size, 0, none⟩)]) ∧
      w'.heap[w.heap.size]? = some (.cells #[.pointer (some ⟨g, 0, none⟩)] 69 (0, 0)) ∧ Below w.heap.size w w' ∧ w'.heap.size = w.heap.size + 1 := by
  have hmf : ∀ (fn : Fn) (first cap : Array Value) (w : World), (Instr.makeFunc fn first cap).run Try.prog w = .ok (.func fn first cap) w := fun _ _ _ _ => rfl
  go_enter Try.func61, Try.ntmps61
  go_wp2
  go_ret
  exact ⟨by simp, blk_new _ _, (Below.refl _ _).alloc (Nat.le_refl _) _, by simp⟩

theorem wrap13 : ∀ m : Nat, m < 13 → IntKind.i64.wrap (m : Int) = m := by decide +kernel
/-- An order's array. -/
def arrV (x : List Int) : Value := .agg (x.map (Value.int .i64)).toArray
set_option maxHeartbeats 1000000 in
theorem at_any (x : List Int) (hx : x.length = 6) (p : Nat) (hp : p < 6) (w : World) :
    Calls Try.prog 66 #[arrV x, .int .i64 p] w fun en w' => en = .returned (.int .i64 (x.getD p 0)) ∧ Below w.heap.size w w' := by
  match x, hx with
  | [x0, x1, x2, x3, x4, x5], _ =>
    show Calls _ _ #[.agg #[.int .i64 x0, .int .i64 x1, .int .i64 x2, .int .i64 x3, .int .i64 x4, .int .i64 x5], _] _ _
    have hb := blk_new w (.cells #[.int .i64 x0, .int .i64 x1, .int .i64 x2, .int .i64 x3, .int .i64 x4, .int .i64 x5] 103)
    have h : p = 0 ∨ p = 1 ∨ p = 2 ∨ p = 3 ∨ p = 4 ∨ p = 5 := by omega
    go_enter Try.func66, Try.ntmps66
    go_wp2_with fail
    go_ret
    refine ⟨?_, (Below.refl _ _).alloc (Nat.le_refl _) _⟩
    rcases h with rfl | rfl | rfl | rfl | rfl | rfl <;> rfl

def atV (x : List Int) : Value := .func (.func 66) #[arrV x] #[]
set_option maxHeartbeats 1000000 in
set_option maxRecDepth 100000 in
theorem comes_is (x : List Int) (hx : x.length = 6) (p : Nat) (hp : p < 6) (f : Int) (w : World) :
    Calls Try.prog 123 #[.agg #[.int .i64 p, .int .i64 f], atV x] w fun en w' => en = .returned (.bool (decide (x.getD p 0 < f))) ∧ Below w.heap.size w w' := by
  obtain ⟨av, hav⟩ : ∃ v, v = arrV x := ⟨_, rfl⟩
  unfold atV
  rw [← hav]
  have HAV := Lib.hid hav
  clear hav
  obtain ⟨a, ha⟩ : ∃ a, a = x.getD p 0 := ⟨_, rfl⟩
  have HA := Lib.hid ha
  rw [← ha]
  clear ha
  go_enter Try.func123, Try.ntmps123
  go_wp2_with fail
  obtain ⟨w1, hw1, hb, hB⟩ : ∃ w1, w1 = w.alloc (.cells #[.int .i64 p, .int .i64 f] 76) ∧ w1.heap[w.heap.size]? = some (.cells #[.int .i64 p, .int .i64 f] 76 (0, 0)) ∧ Below w.heap.size w w1 := ⟨_, rfl, blk_new _ _, (Below.refl _ _).alloc (Nat.le_refl _) _⟩
  rw [← hw1]
  have HB := Lib.hid hB
  have KB := Lib.hid hb
  clear hB hb hw1
  refine start_ (n := 8) (ds := []) (S := fun W => SK w1 none W) #[false, false, false, false, false, false, false, false] (by kernel_rfl) rfl rfl (SK.drew (SK.refl _ _)) ?_
  intro hS
  obtain ⟨wd, hwd⟩ : ∃ wd, World.drew w1 = wd := ⟨_, rfl⟩
  rw [hwd] at hS ⊢
  have hbd : Below w1.heap.size w1 wd := hwd ▸ below_drew (Below.refl _ _)
  have HBD := Lib.hid hbd
  clear hbd hwd
  refine take_ (i := 0) (N := (some 5)) (v := ?_) #[true, false, false, false, false, false, false, false] rfl rfl (by kernel_rfl) (fun _ _ _ h => h) (Or.inl ⟨by rfl, ?_⟩) hS rfl ?_
  rotate_left
  · intro W hW; go_simp; with_reducible rfl
  simp only [Act.put, List.setIfInBounds_toArray, List.set_cons_zero, List.set_cons_succ]
  refine take_ (i := 1) (N := (some 6)) (v := ?_) #[true, true, false, false, false, false, false, false] rfl rfl (by kernel_rfl) (fun _ _ _ h => h) (Or.inl ⟨by rfl, ?_⟩) hS rfl ?_
  rotate_left
  · intro W hW; go_simp; with_reducible rfl
  simp only [Act.put, List.setIfInBounds_toArray, List.set_cons_zero, List.set_cons_succ]
  refine take_ (i := 2) (N := (some 7)) (v := ?_) #[true, true, true, false, false, false, false, false] rfl rfl (by kernel_rfl) (fun _ _ _ h => h) (Or.inl ⟨by rfl, ?_⟩) hS rfl ?_
  rotate_left
  · intro W hW; have q0 := SK.nth hW KB.out (by simp) 0 rfl; go_simp; with_reducible rfl
  simp only [Act.put, List.setIfInBounds_toArray, List.set_cons_zero, List.set_cons_succ]
  refine take_ (i := 4) (N := (some 9)) (v := ?_) #[true, true, true, false, true, false, false, false] rfl rfl (by kernel_rfl) (fun _ _ _ h => h) (Or.inl ⟨by rfl, ?_⟩) hS rfl ?_
  rotate_left
  · intro W hW; go_simp; with_reducible rfl
  simp only [Act.put, List.setIfInBounds_toArray, List.set_cons_zero, List.set_cons_succ]
  refine take_ (i := 5) (N := (some 10)) (v := ?_) #[true, true, true, false, true, true, false, false] rfl rfl (by kernel_rfl) (fun _ _ _ h => h) (Or.inl ⟨by rfl, ?_⟩) hS rfl ?_
  rotate_left
  · intro W hW; have q0 := SK.nth hW KB.out (by simp) 1 rfl; go_simp; with_reducible rfl
  simp only [Act.put, List.setIfInBounds_toArray, List.set_cons_zero, List.set_cons_succ]
  refine one_ (i := 3) (N := (some 8)) #[true, true, true, true, true, true, false, false] rfl rfl (by kernel_rfl) (by decide) ?_
  intro K hK
  go_simp
  rw [HAV.out]
  refine (at_any x hx p hp _).mono ?_
  rintro en w2 ⟨rfl, hb2⟩
  rw [← HA.out, ← HAV.out]
  have H2 := Lib.hid ((HB.out.trans (HBD.out.mono HB.out.size)).trans (hb2.mono (Nat.le_trans HB.out.size HBD.out.size)))
  refine hK.out _ _ (SK.below hS hb2) (fun hS => ?_)
  clear hb2
  (try simp only [Act.put, List.setIfInBounds_toArray, List.set_cons_zero, List.set_cons_succ])
  refine take_ (i := 6) (N := (some 11)) (v := ?_) #[true, true, true, true, true, true, true, false] rfl rfl (by kernel_rfl) (fun _ _ _ h => h) (Or.inl ⟨by rfl, ?_⟩) hS rfl ?_
  rotate_left
  · intro W hW; go_simp; with_reducible rfl
  simp only [Act.put, List.setIfInBounds_toArray, List.set_cons_zero, List.set_cons_succ]
  refine take_ (i := 7) (N := (some 4)) (v := ?_) #[true, true, true, true, true, true, true, true] rfl rfl (by kernel_rfl) (fun _ _ _ h => h) (Or.inl ⟨by rfl, ?_⟩) hS rfl ?_
  rotate_left
  · intro W hW; go_simp; with_reducible rfl
  simp only [Act.put, List.setIfInBounds_toArray, List.set_cons_zero, List.set_cons_succ]
  refine done_ (by kernel_rfl) ?_
  go_wp2
  go_ret
  exact ⟨rfl, H2.out⟩

set_option maxHeartbeats 1000000 in
set_option maxRecDepth 100000 in
theorem meets_is (x : List Int) (hx : x.length = 6) (hx6 : ∀ j, j < 6 → 0 ≤ x.getD j 0 ∧ x.getD j 0 ≤ 6) (p q : Nat) (hp : p < 6) (hq : q < 6) (n : Nat) (hn : n ≤ 6) (w : World) :
    Calls Try.prog 124 #[.agg #[.int .i64 p, .int .i64 q, .int .i64 n], atV x] w fun en w' => en = .returned (.bool (decide (x.getD p 0 + x.getD q 0 = n - 1))) ∧ Below w.heap.size w w' := by
  obtain ⟨av, hav⟩ : ∃ v, v = arrV x := ⟨_, rfl⟩
  unfold atV
  rw [← hav]
  have HAV := Lib.hid hav
  clear hav
  have hxp := hx6 p hp
  have hxq := hx6 q hq
  obtain ⟨a, ha⟩ : ∃ a, a = x.getD p 0 := ⟨_, rfl⟩
  obtain ⟨b, hb⟩ : ∃ b, b = x.getD q 0 := ⟨_, rfl⟩
  rw [← ha] at hxp
  rw [← hb] at hxq
  have HA := Lib.hid ha
  have HBQ := Lib.hid hb
  clear ha hb hx6
  go_enter Try.func124, Try.ntmps124
  go_wp2_with fail
  obtain ⟨w1, hw1, hb, hB⟩ : ∃ w1, w1 = w.alloc (.cells #[.int .i64 p, .int .i64 q, .int .i64 n] 84) ∧ w1.heap[w.heap.size]? = some (.cells #[.int .i64 p, .int .i64 q, .int .i64 n] 84 (0, 0)) ∧ Below w.heap.size w w1 := ⟨_, rfl, blk_new _ _, (Below.refl _ _).alloc (Nat.le_refl _) _⟩
  rw [← hw1]
  have HB := Lib.hid hB
  have KB := Lib.hid hb
  clear hB hb hw1
  have ea : IntKind.i64.wrap ((n : Int) - 1) = n - 1 := by
    have h : n = 0 ∨ n = 1 ∨ n = 2 ∨ n = 3 ∨ n = 4 ∨ n = 5 ∨ n = 6 := by omega
    rcases h with rfl | rfl | rfl | rfl | rfl | rfl | rfl <;> rfl
  have eab : IntKind.i64.wrap (a + b) = a + b := by
    obtain ⟨m, hm⟩ : ∃ m : Nat, a + b = m := ⟨(a + b).toNat, by omega⟩
    rw [hm]
    exact wrap13 m (by omega)
  refine start_ (n := 14) (ds := []) (S := fun W => SK w1 none W) #[false, false, false, false, false, false, false, false, false, false, false, false, false, false] (by kernel_rfl) rfl rfl (SK.drew (SK.refl _ _)) ?_
  intro hS
  obtain ⟨wd, hwd⟩ : ∃ wd, World.drew w1 = wd := ⟨_, rfl⟩
  rw [hwd] at hS ⊢
  have hbd : Below w1.heap.size w1 wd := hwd ▸ below_drew (Below.refl _ _)
  have HBD := Lib.hid hbd
  clear hbd hwd
  refine take_ (i := 0) (N := (some 5)) (v := ?_) #[true, false, false, false, false, false, false, false, false, false, false, false, false, false] rfl rfl (by kernel_rfl) (fun _ _ _ h => h) (Or.inl ⟨by rfl, ?_⟩) hS rfl ?_
  rotate_left
  · intro W hW; go_simp; with_reducible rfl
  simp only [Act.put, List.setIfInBounds_toArray, List.set_cons_zero, List.set_cons_succ]
  refine take_ (i := 1) (N := (some 6)) (v := ?_) #[true, true, false, false, false, false, false, false, false, false, false, false, false, false] rfl rfl (by kernel_rfl) (fun _ _ _ h => h) (Or.inl ⟨by rfl, ?_⟩) hS rfl ?_
  rotate_left
  · intro W hW; go_simp; with_reducible rfl
  simp only [Act.put, List.setIfInBounds_toArray, List.set_cons_zero, List.set_cons_succ]
  refine take_ (i := 2) (N := (some 7)) (v := ?_) #[true, true, true, false, false, false, false, false, false, false, false, false, false, false] rfl rfl (by kernel_rfl) (fun _ _ _ h => h) (Or.inl ⟨by rfl, ?_⟩) hS rfl ?_
  rotate_left
  · intro W hW; have q0 := SK.nth hW KB.out (by simp) 0 rfl; go_simp; with_reducible rfl
  simp only [Act.put, List.setIfInBounds_toArray, List.set_cons_zero, List.set_cons_succ]
  refine take_ (i := 4) (N := (some 9)) (v := ?_) #[true, true, true, false, true, false, false, false, false, false, false, false, false, false] rfl rfl (by kernel_rfl) (fun _ _ _ h => h) (Or.inl ⟨by rfl, ?_⟩) hS rfl ?_
  rotate_left
  · intro W hW; go_simp; with_reducible rfl
  simp only [Act.put, List.setIfInBounds_toArray, List.set_cons_zero, List.set_cons_succ]
  refine take_ (i := 5) (N := (some 10)) (v := ?_) #[true, true, true, false, true, true, false, false, false, false, false, false, false, false] rfl rfl (by kernel_rfl) (fun _ _ _ h => h) (Or.inl ⟨by rfl, ?_⟩) hS rfl ?_
  rotate_left
  · intro W hW; go_simp; with_reducible rfl
  simp only [Act.put, List.setIfInBounds_toArray, List.set_cons_zero, List.set_cons_succ]
  refine take_ (i := 6) (N := (some 11)) (v := ?_) #[true, true, true, false, true, true, true, false, false, false, false, false, false, false] rfl rfl (by kernel_rfl) (fun _ _ _ h => h) (Or.inl ⟨by rfl, ?_⟩) hS rfl ?_
  rotate_left
  · intro W hW; have q0 := SK.nth hW KB.out (by simp) 1 rfl; go_simp; with_reducible rfl
  simp only [Act.put, List.setIfInBounds_toArray, List.set_cons_zero, List.set_cons_succ]
  refine take_ (i := 9) (N := (some 14)) (v := ?_) #[true, true, true, false, true, true, true, false, false, true, false, false, false, false] rfl rfl (by kernel_rfl) (fun _ _ _ h => h) (Or.inl ⟨by rfl, ?_⟩) hS rfl ?_
  rotate_left
  · intro W hW; go_simp; with_reducible rfl
  simp only [Act.put, List.setIfInBounds_toArray, List.set_cons_zero, List.set_cons_succ]
  refine take_ (i := 10) (N := (some 15)) (v := ?_) #[true, true, true, false, true, true, true, false, false, true, true, false, false, false] rfl rfl (by kernel_rfl) (fun _ _ _ h => h) (Or.inl ⟨by rfl, ?_⟩) hS rfl ?_
  rotate_left
  · intro W hW; have q0 := SK.nth hW KB.out (by simp) 2 rfl; go_simp; with_reducible rfl
  simp only [Act.put, List.setIfInBounds_toArray, List.set_cons_zero, List.set_cons_succ]
  refine take_ (i := 11) (N := (some 16)) (v := .int .i64 ((n : Int) - 1)) #[true, true, true, false, true, true, true, false, false, true, true, true, false, false] rfl rfl (by kernel_rfl) (fun _ _ _ h => h) (Or.inl ⟨by rfl, ?_⟩) hS rfl ?_
  · intro W hW; first | (go_simp; done) | (go_simp; rfl)
  simp only [Act.put, List.setIfInBounds_toArray, List.set_cons_zero, List.set_cons_succ]
  refine one_ (i := 3) (N := (some 8)) #[true, true, true, true, true, true, true, false, false, true, true, true, false, false] rfl rfl (by kernel_rfl) (by decide) ?_
  intro K hK
  go_simp
  rw [HAV.out]
  refine (at_any x hx p hp _).mono ?_
  rintro en w2 ⟨rfl, hb2⟩
  rw [← HA.out, ← HAV.out]
  have H2 := Lib.hid ((HB.out.trans (HBD.out.mono HB.out.size)).trans (hb2.mono (Nat.le_trans HB.out.size HBD.out.size)))
  refine hK.out _ _ (SK.below hS hb2) (fun hS => ?_)
  clear hb2
  (try simp only [Act.put, List.setIfInBounds_toArray, List.set_cons_zero, List.set_cons_succ])
  refine one_ (i := 7) (N := (some 12)) #[true, true, true, true, true, true, true, true, false, true, true, true, false, false] rfl rfl (by kernel_rfl) (by decide) ?_
  intro K hK
  go_simp
  rw [HAV.out]
  refine (at_any x hx q hq _).mono ?_
  rintro en w3 ⟨rfl, hb3⟩
  rw [← HBQ.out, ← HAV.out]
  have H3 := Lib.hid (H2.out.trans (hb3.mono H2.out.size))
  refine hK.out _ _ (SK.below hS hb3) (fun hS => ?_)
  clear hb3
  (try simp only [Act.put, List.setIfInBounds_toArray, List.set_cons_zero, List.set_cons_succ])
  refine take_ (i := 8) (N := (some 13)) (v := .int .i64 (a + b)) #[true, true, true, true, true, true, true, true, true, true, true, true, false, false] rfl rfl (by kernel_rfl) (fun _ _ _ h => h) (Or.inl ⟨by rfl, ?_⟩) hS rfl ?_
  · intro W hW; first | (go_simp; done) | (go_simp; rfl)
  simp only [Act.put, List.setIfInBounds_toArray, List.set_cons_zero, List.set_cons_succ]
  refine take_ (i := 12) (N := (some 17)) (v := .bool (decide (a + b = n - 1))) #[true, true, true, true, true, true, true, true, true, true, true, true, true, false] rfl rfl (by kernel_rfl) (fun _ _ _ h => h) (Or.inl ⟨by rfl, ?_⟩) hS rfl ?_
  · intro W hW; first | (go_simp; done) | (go_simp; rfl)
  simp only [Act.put, List.setIfInBounds_toArray, List.set_cons_zero, List.set_cons_succ]
  refine take_ (i := 13) (N := (some 4)) (v := ?_) #[true, true, true, true, true, true, true, true, true, true, true, true, true, true] rfl rfl (by kernel_rfl) (fun _ _ _ h => h) (Or.inl ⟨by rfl, ?_⟩) hS rfl ?_
  rotate_left
  · intro W hW; go_simp; with_reducible rfl
  simp only [Act.put, List.setIfInBounds_toArray, List.set_cons_zero, List.set_cons_succ]
  refine done_ (by kernel_rfl) ?_
  go_wp2
  go_ret
  rw [← HA.out, ← HBQ.out]
  exact ⟨rfl, H3.out⟩
end Go.Proofs.Ytihfmphaajdhnaa.P
/-! Package chase: ask. -/
namespace Go.Proofs.Ytihfmphaajdhnaa.P
open Go.RowKit Go.Shelf Go.Proofs.YtihfmphaajdhnaaW.PrintWords Go.Proofs.YtihfmphaajdhnaaW.PrintLast Go.Proofs.YtihfmphaajdhnaaW.PrintMore
set_option linter.unusedVariables false
set_option linter.unusedSimpArgs false
attribute [local go_sem] Oper.semAt_some

/-- At which place each pair is, the first so many places known. -/
def posTo (x : List Int) (k : Nat) : List Int := (List.range k).foldl (fun (a : List Int) i => a.set (x.getD i 0).toNat (i : Int)) (List.replicate 6 0)
def posOf (x : List Int) : List Int := posTo x x.length
theorem posTo_succ (x : List Int) (k : Nat) : posTo x (k + 1) = (posTo x k).set (x.getD k 0).toNat (k : Int) := by
  unfold posTo
  rw [List.range_succ, List.foldl_append]
  rfl
theorem posTo_len (x : List Int) (k : Nat) : (posTo x k).length = 6 := by
  induction k with
  | zero => rfl
  | succ k ih => rw [posTo_succ, List.length_set, ih]

theorem info_bool : (Try.prog.info? 4).map (fun i => (i.zero, i.size, i.bytes)) = some (some (.bool false), 1, 1) := by kernel_rfl
theorem pos_nth {l : List Int} {m : Nat} (h : m < l.length) : ((l.map (Value.int .i64)).toArray)[m]? = some (.int .i64 (l.getD m 0)) := by simp [h]
theorem six {l : List Int} (h : l.length = 6) : ∃ a b c d e f, l = [a, b, c, d, e, f] := by
  match l, h with
  | [a, b, c, d, e, f], _ => exact ⟨a, b, c, d, e, f, rfl⟩
set_option maxHeartbeats 2000000 in
set_option maxRecDepth 100000 in
theorem ask_any {g ga : Nat} {e f : Int} {A : Option Addr} {c : Nat} {ps : List (List Int)} {cs : List S65} (w : World) (hM : Mem w g ga e f A c ps cs) (hga : ga < w.heap.size) (h6 : cs.length ≤ 6)
    (hc : ∀ k, k < cs.length → 0 ≤ (cl cs k).f0.f0 ∧ (cl cs k).f0.f1 ≤ 203) (hord : ∀ x ∈ allOrders cs, x.length ≤ 6 ∧ ∀ j, j < x.length → 0 ≤ x.getD j 0 ∧ x.getD j 0 < 6) (hmany : (allOrders cs).length ≤ 46656)
    (T kis : Nat) (va : Value) (P : List Int → Bool) (hmeth : ∀ (n : Nat) (w : World), (method (n + 1) T va "lapworks/chase.is").run Try.prog w = .ok (kis, va) w) (hent : ∀ (args : Array Value) (w : World), (callFunc kis args).run Try.prog w = .ok (.enter kis args) w)
    (hP : ∀ x ∈ allOrders cs, ∀ w1, Calls Try.prog kis #[va, atV (posOf x)] w1 fun en w' => en = .returned (.bool (P (posOf x))) ∧ Below w1.heap.size w1 w') :
    Calls Try.prog 44 #[.pointer (some ⟨g, 0, none⟩), .iface T va] w fun en w' => en = .returned (.int .i64 (soOf ((allOrders cs).map fun x => P (posOf x)))) ∧ Below w.heap.size w w' := by
  have hgl : g < w.heap.size := by obtain ⟨v, hg, _⟩ := hM.out; exact blk_lt hg
  have HM := Lib.hid hM
  have HC := Lib.hid hc
  have HORD := Lib.hid hord
  have HP := Lib.hid hP
  clear hM hc hord hP
  refine callsIn_wide (n := 9) |>.1 ?_
  refine callsIn_of_wp_marks Try.func44 rfl trivial ?_
  simp only [Try.ntmps44, List.size_toArray, List.length_cons, List.length_nil, Nat.reduceAdd, Nat.reduceSub, Array.replicate_succ, Array.replicate_zero, List.push_toArray, List.append_toArray, List.nil_append, List.cons_append]
  gi_wp2_with fail
  obtain ⟨w2, hw2, ki, kl, hB⟩ := two_boxes w #[.iface T va] #[.slice none 0 0] 100 101
  rw [← hw2]
  have hs2 : w2.heap.size = w.heap.size + 2 := by rw [hw2]; simp
  have KI := Lib.hid ki
  have KL := Lib.hid kl
  have HB := Lib.hid hB
  clear ki kl hB hw2
  refine ⟨trivial, (callsIn_wide.2 (orders_any (g := g) w2)).mono ?_⟩
  rintro en w5 ⟨rfl, n1, hb5, hs5⟩
  gi_wp2_with fail
  have hb5w := HB.out.trans (hb5.mono HB.out.size)
  have KI5 := Lib.hid (blk_below KI.out hb5)
  have KL5 := Lib.hid (blk_below KL.out hb5)
  have N1 := Lib.hid n1
  have HB5 := Lib.hid hb5w
  clear hb5 hb5w n1
  refine range_own (α := List Int) (D := w5.heap.size) rfl rfl (fun _ _ => enters_of Try.func78 (by kernel_rfl) rfl _ _) (Enc := fun (x : List Int) v W => SlC W v x) (Gv := fun v k => v.ownBlock = some k) (Rd := fun k => k = w.heap.size + 2 ∨ k = g ∨ k = ga) (L := allOrders cs)
    (fun W' hb' hs' => ?seq) ?rd
    (fun p2 Oi W2 => ∃ vl, Hid (∀ k, Oi k ↔ (k = w.heap.size + 1 ∨ vl.ownBlock = some k)) ∧ Hid (W2.heap[w.heap.size + 1]? = some (.cells #[vl] 101 (0, 0))) ∧ Hid (Kd.R Kd.bool 4 W2 w5.heap.size (fun _ => True) vl (p2.map fun x => P (posOf x))) ∧ Hid (Below w.heap.size w W2) ∧ Hid (W2.heap[w.heap.size]? = some (.cells #[.iface T va] 100 (0, 0))) ∧ Hid (w5.heap.size ≤ W2.heap.size))
    (fun cd p2 Oi W2 => False)
    ?I ?Ix (fun k => k = w.heap.size + 1) ?h0 ?hO0 ?hRO ?round ?done ?stop
  case seq =>
    have hn := N1.out
    rw [hs2] at hn
    have hsw := HB5.out.size
    have hm' : Mem W' g ga e f A c ps cs := (HM.out.move (HB5.out.block g hgl) (HB5.out.block ga hga)).move (hb'.block g (by omega)) (hb'.block ga (by omega))
    refine Iter.weak ?_ (fun x v W h => SlR.slc (b := W'.heap.size) h)
    exact orders1_iter (g := g) (ga := ga) (bc := w.heap.size + 2) (e := e) (f := f) (A := A) (c := c) (ps := ps) (cs := cs) W' hm' (blk_below hn hb') (by have := hb'.size; omega) h6 HC.out
  case rd =>
    have := HB5.out.size
    rintro k (rfl | rfl | rfl) <;> omega
  case I =>
    rintro p2 Oi A' B' ⟨vl, hOi, hl, hr, hb, hi, hs⟩ ht
    have h5 := blk_lt hl
    have h0 := blk_lt hi
    have hown : ∀ k, vl.ownBlock = some k → k < A'.heap.size := by
      obtain ⟨inner, ho⟩ := Kd.R_own hr
      exact fun k hk => own_lt ho k hk
    exact ⟨vl, hOi, (ht.same _ h5 (.inl (by omega))).trans hl, Kd.R_reok rfl (Kd.R_move (Kd.R_tight rfl hr) (fun k hk => ht.same k (hown k hk.symm) (.inr ((hOi k).2 (.inr hk.symm))))) (fun _ _ => trivial),
      hb.trans ⟨ht.os, ht.tape, ht.output, ht.size, fun k hk => ht.same k (Nat.lt_of_lt_of_le hk hb.size) (.inl (by have := HB5.out.size; omega))⟩, (ht.same _ h0 (.inl (by omega))).trans hi, Nat.le_trans hs ht.size⟩
  case Ix => exact fun _ _ _ _ _ h => h.elim
  case h0 => exact ⟨.slice none 0 0, fun k => by simp [Value.ownBlock], KL5.out, Kd.R_nil _ _ _ _ _, HB5.out, KI5.out, Nat.le_refl _⟩
  case hO0 =>
    rintro k rfl
    omega
  case hRO =>
    rintro k hk rfl
    rcases hk with h | h | h <;> omega
  case stop => exact fun _ _ _ _ h => h.elim
  case done =>
    rintro Of Wf ⟨vl, hOi, hl, hr, hb, hi, hs⟩ hnD hdef
    obtain ⟨Al, cl, rfl, hcl, hC⟩ := Kd.R_reads hr
    have c0 := blk_nth hl 0 rfl
    have HCL := Lib.hid hC
    have HBF := Lib.hid hb
    have HDF := Lib.hid hdef
    clear hOi hl hr hb hi hdef hC
    gi_wp2_with fail
    have hso := chase_so.calls _ Al cl ((allOrders cs).map fun x => P (posOf x)) (soOf ((allOrders cs).map fun x => P (posOf x))) Wf HCL.out hcl (so_f _ (by simp; omega))
    simp only [List.length_map] at hso
    refine ⟨trivial, (callsIn_wide.2 hso).mono ?_⟩
    rintro en w8 ⟨rfl, hd8⟩
    have hb8 := hd8.below
    gi_wp2_with fail
    have hD8 : w8.heap[w.heap.size + 2 + 1]? = some (.deferred (some [])) := by
      have h := HDF.out
      rw [hs5, hs2] at h
      exact (hb8.block _ (Array.getElem?_eq_some_iff.1 h).1).trans h
    have hbw := HBF.out.trans (hb8.mono HBF.out.size)
    change LeavesInM _ _ _ _ _ _ [{ target := .collected (w.heap.size + 2 + 1), args := #[] }] .returning _
    refine ⟨by simp, .inl ⟨_, _, rfl, run_takeDeferred hD8, _, results_tmp rfl _ _ _, rfl, ⟨hbw.os, hbw.tape, hbw.output, by rw [World.putObj_size]; exact hbw.size, fun k hk => (World.putObj_heap_other (by omega)).trans (hbw.block k hk)⟩⟩⟩
  case round =>
    rintro l p2 Oi x v W2 ⟨vl, ROI, RL, RR, RB, RI, RS⟩ henc hgv hp2 hDl hlW hnl
    obtain ⟨hx6, hxr⟩ := HORD.out x (hp2.subset (by simp))
    obtain ⟨Ax, cx, rfl, hcx, hxa⟩ := id henc
    have HSL := Lib.hid henc
    clear henc hxa
    gi_wp2
    refine ⟨Below.refl _ _, ?_⟩
    intro W3 hs3 ho3 ht3
    have hlD : w5.heap.size < W2.heap.size := by omega
    have hvl : ∀ k, vl.ownBlock = some k → w5.heap.size ≤ k ∧ k < W2.heap.size ∧ k ≠ l := by
      obtain ⟨inner, ho⟩ := Kd.R_own RR.out
      exact fun k hk => ⟨own_base ho k hk, own_lt ho k hk, fun e => hnl ((ROI.out l).2 (.inr (e ▸ hk)))⟩
    have HVL := Lib.hid hvl
    have KL3 := Lib.hid ((ho3 _ (by omega)).trans RL.out)
    have KI3 := Lib.hid ((ho3 _ (by omega)).trans RI.out)
    have RR3 := Lib.hid (Kd.R_move (Kd.R_tight rfl RR.out) (fun k hk => ho3 k (hvl k hk.symm).2.2))
    have HT3 := Lib.hid ht3
    have HSL3 := Lib.hid (HSL.out.move (fun k hk => ho3 k (fun e => by
      have h := hgv k hk
      omega)))
    have HO3 := Lib.hid ho3
    clear hvl ht3 ho3
    apply wpIn_block
    gi_wp2_with fail
    gi_loopw [16] (fun i wr => ∃ k : Nat, i = .int .i64 k ∧ k ≤ x.length ∧ Hid (Below W3.heap.size W3 wr) ∧ Hid (wr.heap[W2.heap.size]? = some (.cells ((posTo x k).map (Value.int .i64)).toArray 103 (0, 0)))) (fun i _ => x.length - (intOf i).toNat)
    case atStart =>
      refine ⟨0, rfl, Nat.zero_le _, (Below.refl _ _).alloc (Nat.le_refl _) _, ?_⟩
      have h := blk_new W3 (.cells #[.int .i64 0, .int .i64 0, .int .i64 0, .int .i64 0, .int .i64 0, .int .i64 0] 103)
      rw [hs3] at h
      exact h
    case round =>
      obtain ⟨k, rfl, hk, HBR, HAR⟩ := hrel
      by_cases hkx : k < x.length
      · obtain ⟨A', c', hA', _, hxa⟩ := HSL3.out.move (W' := wr) (fun k' hk' => HBR.out.block k' (HSL3.out.lt (fun e => by rw [e] at hkx; simp at hkx) k' hk'))
        cases hA'
        obtain ⟨ad, rfl, hcell⟩ := hxa k hkx
        obtain ⟨hr0, hr1⟩ := hxr k hkx
        obtain ⟨m, hm⟩ : ∃ m : Nat, x.getD k 0 = m := ⟨(x.getD k 0).toNat, by omega⟩
        rw [hm] at hcell hr1
        have HM' := Lib.hid hm
        have hlen := posTo_len x k
        have c0 := blk_nth HAR.out m (pos_nth (by omega))
        have f0 := blk_frozen HAR.out m
        clear hm hr0
        gi_wp2
        refine ⟨⟨k + 1, by go_num, by omega, HBR.out.setCell (by show W3.heap.size ≤ W2.heap.size; omega) _, ?_⟩, by simp [intOf]; omega⟩
        rw [posTo_succ, HM'.out, Int.toNat_natCast]
        have h := blk_put HAR.out m (.int .i64 k) rfl
        exact Lib.hid (by simpa [List.map_set] using h)
      · obtain rfl : k = x.length := by omega
        obtain ⟨y0, y1, y2, y3, y4, y5, hy⟩ := six (posTo_len x x.length)
        have hy' : posOf x = [y0, y1, y2, y3, y4, y5] := hy
        have har := HAR.out
        rw [hy] at har
        have har' : wr.heap[W2.heap.size]? = some (.cells #[.int .i64 y0, .int .i64 y1, .int .i64 y2, .int .i64 y3, .int .i64 y4, .int .i64 y5] 103 (0, 0)) := har
        have c0 := blk_nth har' 0 rfl
        have c1 := blk_nth har' 1 rfl
        have c2 := blk_nth har' 2 rfl
        have c3 := blk_nth har' 3 rfl
        have c4 := blk_nth har' 4 rfl
        have c5 := blk_nth har' 5 rfl
        have HY := Lib.hid hy'
        have hmf : ∀ (fn : Fn) (first cap : Array Value) (w : World), (Instr.makeFunc fn first cap).run Try.prog w = .ok (.func fn first cap) w := fun _ _ _ _ => rfl
        clear har har' hy hy'
        gi_wp2_with fail
        have hsw := HBR.out.size
        have hD3 : w.heap.size + 1 < W3.heap.size := by omega
        have KLR := Lib.hid ((HBR.out.block _ (by omega)).trans KL3.out)
        have KIR := Lib.hid ((HBR.out.block _ (by omega)).trans KI3.out)
        have RRR := Lib.hid (Kd.R_below RR3.out HBR.out)
        clear c0 c1 c2 c3 c4 c5
        refine startR_ (n := 7) (ds := [6]) (S := fun V => V.heap[w.heap.size]? = wr.heap[w.heap.size]? ∧ V.heap[w.heap.size + 1]? = wr.heap[w.heap.size + 1]?) (by rintro ⟨_, _, hlo⟩; exact hlo) (by kernel_rfl) #[false, false, false, false, false, false, false] (by kernel_rfl) rfl rfl (⟨rfl, rfl⟩) ?_
        intro hS
        obtain ⟨wd, hwd⟩ : ∃ wd, World.drew wr = wd := ⟨_, rfl⟩
        rw [hwd] at hS ⊢
        have hbd : Below wr.heap.size wr wd := hwd ▸ below_drew (Below.refl _ _)
        have HBD := Lib.hid hbd
        clear hbd hwd
        refine take_ (i := 0) (N := (some 27)) (v := ?_) #[true, false, false, false, false, false, false] rfl rfl (by kernel_rfl) (fun _ _ _ h => h) (Or.inl ⟨by rfl, ?_⟩) hS rfl ?_
        rotate_left
        · intro W hW; have q0 := blk_nth (hW.2.trans KLR.out) 0 rfl; go_simp; with_reducible rfl
        simp only [Act.put, List.setIfInBounds_toArray, List.set_cons_zero, List.set_cons_succ]
        refine take_ (i := 1) (N := (some 28)) (v := ?_) #[true, true, false, false, false, false, false] rfl rfl (by kernel_rfl) (fun _ _ _ h => h) (Or.inl ⟨by rfl, ?_⟩) hS rfl ?_
        rotate_left
        · intro W hW; have q0 := blk_nth (hW.1.trans KIR.out) 0 rfl; go_simp; with_reducible rfl
        simp only [Act.put, List.setIfInBounds_toArray, List.set_cons_zero, List.set_cons_succ]
        refine take_ (i := 2) (N := (some 29)) (v := ?_) #[true, true, true, false, false, false, false] rfl rfl (by kernel_rfl) (fun _ _ _ h => h) (Or.inl ⟨by rfl, ?_⟩) hS rfl ?_
        rotate_left
        · intro W hW; go_simp; with_reducible rfl
        simp only [Act.put, List.setIfInBounds_toArray, List.set_cons_zero, List.set_cons_succ]
        refine one_ (i := 3) (N := (some 30)) #[true, true, true, true, false, false, false] rfl rfl (by kernel_rfl) (by decide) ?_
        intro K hK
        go_simp
        have hp := HP.out x (hp2.subset (by simp)) wd
        rw [show atV (posOf x) = .func (.func 66) #[.agg #[.int .i64 y0, .int .i64 y1, .int .i64 y2, .int .i64 y3, .int .i64 y4, .int .i64 y5]] #[] from by unfold atV arrV; rw [HY.out]; rfl] at hp
        refine hp.mono ?_
        rintro en w6 ⟨rfl, hb6⟩
        have hs6 := hb6.size
        have hsd := HBD.out.size
        have HW6 := Lib.hid (HBD.out.trans (hb6.mono hsd))
        refine hK.out _ _ ⟨(hb6.block _ (by omega)).trans hS.1, (hb6.block _ (by omega)).trans hS.2⟩ (fun hS => ?_)
        clear hb6 hp
        (try simp only [Act.put, List.setIfInBounds_toArray, List.set_cons_zero, List.set_cons_succ])
        refine one_ (i := 4) (N := (some 31)) #[true, true, true, true, true, false, false] rfl rfl (by kernel_rfl) (by decide) ?_
        intro K hK
        have hS0 := hS
        go_simp
        refine hK.out _ _ ⟨(Below.heap_alloc _ _ _ (by omega)).trans hS.1, (Below.heap_alloc _ _ _ (by omega)).trans hS.2⟩ (fun hS => ?_)
        (try simp only [Act.put, List.setIfInBounds_toArray, List.set_cons_zero, List.set_cons_succ])
        refine one_ (i := 5) (N := (some 32)) #[true, true, true, true, true, true, false] rfl rfl (by kernel_rfl) (by decide) ?_
        intro K hK
        have hw56 : w5.heap.size ≤ w6.heap.size := by omega
        refine Kd.R_append_step Kd.bool (w0 := wr) w5.heap.size (by rfl) (.tmp 27) (.tmp 31) 101 4 (.bool false) 1 rfl Try.underlying101 info_bool rfl (by decide) (by decide) vl (p2.map fun x => P (posOf x)) (P (posOf x)) [.bool (P (posOf x))] (fun _ => True) (fun _ => False) rfl rfl rfl (fun _ h => h.elim) (fun _ _ => trivial) (Kd.R_reok rfl (Kd.R_below RRR.out HW6.out) (fun _ _ => trivial)) (HW6.out.mono (by omega)) hw56 (by have h := hp2.length_le; simp at h ⊢; omega) ?_
        intro v1 w7 hr1 hbel1 hg1 hat1
        obtain ⟨A1, c1, rfl⟩ := Kd.R_slice hr1
        simp only [List.length_append, List.length_map, List.length_singleton] at hr1 hat1 hbel1 hg1 ⊢
        have hne5 : some (w.heap.size + 1) ≠ vl.ownBlock := fun e => by have := (HVL.out _ e.symm).1; omega
        have hne0 : some w.heap.size ≠ vl.ownBlock := fun e => by have := (HVL.out _ e.symm).1; omega
        refine hK.out _ _ ⟨(hg1.block _ (by omega) hne0).trans hS0.1, (hg1.block _ (by omega) hne5).trans hS0.2⟩ (fun hS => ?_)
        have HR1 := Lib.hid hr1
        have HG1 := Lib.hid hg1
        have HAT1 := Lib.hid hat1
        have hs7 := hg1.size
        clear hr1 hbel1 hg1 hat1
        (try simp only [Act.put, List.setIfInBounds_toArray, List.set_cons_zero, List.set_cons_succ])
        refine last_ (i := 6) (N := none) #[true, true, true, true, true, true, true] rfl rfl (by kernel_rfl) (by decide) ?_
        intro K hK
        have k5 := hS.2.trans KLR.out
        have c0 := blk_nth k5 0 rfl
        have f0 := blk_frozen k5 0
        have K5 := Lib.hid k5
        have K0 := Lib.hid (hS.1.trans KIR.out)
        clear k5
        go_simp
        refine hK.out _ _ ?_
        clear c0 f0
        (try simp only [Act.put, List.setIfInBounds_toArray, List.set_cons_zero, List.set_cons_succ])
        refine done_ (by kernel_rfl) ?_
        gi_wp2
        obtain ⟨v1, hv1⟩ : ∃ v1, v1 = Value.slice A1 (p2.length + 1) c1 := ⟨_, rfl⟩
        rw [← hv1] at HR1 HAT1 ⊢
        clear hv1
        have hv1b : ∀ k, v1.ownBlock = some k → (vl.ownBlock = some k ∨ w6.heap.size ≤ k) ∧ k < w7.heap.size ∧ w5.heap.size ≤ k := by
          obtain ⟨inner, ho⟩ := Kd.R_own HR1.out
          refine fun k hk => ⟨?_, own_lt ho k hk, own_base ho k hk⟩
          rcases HAT1.out with h | ⟨b, h, hle⟩
          · exact .inl (h ▸ hk)
          · rw [h] at hk
            injection hk with hk
            exact .inr (by omega)
        have hset : ∀ k, k ≠ w.heap.size + 1 → (w7.setCell ⟨w.heap.size + 1, 0, none⟩ v1).heap[k]? = w7.heap[k]? := fun k hk => Below.heap_setCell _ _ _ _ hk
        have hold : ∀ k, k < W3.heap.size → vl.ownBlock ≠ some k → w7.heap[k]? = W3.heap[k]? := fun k hk hn => (HG1.out.block k (by omega) (fun e => hn e.symm)).trans ((HW6.out.block k (by omega)).trans (HBR.out.block k hk))
        have hbw7 : Below w.heap.size w w7 := ⟨HG1.out.os.trans (HW6.out.os.trans (HBR.out.os.trans (HT3.out.os.trans RB.out.os))), HG1.out.tape.trans (HW6.out.tape.trans (HBR.out.tape.trans (HT3.out.tape.trans RB.out.tape))), HG1.out.output.trans (HW6.out.output.trans (HBR.out.output.trans (HT3.out.output.trans RB.out.output))), by have := RB.out.size; omega,
          fun k hk => (hold k (by omega) (fun e => by have := (HVL.out k e).1; omega)).trans ((HO3.out k (by omega)).trans (RB.out.block k hk))⟩
        refine ⟨fun k => k = w.heap.size + 1 ∨ v1.ownBlock = some k, ?_, ⟨?_, ?_, ?_, ?_, ?_⟩, v1, fun _ => Iff.rfl, ?_, ?_, ?_, ?_, ?_⟩
        · rintro k (rfl | hk)
          · exact ⟨.inl ((ROI.out _).2 (.inl rfl)), by simp; omega⟩
          · obtain ⟨h1, h2, h3⟩ := hv1b k hk
            refine ⟨?_, by simpa using h2⟩
            rcases h1 with h1 | h1
            · exact .inl ((ROI.out k).2 (.inr h1))
            · exact .inr (.inl (by omega))
        · exact HG1.out.os.trans (HW6.out.os.trans HBR.out.os)
        · exact HG1.out.tape.trans (HW6.out.tape.trans HBR.out.tape)
        · exact HG1.out.output.trans (HW6.out.output.trans HBR.out.output)
        · simp; omega
        · intro k hk hn
          exact (hset k (fun e => hn ((ROI.out k).2 (.inl e)))).trans (hold k hk (fun e => hn ((ROI.out k).2 (.inr e))))
        · exact blk_put K5.out 0 _ rfl
        · rw [List.map_append]
          exact Kd.R_move (Kd.R_tight rfl HR1.out) (fun k hk => hset k (fun e => by have := (hv1b k hk.symm).2.2; omega)) |> fun h => Kd.R_reok rfl h (fun _ _ => trivial)
        · exact hbw7.setCell (by simp) _
        · exact (hset _ (by omega)).trans K0.out
        · exact Lib.hid (by simp; omega)
end Go.Proofs.Ytihfmphaajdhnaa.P
/-! All orders of a chase: how long, of what, and how many. -/
namespace Go.Proofs.Ytihfmphaajdhnaa.P
open Go.RowKit
set_option linter.unusedVariables false
set_option linter.unusedSimpArgs false

theorem nexts_last {cs : List S65} {s o : St} (ho : o ∈ nexts cs s) : 0 ≤ o.last ∧ o.last < cs.length := by
  unfold nexts nextsTo at ho
  simp only [List.mem_map, List.mem_filter, List.mem_range] at ho
  obtain ⟨p, ⟨hpl, _⟩, rfl⟩ := ho
  show (0 : Int) ≤ (p : Int) ∧ (p : Int) < cs.length
  omega
theorem nexts_len (cs : List S65) (s : St) : (nexts cs s).length ≤ cs.length := by
  unfold nexts nextsTo
  rw [List.length_map]
  exact Nat.le_trans (List.length_filter_le _ _) (by simp)
theorem ordersF_mem (cs : List S65) : ∀ (d : Nat) (s : St) (y x : List Int), x ∈ ordersF cs d s y → x.length = y.length + d ∧ ∀ z ∈ x, z ∈ y ∨ (0 ≤ z ∧ z < cs.length)
  | 0, s, y, x, h => by
    have h : x = y := by simpa [ordersF] using h
    subst h
    exact ⟨rfl, fun z hz => .inl hz⟩
  | d + 1, s, y, x, h => by
    simp only [ordersF, List.mem_flatMap] at h
    obtain ⟨o, ho, hx⟩ := h
    obtain ⟨h1, h2⟩ := ordersF_mem cs d o (y ++ [o.last]) x hx
    refine ⟨by simpa [Nat.add_assoc, Nat.add_comm 1 d] using h1, fun z hz => ?_⟩
    rcases h2 z hz with h | h
    · rcases List.mem_append.1 h with h | h
      · exact .inl h
      · have h : z = o.last := by simpa using h
        subst h
        exact .inr (nexts_last ho)
    · exact .inr h
theorem flat_len {α β : Type} (F : α → List β) (n : Nat) : ∀ (l : List α), (∀ a ∈ l, (F a).length ≤ n) → (l.flatMap F).length ≤ l.length * n
  | [], _ => by simp
  | a :: l, h => by
    have h1 := h a (by simp)
    have h2 := flat_len F n l (fun b hb => h b (by simp [hb]))
    rw [List.flatMap_cons, List.length_append, List.length_cons, Nat.succ_mul]
    omega
theorem ordersF_len (cs : List S65) (h6 : cs.length ≤ 6) : ∀ (d : Nat) (s : St) (y : List Int), (ordersF cs d s y).length ≤ 6 ^ d
  | 0, s, y => by simp [ordersF]
  | d + 1, s, y => by
    have h := flat_len (fun o => ordersF cs d o (y ++ [o.last])) (6 ^ d) (nexts cs s) (fun o _ => ordersF_len cs h6 d o _)
    have h2 := Nat.mul_le_mul_right (6 ^ d) (Nat.le_trans (nexts_len cs s) h6)
    show ((nexts cs s).flatMap fun o => ordersF cs d o (y ++ [o.last])).length ≤ 6 ^ (d + 1)
    rw [Nat.pow_succ, Nat.mul_comm _ 6]
    omega
theorem allOrders_len {cs : List S65} (h6 : cs.length ≤ 6) : (allOrders cs).length ≤ 46656 :=
  Nat.le_trans (ordersF_len cs h6 _ _ _) (Nat.pow_le_pow_right (by decide : 0 < 6) h6)
theorem allOrders_mem {cs : List S65} (h6 : cs.length ≤ 6) : ∀ x ∈ allOrders cs, x.length ≤ 6 ∧ ∀ j, j < x.length → 0 ≤ x.getD j 0 ∧ x.getD j 0 < 6 := by
  intro x hx
  obtain ⟨h1, h2⟩ := ordersF_mem cs _ _ _ x hx
  refine ⟨by simpa using Nat.le_trans (Nat.le_of_eq h1) (by simpa using h6), fun j hj => ?_⟩
  have hm : x.getD j 0 ∈ x := by
    rw [List.getD_eq_getElem?_getD, List.getElem?_eq_getElem hj]
    exact List.getElem_mem hj
  rcases h2 _ hm with h | h
  · simp at h
  · omega
end Go.Proofs.Ytihfmphaajdhnaa.P
/-! Hand-made contracts of package chase: Final. -/
namespace Go.Proofs.Ytihfmphaajdhnaa.P
open Go.RowKit Go.Proofs.YtihfmphaajdhnaaW.PrintWords Go.Proofs.YtihfmphaajdhnaaW.PrintLast Go.Proofs.YtihfmphaajdhnaaW.PrintMore
set_option linter.unusedVariables false
set_option linter.unusedSimpArgs false

/-- What is asked of all orders. -/
def asked (cs : List S65) (P : List Int → Bool) : Int := soOf ((allOrders cs).map fun x => P (posOf x))
theorem comes_meth (n : Nat) (va : Value) (w : World) : (method (n + 1) 76 va "lapworks/chase.is").run Try.prog w = .ok (123, va) w := by kernel_rfl
theorem comes_ent (args : Array Value) (w : World) : (callFunc 123 args).run Try.prog w = .ok (.enter 123 args) w := by kernel_rfl
theorem meets_meth (n : Nat) (va : Value) (w : World) : (method (n + 1) 84 va "lapworks/chase.is").run Try.prog w = .ok (124, va) w := by kernel_rfl
theorem meets_ent (args : Array Value) (w : World) : (callFunc 124 args).run Try.prog w = .ok (.enter 124 args) w := by kernel_rfl
/-- A chase that is looked at, as ask reads it. -/
theorem Opened.mem {w : World} {base g : Nat} {e f : Int} {A : Option Addr} {c : Nat} {ps : List (List Int)} {cs : List S65} (h : Opened w base g e f A c ps cs) (hn : 1 ≤ cs.length) : ∃ ga, Mem w g ga e f A c ps cs ∧ ga < w.heap.size := by
  obtain ⟨v, hg, _, hv⟩ := h
  obtain ⟨inner, ho⟩ := Kd.R_own hv
  rcases ho.2 with ⟨_, h0⟩ | ⟨ga, cap, cur, rfl, _, hga, _⟩
  · omega
  · exact ⟨ga, ⟨_, hg, Kd.R_lower (Kd.R_reok rfl hv (fun k hk => by simpa [Value.ownBlock] using hk.symm)) (Nat.zero_le _)⟩, blk_lt hga⟩

def chase_Final.f (e f : Int) (ps : List (List Int)) (p : Int) : Option (Int × Int) :=
  if errOf e f ps (isP ps p) = 0 then some (asked (clks e ps) (fun l => decide (l.getD p.toNat 0 < f)), 0) else some (0, errOf e f ps (isP ps p))
theorem chase_Final.err {e f : Int} {ps : List (List Int)} {p r1 r2 c : Int} (h : chase_Final.f e f ps p = some (r1, r2)) (he : errOf e f ps (isP ps p) = c) (hc : c ≠ 0) : r1 = 0 ∧ r2 = c := by
  unfold chase_Final.f at h
  rw [he, if_neg hc] at h
  simp only [Option.some.injEq, Prod.mk.injEq] at h
  exact ⟨h.1.symm, h.2.symm⟩
theorem chase_Final.ok {e f : Int} {ps : List (List Int)} {p r1 r2 : Int} (h : chase_Final.f e f ps p = some (r1, r2)) (he : errOf e f ps (isP ps p) = 0) : r1 = asked (clks e ps) (fun l => decide (l.getD p.toNat 0 < f)) ∧ r2 = 0 := by
  unfold chase_Final.f at h
  rw [if_pos he] at h
  simp only [Option.some.injEq, Prod.mk.injEq] at h
  exact ⟨h.1.symm, h.2.symm⟩

set_option maxHeartbeats 2000000 in
set_option maxRecDepth 100000 in
theorem chase_Final.calls (a0_0 : Int) (a0_1 : Int) (A0_2 : Option Addr) (c0_2 : Nat) (l0_2 : List (List Int)) (a1 : Int) (r1 : Int) (r2 : Int) (w : World)
    (hr0_2 : Kd.C (Kd.slice 3 (Kd.int .i64)) w A0_2 l0_2.length l0_2) (hc0_2 : l0_2.length ≤ c0_2) (h : chase_Final.f a0_0 a0_1 l0_2 a1 = some (r1, r2)) :
    Calls Try.prog 14 #[.agg #[.int .i64 a0_0, .int .i64 a0_1, .slice A0_2 l0_2.length c0_2], .int .i64 a1] w fun en w' =>
      en = .returned (.tuple #[.int .i64 r1, .int .i64 r2]) ∧ Below w.heap.size w w' := by
  have hmf : ∀ (fn : Fn) (first cap : Array Value) (w : World), (Instr.makeFunc fn first cap).run Try.prog w = .ok (.func fn first cap) w := fun _ _ _ _ => rfl
  have HR := Lib.hid hr0_2
  have HF := Lib.hid h
  clear hr0_2 h
  go_enter_defers Try.func14, Try.ntmps14
  go_wp2_with fail
  obtain ⟨w3, hw3, k2, k5, hB⟩ := two_boxes w #[.int .i64 a0_0, .int .i64 a0_1, .slice A0_2 l0_2.length c0_2] #[.int .i64 0] 32 27
  rw [← hw3]
  have K2 := Lib.hid k2
  have K5 := Lib.hid k5
  have HB := Lib.hid hB
  clear k2 k5 hB hw3
  refine wp_ins 4 5 ?_
  refine start_ (n := 14) (ds := [13]) (S := fun W => SK w3 none W) #[false, false, false, false, false, false, false, false, false, false, false, false, false, false] (by kernel_rfl) rfl rfl (SK.drew (SK.refl _ _)) ?_
  intro hS
  obtain ⟨wd, hwd⟩ : ∃ wd, World.drew w3 = wd := ⟨_, rfl⟩
  rw [hwd] at hS ⊢
  have hbd : Below w3.heap.size w3 wd := hwd ▸ below_drew (Below.refl _ _)
  have HBD := Lib.hid hbd
  clear hbd hwd
  refine take_ (i := 0) (N := (some 7)) (v := ?_) #[true, false, false, false, false, false, false, false, false, false, false, false, false, false] rfl rfl (by kernel_rfl) (ins_put (by decide) (by decide)) (Or.inl ⟨by rfl, ?_⟩) hS rfl ?_
  rotate_left
  · intro W hW; have q0 := SK.nth hW K2.out (by simp) 0 rfl; have q1 := SK.nth hW K2.out (by simp) 1 rfl; have q2 := SK.nth hW K2.out (by simp) 2 rfl; go_simp; with_reducible rfl
  simp only [Act.put, List.setIfInBounds_toArray, List.set_cons_zero, List.set_cons_succ]
  refine take_ (i := 1) (N := (some 8)) (v := ?_) #[true, true, false, false, false, false, false, false, false, false, false, false, false, false] rfl rfl (by kernel_rfl) (ins_put (by decide) (by decide)) (Or.inl ⟨by rfl, ?_⟩) hS rfl ?_
  rotate_left
  · intro W hW; have q0 := SK.nth hW K2.out (by simp) 0 rfl; have q1 := SK.nth hW K2.out (by simp) 1 rfl; have q2 := SK.nth hW K2.out (by simp) 2 rfl; go_simp; with_reducible rfl
  simp only [Act.put, List.setIfInBounds_toArray, List.set_cons_zero, List.set_cons_succ]
  refine take_ (i := 2) (N := (some 9)) (v := ?_) #[true, true, true, false, false, false, false, false, false, false, false, false, false, false] rfl rfl (by kernel_rfl) (ins_put (by decide) (by decide)) (Or.inl ⟨by rfl, ?_⟩) hS rfl ?_
  rotate_left
  · intro W hW; go_simp; with_reducible rfl
  simp only [Act.put, List.setIfInBounds_toArray, List.set_cons_zero, List.set_cons_succ]
  refine take_ (i := 6) (N := (some 13)) (v := ?_) #[true, true, true, false, false, false, true, false, false, false, false, false, false, false] rfl rfl (by kernel_rfl) (ins_put (by decide) (by decide)) (Or.inl ⟨by rfl, ?_⟩) hS rfl ?_
  rotate_left
  · intro W hW; go_simp; with_reducible rfl
  simp only [Act.put, List.setIfInBounds_toArray, List.set_cons_zero, List.set_cons_succ]
  refine take_ (i := 7) (N := (some 14)) (v := ?_) #[true, true, true, false, false, false, true, true, false, false, false, false, false, false] rfl rfl (by kernel_rfl) (ins_put (by decide) (by decide)) (Or.inl ⟨by rfl, ?_⟩) hS rfl ?_
  rotate_left
  · intro W hW; go_simp; with_reducible rfl
  simp only [Act.put, List.setIfInBounds_toArray, List.set_cons_zero, List.set_cons_succ]
  refine take_ (i := 8) (N := (some 15)) (v := ?_) #[true, true, true, false, false, false, true, true, true, false, false, false, false, false] rfl rfl (by kernel_rfl) (ins_put (by decide) (by decide)) (Or.inl ⟨by rfl, ?_⟩) hS rfl ?_
  rotate_left
  · intro W hW; have q1 := SK.nth hW K2.out (by simp) 1 rfl; go_simp; with_reducible rfl
  simp only [Act.put, List.setIfInBounds_toArray, List.set_cons_zero, List.set_cons_succ]
  refine take_ (i := 9) (N := (some 16)) (v := ?_) #[true, true, true, false, false, false, true, true, true, true, false, false, false, false] rfl rfl (by kernel_rfl) (ins_put (by decide) (by decide)) (Or.inl ⟨by rfl, ?_⟩) hS rfl ?_
  rotate_left
  · intro W hW; go_simp; with_reducible rfl
  simp only [Act.put, List.setIfInBounds_toArray, List.set_cons_zero, List.set_cons_succ]
  refine take_ (i := 10) (N := (some 17)) (v := ?_) #[true, true, true, false, false, false, true, true, true, true, true, false, false, false] rfl rfl (by kernel_rfl) (ins_put (by decide) (by decide)) (Or.inl ⟨by rfl, ?_⟩) hS rfl ?_
  rotate_left
  · intro W hW; go_simp; with_reducible rfl
  simp only [Act.put, List.setIfInBounds_toArray, List.set_cons_zero, List.set_cons_succ]
  refine one_ (i := 3) (N := (some 10)) #[true, true, true, true, false, false, true, true, true, true, true, false, false, false] rfl rfl (by kernel_rfl) (by decide) ?_
  intro K hK
  go_simp
  have hwd := HB.out.trans (HBD.out.mono HB.out.size)
  refine (isPair_any _ _ _ _ _ _ _ (Kd.C_below HR.out hwd) hc0_2).mono ?_
  rintro e' w4 ⟨rfl, hb4⟩
  have H4 := Lib.hid (hwd.trans (hb4.mono hwd.size))
  clear hwd
  refine hK.out _ _ (SK.below hS hb4) (fun hS => ?_)
  clear hb4
  (try simp only [Act.put, List.setIfInBounds_toArray, List.set_cons_zero, List.set_cons_succ])
  refine one_ (i := 4) (N := (some 11)) #[true, true, true, true, true, false, true, true, true, true, true, false, false, false] rfl rfl (by kernel_rfl) (by decide) ?_
  intro K hK
  go_simp
  refine (open_any _ _ _ _ _ _ _ (Kd.C_below HR.out H4.out)).mono ?_
  rintro en w5 ⟨hb5, (⟨hv, his, g, rfl, hop⟩ | ⟨hv, rfl⟩ | ⟨hv, his, rfl⟩)⟩
  rotate_left
  · skip
    have HSW := SK.below hS hb5
    intro a' e4 e5 ed
    change Leaves Try.prog Try.f14 a'.tmps _ a'.defers (.panicking (refused 1)) _
    rw [ed]
    refine refused_leaves rec_Final (SK.blk HSW K5.out (by simp)) ?_
    intro w2 hb2 hg2
    obtain ⟨rfl, rfl⟩ := chase_Final.err HF.out (c := 1) (by simp [errOf, hv]) (by decide)
    exact ⟨_, results_num rfl (by rw [e4]; rfl) (by rw [e5]; rfl) (load_err hg2), rfl, (H4.out.trans (hb5.mono H4.out.size)).trans (hb2.mono (by omega))⟩
  · skip
    have HSW := SK.below hS hb5
    intro a' e4 e5 ed
    change Leaves Try.prog Try.f14 a'.tmps _ a'.defers (.panicking (refused 2)) _
    rw [ed]
    refine refused_leaves rec_Final (SK.blk HSW K5.out (by simp)) ?_
    intro w2 hb2 hg2
    obtain ⟨rfl, rfl⟩ := chase_Final.err HF.out (c := 2) (by simp [errOf, hv, his]) (by decide)
    exact ⟨_, results_num rfl (by rw [e4]; rfl) (by rw [e5]; rfl) (load_err hg2), rfl, (H4.out.trans (hb5.mono H4.out.size)).trans (hb2.mono (by omega))⟩
  have H5 := Lib.hid (H4.out.trans (hb5.mono H4.out.size))
  have HV := Lib.hid hv
  have HIS := Lib.hid his
  have HOP := Lib.hid hop
  refine hK.out _ _ (SK.below hS hb5) (fun hS => ?_)
  clear hb5 hv his hop
  (try simp only [Act.put, List.setIfInBounds_toArray, List.set_cons_zero, List.set_cons_succ])
  refine one_ (i := 5) (N := (some 12)) #[true, true, true, true, true, true, true, true, true, true, true, false, false, false] rfl rfl (by kernel_rfl) (by decide) ?_
  intro K hK
  go_simp
  refine (told_any _ HOP.out).mono ?_
  rintro en w6 ⟨hb6, (⟨hbad, rfl⟩ | ⟨hbad, rfl⟩)⟩
  rotate_left
  · skip
    have HSW := SK.below hS hb6
    intro a' e4 e5 ed
    change Leaves Try.prog Try.f14 a'.tmps _ a'.defers (.panicking (refused 10)) _
    rw [ed]
    refine refused_leaves rec_Final (SK.blk HSW K5.out (by simp)) ?_
    intro w2 hb2 hg2
    obtain ⟨rfl, rfl⟩ := chase_Final.err HF.out (c := 10) (by simp [errOf, HV.out, HIS.out, hbad]) (by decide)
    exact ⟨_, results_num rfl (by rw [e4]; rfl) (by rw [e5]; rfl) (load_err hg2), rfl, (H5.out.trans (hb6.mono H5.out.size)).trans (hb2.mono (by omega))⟩
  have H6 := Lib.hid (H5.out.trans (hb6.mono H5.out.size))
  have HOP6 := Lib.hid (HOP.out.below hb6)
  have HBAD := Lib.hid hbad
  refine hK.out _ _ (SK.below hS hb6) (fun hS => ?_)
  clear hb6 hbad
  (try simp only [Act.put, List.setIfInBounds_toArray, List.set_cons_zero, List.set_cons_succ])
  refine one_ (i := 11) (N := (some 18)) #[true, true, true, true, true, true, true, true, true, true, true, true, false, false] rfl rfl (by kernel_rfl) (by decide) ?_
  intro K hK
  obtain ⟨p, rfl, hp⟩ := isP_iff HIS.out
  obtain ⟨hn1, hn6, _⟩ := vld_len HV.out
  have hcl := clks_len a0_0 l0_2
  obtain ⟨ga, hm, hga⟩ := HOP6.out.mem (by omega)
  have HM := Lib.hid hm
  clear hm
  go_simp
  refine (ask_any w6 HM.out hga (by omega) (fun k hk => ⟨(clks_bd HV.out (by omega)).1, (clks_bd HV.out (by omega)).2.2.2⟩) (allOrders_mem (by omega)) (allOrders_len (by omega)) 76 123 _ (fun l => decide (l.getD p 0 < a0_1)) (fun n w => comes_meth n _ w) comes_ent
    (fun x hx w1 => comes_is (posOf x) (posTo_len _ _) p (by omega) a0_1 w1)).mono ?_
  rintro e' w7 ⟨rfl, hb7⟩
  have H7 := Lib.hid (H6.out.trans (hb7.mono H6.out.size))
  refine hK.out _ _ (SK.below hS hb7) (fun hS => ?_)
  clear hb7
  (try simp only [Act.put, List.setIfInBounds_toArray, List.set_cons_zero, List.set_cons_succ])
  refine one_ (i := 12) (N := (some 4)) #[true, true, true, true, true, true, true, true, true, true, true, true, true, false] rfl rfl (by kernel_rfl) (by decide) ?_
  intro K hK
  go_simp
  refine hK.out _ _ hS (fun hS => ?_)
  (try simp only [Act.put, List.setIfInBounds_toArray, List.set_cons_zero, List.set_cons_succ])
  refine last_ (i := 13) (N := none) #[true, true, true, true, true, true, true, true, true, true, true, true, true, true] rfl rfl (by kernel_rfl) (by decide) ?_
  intro K hK
  have k5 := SK.blk hS K5.out (by simp)
  have c0 := blk_nth k5 0 rfl
  have f0 := blk_frozen k5 0
  have KK5 := Lib.hid k5
  clear k5
  go_simp
  refine hK.out _ _ ?_
  clear c0 f0
  (try simp only [Act.put, List.setIfInBounds_toArray, List.set_cons_zero, List.set_cons_succ])
  refine done_ (by kernel_rfl) ?_
  simp only [Ins]
  go_wp2
  obtain ⟨rfl, rfl⟩ := chase_Final.ok HF.out (by simp [errOf, HV.out, HIS.out, HBAD.out])
  change Leaves Try.prog Try.f14 _ _ _ .returning _
  refine settled_leaves rec_Final (results_num rfl rfl rfl (load_err (blk_put KK5.out 0 _ rfl))) ⟨by simp [asked], ?_⟩
  exact H7.out.setCell (by simp) _
end Go.Proofs.Ytihfmphaajdhnaa.P
/-! Hand-made contracts of package chase: Meet. -/
namespace Go.Proofs.Ytihfmphaajdhnaa.P
open Go.RowKit Go.Proofs.YtihfmphaajdhnaaW.PrintWords Go.Proofs.YtihfmphaajdhnaaW.PrintLast Go.Proofs.YtihfmphaajdhnaaW.PrintMore
set_option linter.unusedVariables false
set_option linter.unusedSimpArgs false

theorem posTo_bd (x : List Int) (k : Nat) : ∀ j, 0 ≤ (posTo x k).getD j 0 ∧ (posTo x k).getD j 0 ≤ k := by
  induction k with
  | zero =>
    intro j
    have h : (posTo x 0).getD j 0 = 0 := by
      show (List.replicate 6 (0 : Int)).getD j 0 = 0
      rw [List.getD_eq_getElem?_getD, List.getElem?_replicate]
      split <;> rfl
    rw [h]
    exact ⟨Int.le_refl _, Int.le_refl _⟩
  | succ k ih =>
    intro j
    obtain ⟨h1, h2⟩ := ih j
    rw [posTo_succ, List.getD_eq_getElem?_getD, List.getElem?_set]
    rw [List.getD_eq_getElem?_getD] at h1 h2
    split
    · split
      · simp; omega
      · simp; omega
    · omega
theorem posOf_bd (x : List Int) (h : x.length ≤ 6) (j : Nat) : 0 ≤ (posOf x).getD j 0 ∧ (posOf x).getD j 0 ≤ 6 := by
  obtain ⟨h1, h2⟩ := posTo_bd x x.length j
  exact ⟨h1, by show (posTo x x.length).getD j 0 ≤ 6; omega⟩
def meetIs (ps : List (List Int)) (p q : Int) : Bool := isP ps p && isP ps q && !decide (p = q)
def chase_Meet.f (e f : Int) (ps : List (List Int)) (p q : Int) : Option (Int × Int) :=
  if errOf e f ps (meetIs ps p q) = 0 then some (asked (clks e ps) (fun l => decide (l.getD p.toNat 0 + l.getD q.toNat 0 = (ps.length : Int) - 1)), 0) else some (0, errOf e f ps (meetIs ps p q))
theorem chase_Meet.err {e f : Int} {ps : List (List Int)} {p q r1 r2 c : Int} (h : chase_Meet.f e f ps p q = some (r1, r2)) (he : errOf e f ps (meetIs ps p q) = c) (hc : c ≠ 0) : r1 = 0 ∧ r2 = c := by
  unfold chase_Meet.f at h
  rw [he, if_neg hc] at h
  simp only [Option.some.injEq, Prod.mk.injEq] at h
  exact ⟨h.1.symm, h.2.symm⟩
theorem chase_Meet.ok {e f : Int} {ps : List (List Int)} {p q r1 r2 : Int} (h : chase_Meet.f e f ps p q = some (r1, r2)) (he : errOf e f ps (meetIs ps p q) = 0) : r1 = asked (clks e ps) (fun l => decide (l.getD p.toNat 0 + l.getD q.toNat 0 = (ps.length : Int) - 1)) ∧ r2 = 0 := by
  unfold chase_Meet.f at h
  rw [if_pos he] at h
  simp only [Option.some.injEq, Prod.mk.injEq] at h
  exact ⟨h.1.symm, h.2.symm⟩

set_option maxHeartbeats 2000000 in
set_option maxRecDepth 100000 in
theorem chase_Meet.calls (a0_0 : Int) (a0_1 : Int) (A0_2 : Option Addr) (c0_2 : Nat) (l0_2 : List (List Int)) (a1 : Int) (a2 : Int) (r1 : Int) (r2 : Int) (w : World)
    (hr0_2 : Kd.C (Kd.slice 3 (Kd.int .i64)) w A0_2 l0_2.length l0_2) (hc0_2 : l0_2.length ≤ c0_2) (h : chase_Meet.f a0_0 a0_1 l0_2 a1 a2 = some (r1, r2)) :
    Calls Try.prog 17 #[.agg #[.int .i64 a0_0, .int .i64 a0_1, .slice A0_2 l0_2.length c0_2], .int .i64 a1, .int .i64 a2] w fun en w' =>
      en = .returned (.tuple #[.int .i64 r1, .int .i64 r2]) ∧ Below w.heap.size w w' := by
  have hmf : ∀ (fn : Fn) (first cap : Array Value) (w : World), (Instr.makeFunc fn first cap).run Try.prog w = .ok (.func fn first cap) w := fun _ _ _ _ => rfl
  have HR := Lib.hid hr0_2
  have HF := Lib.hid h
  clear hr0_2 h
  go_enter_defers Try.func17, Try.ntmps17
  go_wp2_with fail
  obtain ⟨w3, hw3, k2, k5, hB⟩ := two_boxes w #[.int .i64 a0_0, .int .i64 a0_1, .slice A0_2 l0_2.length c0_2] #[.int .i64 0] 32 27
  rw [← hw3]
  have K2 := Lib.hid k2
  have K5 := Lib.hid k5
  have HB := Lib.hid hB
  clear k2 k5 hB hw3
  refine wp_ins 6 7 ?_
  cases hp1 : isP l0_2 a1
  · have HP1 := Lib.hid hp1
    clear hp1
    refine start_ (n := 17) (ds := []) (S := fun W => SK w3 none W) #[false, false, false, false, false, false, false, false, false, false, false, false, false, false, false, false, false] (by kernel_rfl) rfl rfl (SK.drew (SK.refl _ _)) ?_
    intro hS
    obtain ⟨wd, hwd⟩ : ∃ wd, World.drew w3 = wd := ⟨_, rfl⟩
    rw [hwd] at hS ⊢
    have hbd : Below w3.heap.size w3 wd := hwd ▸ below_drew (Below.refl _ _)
    have HBD := Lib.hid hbd
    clear hbd hwd
    have H4 := Lib.hid (HB.out.trans (HBD.out.mono HB.out.size))
    refine take_ (i := 0) (N := (some 10)) (v := ?_) #[true, false, false, false, false, false, false, false, false, false, false, false, false, false, false, false, false] rfl rfl (by kernel_rfl) (ins_put (by decide) (by decide)) (Or.inl ⟨by rfl, ?_⟩) hS rfl ?_
    rotate_left
    · intro W hW; have q0 := SK.nth hW K2.out (by simp) 0 rfl; have q1 := SK.nth hW K2.out (by simp) 1 rfl; have q2 := SK.nth hW K2.out (by simp) 2 rfl; go_simp; with_reducible rfl
    simp only [Act.put, List.setIfInBounds_toArray, List.set_cons_zero, List.set_cons_succ]
    refine take_ (i := 1) (N := (some 11)) (v := ?_) #[true, true, false, false, false, false, false, false, false, false, false, false, false, false, false, false, false] rfl rfl (by kernel_rfl) (ins_put (by decide) (by decide)) (Or.inl ⟨by rfl, ?_⟩) hS rfl ?_
    rotate_left
    · intro W hW; have q0 := SK.nth hW K2.out (by simp) 0 rfl; have q1 := SK.nth hW K2.out (by simp) 1 rfl; have q2 := SK.nth hW K2.out (by simp) 2 rfl; go_simp; with_reducible rfl
    simp only [Act.put, List.setIfInBounds_toArray, List.set_cons_zero, List.set_cons_succ]
    refine take_ (i := 2) (N := (some 12)) (v := ?_) #[true, true, true, false, false, false, false, false, false, false, false, false, false, false, false, false, false] rfl rfl (by kernel_rfl) (ins_put (by decide) (by decide)) (Or.inl ⟨by rfl, ?_⟩) hS rfl ?_
    rotate_left
    · intro W hW; go_simp; with_reducible rfl
    simp only [Act.put, List.setIfInBounds_toArray, List.set_cons_zero, List.set_cons_succ]
    refine one_ (i := 3) (N := (some 13)) #[true, true, true, true, false, false, false, false, false, false, false, false, false, false, false, false, false] rfl rfl (by kernel_rfl) (by decide) ?_
    intro K hK
    go_simp
    refine (isPair_any _ _ _ _ _ _ _ (Kd.C_below HR.out H4.out) hc0_2).mono ?_
    rintro e' w4 ⟨rfl, hb4⟩
    rw [HP1.out]
    have H4 := Lib.hid (H4.out.trans (hb4.mono H4.out.size))
    refine hK.out _ _ (SK.below hS hb4) (fun hS => ?_)
    clear hb4
    (try simp only [Act.put, List.setIfInBounds_toArray, List.set_cons_zero, List.set_cons_succ])
    refine take_ (i := 4) (N := (some 14)) (v := ?_) #[true, true, true, true, true, false, false, false, false, false, false, false, false, false, false, false, false] rfl rfl (by kernel_rfl) (ins_put (by decide) (by decide)) (Or.inl ⟨by rfl, ?_⟩) hS rfl ?_
    rotate_left
    · intro W hW; go_simp; with_reducible rfl
    simp only [Act.put, List.setIfInBounds_toArray, List.set_cons_zero, List.set_cons_succ]
    refine take_ (i := 5) (N := (some 15)) (v := undef) #[true, true, true, true, true, true, false, false, false, false, false, false, false, false, false, false, false] rfl rfl (by kernel_rfl) (ins_put (by decide) (by decide)) (Or.inr ⟨by rfl, rfl⟩) hS rfl ?_
    simp only [Act.put, List.setIfInBounds_toArray, List.set_cons_zero, List.set_cons_succ]
    refine take_ (i := 6) (N := (some 16)) (v := undef) #[true, true, true, true, true, true, true, false, false, false, false, false, false, false, false, false, false] rfl rfl (by kernel_rfl) (ins_put (by decide) (by decide)) (Or.inr ⟨by rfl, rfl⟩) hS rfl ?_
    simp only [Act.put, List.setIfInBounds_toArray, List.set_cons_zero, List.set_cons_succ]
    refine take_ (i := 7) (N := (some 17)) (v := undef) #[true, true, true, true, true, true, true, true, false, false, false, false, false, false, false, false, false] rfl rfl (by kernel_rfl) (ins_put (by decide) (by decide)) (Or.inr ⟨by rfl, rfl⟩) hS rfl ?_
    simp only [Act.put, List.setIfInBounds_toArray, List.set_cons_zero, List.set_cons_succ]
    refine take_ (i := 8) (N := (some 18)) (v := ?_) #[true, true, true, true, true, true, true, true, true, false, false, false, false, false, false, false, false] rfl rfl (by kernel_rfl) (ins_put (by decide) (by decide)) (Or.inl ⟨by rfl, ?_⟩) hS rfl ?_
    rotate_left
    · intro W hW; go_simp; with_reducible rfl
    simp only [Act.put, List.setIfInBounds_toArray, List.set_cons_zero, List.set_cons_succ]
    refine take_ (i := 9) (N := (some 19)) (v := ?_) #[true, true, true, true, true, true, true, true, true, true, false, false, false, false, false, false, false] rfl rfl (by kernel_rfl) (ins_put (by decide) (by decide)) (Or.inl ⟨by rfl, ?_⟩) hS rfl ?_
    rotate_left
    · intro W hW; go_simp; with_reducible rfl
    simp only [Act.put, List.setIfInBounds_toArray, List.set_cons_zero, List.set_cons_succ]
    refine take_ (i := 10) (N := (some 20)) (v := undef) #[true, true, true, true, true, true, true, true, true, true, true, false, false, false, false, false, false] rfl rfl (by kernel_rfl) (ins_put (by decide) (by decide)) (Or.inr ⟨by rfl, rfl⟩) hS rfl ?_
    simp only [Act.put, List.setIfInBounds_toArray, List.set_cons_zero, List.set_cons_succ]
    refine take_ (i := 11) (N := (some 21)) (v := undef) #[true, true, true, true, true, true, true, true, true, true, true, true, false, false, false, false, false] rfl rfl (by kernel_rfl) (ins_put (by decide) (by decide)) (Or.inr ⟨by rfl, rfl⟩) hS rfl ?_
    simp only [Act.put, List.setIfInBounds_toArray, List.set_cons_zero, List.set_cons_succ]
    refine take_ (i := 12) (N := (some 22)) (v := undef) #[true, true, true, true, true, true, true, true, true, true, true, true, true, false, false, false, false] rfl rfl (by kernel_rfl) (ins_put (by decide) (by decide)) (Or.inr ⟨by rfl, rfl⟩) hS rfl ?_
    simp only [Act.put, List.setIfInBounds_toArray, List.set_cons_zero, List.set_cons_succ]
    refine take_ (i := 13) (N := (some 23)) (v := ?_) #[true, true, true, true, true, true, true, true, true, true, true, true, true, true, false, false, false] rfl rfl (by kernel_rfl) (ins_put (by decide) (by decide)) (Or.inl ⟨by rfl, ?_⟩) hS rfl ?_
    rotate_left
    · intro W hW; go_simp; with_reducible rfl
    simp only [Act.put, List.setIfInBounds_toArray, List.set_cons_zero, List.set_cons_succ]
    refine one_ (i := 14) (N := (some 24)) #[true, true, true, true, true, true, true, true, true, true, true, true, true, true, true, false, false] rfl rfl (by kernel_rfl) (by decide) ?_
    intro K hK
    go_simp
    refine (open_any _ _ _ _ _ _ _ (Kd.C_below HR.out H4.out)).mono ?_
    rintro en w5 ⟨hb5, (⟨hv, his, g, rfl, hop⟩ | ⟨hv, rfl⟩ | ⟨hv, his, rfl⟩)⟩
    rotate_left
    · skip
      have HSW := SK.below hS hb5
      intro a' e4 e5 ed
      change Leaves Try.prog Try.f17 a'.tmps _ a'.defers (.panicking (refused 1)) _
      rw [ed]
      refine refused_leaves rec_Meet (SK.blk HSW K5.out (by simp)) ?_
      intro w2 hb2 hg2
      obtain ⟨rfl, rfl⟩ := chase_Meet.err HF.out (c := 1) (by simp [errOf, meetIs, HP1.out, hv]) (by decide)
      exact ⟨_, results_num rfl (by rw [e4]; rfl) (by rw [e5]; rfl) (load_err hg2), rfl, (H4.out.trans (hb5.mono H4.out.size)).trans (hb2.mono (by omega))⟩
    · skip
      have HSW := SK.below hS hb5
      (try simp at his)
      intro a' e4 e5 ed
      change Leaves Try.prog Try.f17 a'.tmps _ a'.defers (.panicking (refused 2)) _
      rw [ed]
      refine refused_leaves rec_Meet (SK.blk HSW K5.out (by simp)) ?_
      intro w2 hb2 hg2
      obtain ⟨rfl, rfl⟩ := chase_Meet.err HF.out (c := 2) (by simp [errOf, meetIs, HP1.out, hv, his, HP1.out]) (by decide)
      exact ⟨_, results_num rfl (by rw [e4]; rfl) (by rw [e5]; rfl) (load_err hg2), rfl, (H4.out.trans (hb5.mono H4.out.size)).trans (hb2.mono (by omega))⟩
    cases his
  have HP1 := Lib.hid hp1
  clear hp1
  cases hp2 : isP l0_2 a2
  · have HP2 := Lib.hid hp2
    clear hp2
    refine start_ (n := 17) (ds := []) (S := fun W => SK w3 none W) #[false, false, false, false, false, false, false, false, false, false, false, false, false, false, false, false, false] (by kernel_rfl) rfl rfl (SK.drew (SK.refl _ _)) ?_
    intro hS
    obtain ⟨wd, hwd⟩ : ∃ wd, World.drew w3 = wd := ⟨_, rfl⟩
    rw [hwd] at hS ⊢
    have hbd : Below w3.heap.size w3 wd := hwd ▸ below_drew (Below.refl _ _)
    have HBD := Lib.hid hbd
    clear hbd hwd
    have H4 := Lib.hid (HB.out.trans (HBD.out.mono HB.out.size))
    refine take_ (i := 0) (N := (some 10)) (v := ?_) #[true, false, false, false, false, false, false, false, false, false, false, false, false, false, false, false, false] rfl rfl (by kernel_rfl) (ins_put (by decide) (by decide)) (Or.inl ⟨by rfl, ?_⟩) hS rfl ?_
    rotate_left
    · intro W hW; have q0 := SK.nth hW K2.out (by simp) 0 rfl; have q1 := SK.nth hW K2.out (by simp) 1 rfl; have q2 := SK.nth hW K2.out (by simp) 2 rfl; go_simp; with_reducible rfl
    simp only [Act.put, List.setIfInBounds_toArray, List.set_cons_zero, List.set_cons_succ]
    refine take_ (i := 1) (N := (some 11)) (v := ?_) #[true, true, false, false, false, false, false, false, false, false, false, false, false, false, false, false, false] rfl rfl (by kernel_rfl) (ins_put (by decide) (by decide)) (Or.inl ⟨by rfl, ?_⟩) hS rfl ?_
    rotate_left
    · intro W hW; have q0 := SK.nth hW K2.out (by simp) 0 rfl; have q1 := SK.nth hW K2.out (by simp) 1 rfl; have q2 := SK.nth hW K2.out (by simp) 2 rfl; go_simp; with_reducible rfl
    simp only [Act.put, List.setIfInBounds_toArray, List.set_cons_zero, List.set_cons_succ]
    refine take_ (i := 2) (N := (some 12)) (v := ?_) #[true, true, true, false, false, false, false, false, false, false, false, false, false, false, false, false, false] rfl rfl (by kernel_rfl) (ins_put (by decide) (by decide)) (Or.inl ⟨by rfl, ?_⟩) hS rfl ?_
    rotate_left
    · intro W hW; go_simp; with_reducible rfl
    simp only [Act.put, List.setIfInBounds_toArray, List.set_cons_zero, List.set_cons_succ]
    refine one_ (i := 3) (N := (some 13)) #[true, true, true, true, false, false, false, false, false, false, false, false, false, false, false, false, false] rfl rfl (by kernel_rfl) (by decide) ?_
    intro K hK
    go_simp
    refine (isPair_any _ _ _ _ _ _ _ (Kd.C_below HR.out H4.out) hc0_2).mono ?_
    rintro e' w4 ⟨rfl, hb4⟩
    rw [HP1.out]
    have H4 := Lib.hid (H4.out.trans (hb4.mono H4.out.size))
    refine hK.out _ _ (SK.below hS hb4) (fun hS => ?_)
    clear hb4
    (try simp only [Act.put, List.setIfInBounds_toArray, List.set_cons_zero, List.set_cons_succ])
    refine take_ (i := 4) (N := (some 14)) (v := ?_) #[true, true, true, true, true, false, false, false, false, false, false, false, false, false, false, false, false] rfl rfl (by kernel_rfl) (ins_put (by decide) (by decide)) (Or.inl ⟨by rfl, ?_⟩) hS rfl ?_
    rotate_left
    · intro W hW; go_simp; with_reducible rfl
    simp only [Act.put, List.setIfInBounds_toArray, List.set_cons_zero, List.set_cons_succ]
    refine take_ (i := 5) (N := (some 15)) (v := ?_) #[true, true, true, true, true, true, false, false, false, false, false, false, false, false, false, false, false] rfl rfl (by kernel_rfl) (ins_put (by decide) (by decide)) (Or.inl ⟨by rfl, ?_⟩) hS rfl ?_
    rotate_left
    · intro W hW; have q0 := SK.nth hW K2.out (by simp) 0 rfl; have q1 := SK.nth hW K2.out (by simp) 1 rfl; have q2 := SK.nth hW K2.out (by simp) 2 rfl; go_simp; with_reducible rfl
    simp only [Act.put, List.setIfInBounds_toArray, List.set_cons_zero, List.set_cons_succ]
    refine take_ (i := 6) (N := (some 16)) (v := ?_) #[true, true, true, true, true, true, true, false, false, false, false, false, false, false, false, false, false] rfl rfl (by kernel_rfl) (ins_put (by decide) (by decide)) (Or.inl ⟨by rfl, ?_⟩) hS rfl ?_
    rotate_left
    · intro W hW; go_simp; with_reducible rfl
    simp only [Act.put, List.setIfInBounds_toArray, List.set_cons_zero, List.set_cons_succ]
    refine one_ (i := 7) (N := (some 17)) #[true, true, true, true, true, true, true, true, false, false, false, false, false, false, false, false, false] rfl rfl (by kernel_rfl) (by decide) ?_
    intro K hK
    go_simp
    refine (isPair_any _ _ _ _ _ _ _ (Kd.C_below HR.out H4.out) hc0_2).mono ?_
    rintro e' w4 ⟨rfl, hb4⟩
    rw [HP2.out]
    have H4 := Lib.hid (H4.out.trans (hb4.mono H4.out.size))
    refine hK.out _ _ (SK.below hS hb4) (fun hS => ?_)
    clear hb4
    (try simp only [Act.put, List.setIfInBounds_toArray, List.set_cons_zero, List.set_cons_succ])
    refine take_ (i := 8) (N := (some 18)) (v := ?_) #[true, true, true, true, true, true, true, true, true, false, false, false, false, false, false, false, false] rfl rfl (by kernel_rfl) (ins_put (by decide) (by decide)) (Or.inl ⟨by rfl, ?_⟩) hS rfl ?_
    rotate_left
    · intro W hW; go_simp; with_reducible rfl
    simp only [Act.put, List.setIfInBounds_toArray, List.set_cons_zero, List.set_cons_succ]
    refine take_ (i := 9) (N := (some 19)) (v := ?_) #[true, true, true, true, true, true, true, true, true, true, false, false, false, false, false, false, false] rfl rfl (by kernel_rfl) (ins_put (by decide) (by decide)) (Or.inl ⟨by rfl, ?_⟩) hS rfl ?_
    rotate_left
    · intro W hW; go_simp; with_reducible rfl
    simp only [Act.put, List.setIfInBounds_toArray, List.set_cons_zero, List.set_cons_succ]
    refine take_ (i := 10) (N := (some 20)) (v := undef) #[true, true, true, true, true, true, true, true, true, true, true, false, false, false, false, false, false] rfl rfl (by kernel_rfl) (ins_put (by decide) (by decide)) (Or.inr ⟨by rfl, rfl⟩) hS rfl ?_
    simp only [Act.put, List.setIfInBounds_toArray, List.set_cons_zero, List.set_cons_succ]
    refine take_ (i := 11) (N := (some 21)) (v := undef) #[true, true, true, true, true, true, true, true, true, true, true, true, false, false, false, false, false] rfl rfl (by kernel_rfl) (ins_put (by decide) (by decide)) (Or.inr ⟨by rfl, rfl⟩) hS rfl ?_
    simp only [Act.put, List.setIfInBounds_toArray, List.set_cons_zero, List.set_cons_succ]
    refine take_ (i := 12) (N := (some 22)) (v := undef) #[true, true, true, true, true, true, true, true, true, true, true, true, true, false, false, false, false] rfl rfl (by kernel_rfl) (ins_put (by decide) (by decide)) (Or.inr ⟨by rfl, rfl⟩) hS rfl ?_
    simp only [Act.put, List.setIfInBounds_toArray, List.set_cons_zero, List.set_cons_succ]
    refine take_ (i := 13) (N := (some 23)) (v := ?_) #[true, true, true, true, true, true, true, true, true, true, true, true, true, true, false, false, false] rfl rfl (by kernel_rfl) (ins_put (by decide) (by decide)) (Or.inl ⟨by rfl, ?_⟩) hS rfl ?_
    rotate_left
    · intro W hW; go_simp; with_reducible rfl
    simp only [Act.put, List.setIfInBounds_toArray, List.set_cons_zero, List.set_cons_succ]
    refine one_ (i := 14) (N := (some 24)) #[true, true, true, true, true, true, true, true, true, true, true, true, true, true, true, false, false] rfl rfl (by kernel_rfl) (by decide) ?_
    intro K hK
    go_simp
    refine (open_any _ _ _ _ _ _ _ (Kd.C_below HR.out H4.out)).mono ?_
    rintro en w5 ⟨hb5, (⟨hv, his, g, rfl, hop⟩ | ⟨hv, rfl⟩ | ⟨hv, his, rfl⟩)⟩
    rotate_left
    · skip
      have HSW := SK.below hS hb5
      intro a' e4 e5 ed
      change Leaves Try.prog Try.f17 a'.tmps _ a'.defers (.panicking (refused 1)) _
      rw [ed]
      refine refused_leaves rec_Meet (SK.blk HSW K5.out (by simp)) ?_
      intro w2 hb2 hg2
      obtain ⟨rfl, rfl⟩ := chase_Meet.err HF.out (c := 1) (by simp [errOf, meetIs, HP1.out, hv]) (by decide)
      exact ⟨_, results_num rfl (by rw [e4]; rfl) (by rw [e5]; rfl) (load_err hg2), rfl, (H4.out.trans (hb5.mono H4.out.size)).trans (hb2.mono (by omega))⟩
    · skip
      have HSW := SK.below hS hb5
      (try simp at his)
      intro a' e4 e5 ed
      change Leaves Try.prog Try.f17 a'.tmps _ a'.defers (.panicking (refused 2)) _
      rw [ed]
      refine refused_leaves rec_Meet (SK.blk HSW K5.out (by simp)) ?_
      intro w2 hb2 hg2
      obtain ⟨rfl, rfl⟩ := chase_Meet.err HF.out (c := 2) (by simp [errOf, meetIs, HP1.out, hv, his, HP2.out]) (by decide)
      exact ⟨_, results_num rfl (by rw [e4]; rfl) (by rw [e5]; rfl) (load_err hg2), rfl, (H4.out.trans (hb5.mono H4.out.size)).trans (hb2.mono (by omega))⟩
    cases his
  have HP2 := Lib.hid hp2
  clear hp2
  obtain ⟨bn, hbn⟩ : ∃ b : Bool, b = !decide (a1 = a2) := ⟨_, rfl⟩
  have HBN := Lib.hid hbn
  refine start_ (n := 17) (ds := []) (S := fun W => SK w3 none W) #[false, false, false, false, false, false, false, false, false, false, false, false, false, false, false, false, false] (by kernel_rfl) rfl rfl (SK.drew (SK.refl _ _)) ?_
  intro hS
  obtain ⟨wd, hwd⟩ : ∃ wd, World.drew w3 = wd := ⟨_, rfl⟩
  rw [hwd] at hS ⊢
  have hbd : Below w3.heap.size w3 wd := hwd ▸ below_drew (Below.refl _ _)
  have HBD := Lib.hid hbd
  clear hbd hwd
  have H4 := Lib.hid (HB.out.trans (HBD.out.mono HB.out.size))
  refine take_ (i := 0) (N := (some 10)) (v := ?_) #[true, false, false, false, false, false, false, false, false, false, false, false, false, false, false, false, false] rfl rfl (by kernel_rfl) (ins_put (by decide) (by decide)) (Or.inl ⟨by rfl, ?_⟩) hS rfl ?_
  rotate_left
  · intro W hW; have q0 := SK.nth hW K2.out (by simp) 0 rfl; have q1 := SK.nth hW K2.out (by simp) 1 rfl; have q2 := SK.nth hW K2.out (by simp) 2 rfl; go_simp; with_reducible rfl
  simp only [Act.put, List.setIfInBounds_toArray, List.set_cons_zero, List.set_cons_succ]
  refine take_ (i := 1) (N := (some 11)) (v := ?_) #[true, true, false, false, false, false, false, false, false, false, false, false, false, false, false, false, false] rfl rfl (by kernel_rfl) (ins_put (by decide) (by decide)) (Or.inl ⟨by rfl, ?_⟩) hS rfl ?_
  rotate_left
  · intro W hW; have q0 := SK.nth hW K2.out (by simp) 0 rfl; have q1 := SK.nth hW K2.out (by simp) 1 rfl; have q2 := SK.nth hW K2.out (by simp) 2 rfl; go_simp; with_reducible rfl
  simp only [Act.put, List.setIfInBounds_toArray, List.set_cons_zero, List.set_cons_succ]
  refine take_ (i := 2) (N := (some 12)) (v := ?_) #[true, true, true, false, false, false, false, false, false, false, false, false, false, false, false, false, false] rfl rfl (by kernel_rfl) (ins_put (by decide) (by decide)) (Or.inl ⟨by rfl, ?_⟩) hS rfl ?_
  rotate_left
  · intro W hW; go_simp; with_reducible rfl
  simp only [Act.put, List.setIfInBounds_toArray, List.set_cons_zero, List.set_cons_succ]
  refine one_ (i := 3) (N := (some 13)) #[true, true, true, true, false, false, false, false, false, false, false, false, false, false, false, false, false] rfl rfl (by kernel_rfl) (by decide) ?_
  intro K hK
  go_simp
  refine (isPair_any _ _ _ _ _ _ _ (Kd.C_below HR.out H4.out) hc0_2).mono ?_
  rintro e' w4 ⟨rfl, hb4⟩
  rw [HP1.out]
  have H4 := Lib.hid (H4.out.trans (hb4.mono H4.out.size))
  refine hK.out _ _ (SK.below hS hb4) (fun hS => ?_)
  clear hb4
  (try simp only [Act.put, List.setIfInBounds_toArray, List.set_cons_zero, List.set_cons_succ])
  refine take_ (i := 4) (N := (some 14)) (v := ?_) #[true, true, true, true, true, false, false, false, false, false, false, false, false, false, false, false, false] rfl rfl (by kernel_rfl) (ins_put (by decide) (by decide)) (Or.inl ⟨by rfl, ?_⟩) hS rfl ?_
  rotate_left
  · intro W hW; go_simp; with_reducible rfl
  simp only [Act.put, List.setIfInBounds_toArray, List.set_cons_zero, List.set_cons_succ]
  refine take_ (i := 5) (N := (some 15)) (v := ?_) #[true, true, true, true, true, true, false, false, false, false, false, false, false, false, false, false, false] rfl rfl (by kernel_rfl) (ins_put (by decide) (by decide)) (Or.inl ⟨by rfl, ?_⟩) hS rfl ?_
  rotate_left
  · intro W hW; have q0 := SK.nth hW K2.out (by simp) 0 rfl; have q1 := SK.nth hW K2.out (by simp) 1 rfl; have q2 := SK.nth hW K2.out (by simp) 2 rfl; go_simp; with_reducible rfl
  simp only [Act.put, List.setIfInBounds_toArray, List.set_cons_zero, List.set_cons_succ]
  refine take_ (i := 6) (N := (some 16)) (v := ?_) #[true, true, true, true, true, true, true, false, false, false, false, false, false, false, false, false, false] rfl rfl (by kernel_rfl) (ins_put (by decide) (by decide)) (Or.inl ⟨by rfl, ?_⟩) hS rfl ?_
  rotate_left
  · intro W hW; go_simp; with_reducible rfl
  simp only [Act.put, List.setIfInBounds_toArray, List.set_cons_zero, List.set_cons_succ]
  refine one_ (i := 7) (N := (some 17)) #[true, true, true, true, true, true, true, true, false, false, false, false, false, false, false, false, false] rfl rfl (by kernel_rfl) (by decide) ?_
  intro K hK
  go_simp
  refine (isPair_any _ _ _ _ _ _ _ (Kd.C_below HR.out H4.out) hc0_2).mono ?_
  rintro e' w4 ⟨rfl, hb4⟩
  rw [HP2.out]
  have H4 := Lib.hid (H4.out.trans (hb4.mono H4.out.size))
  refine hK.out _ _ (SK.below hS hb4) (fun hS => ?_)
  clear hb4
  (try simp only [Act.put, List.setIfInBounds_toArray, List.set_cons_zero, List.set_cons_succ])
  refine take_ (i := 8) (N := (some 18)) (v := ?_) #[true, true, true, true, true, true, true, true, true, false, false, false, false, false, false, false, false] rfl rfl (by kernel_rfl) (ins_put (by decide) (by decide)) (Or.inl ⟨by rfl, ?_⟩) hS rfl ?_
  rotate_left
  · intro W hW; go_simp; with_reducible rfl
  simp only [Act.put, List.setIfInBounds_toArray, List.set_cons_zero, List.set_cons_succ]
  refine take_ (i := 9) (N := (some 19)) (v := ?_) #[true, true, true, true, true, true, true, true, true, true, false, false, false, false, false, false, false] rfl rfl (by kernel_rfl) (ins_put (by decide) (by decide)) (Or.inl ⟨by rfl, ?_⟩) hS rfl ?_
  rotate_left
  · intro W hW; go_simp; with_reducible rfl
  simp only [Act.put, List.setIfInBounds_toArray, List.set_cons_zero, List.set_cons_succ]
  refine take_ (i := 10) (N := (some 20)) (v := ?_) #[true, true, true, true, true, true, true, true, true, true, true, false, false, false, false, false, false] rfl rfl (by kernel_rfl) (ins_put (by decide) (by decide)) (Or.inl ⟨by rfl, ?_⟩) hS rfl ?_
  rotate_left
  · intro W hW; go_simp; with_reducible rfl
  simp only [Act.put, List.setIfInBounds_toArray, List.set_cons_zero, List.set_cons_succ]
  refine take_ (i := 11) (N := (some 21)) (v := ?_) #[true, true, true, true, true, true, true, true, true, true, true, true, false, false, false, false, false] rfl rfl (by kernel_rfl) (ins_put (by decide) (by decide)) (Or.inl ⟨by rfl, ?_⟩) hS rfl ?_
  rotate_left
  · intro W hW; go_simp; with_reducible rfl
  simp only [Act.put, List.setIfInBounds_toArray, List.set_cons_zero, List.set_cons_succ]
  refine take_ (i := 12) (N := (some 22)) (v := ?_) #[true, true, true, true, true, true, true, true, true, true, true, true, true, false, false, false, false] rfl rfl (by kernel_rfl) (ins_put (by decide) (by decide)) (Or.inl ⟨by rfl, ?_⟩) hS rfl ?_
  rotate_left
  · intro W hW; go_simp; with_reducible rfl
  simp only [Act.put, List.setIfInBounds_toArray, List.set_cons_zero, List.set_cons_succ]
  refine take_ (i := 13) (N := (some 23)) (v := ?_) #[true, true, true, true, true, true, true, true, true, true, true, true, true, true, false, false, false] rfl rfl (by kernel_rfl) (ins_put (by decide) (by decide)) (Or.inl ⟨by rfl, ?_⟩) hS rfl ?_
  rotate_left
  · intro W hW; go_simp; with_reducible rfl
  simp only [Act.put, List.setIfInBounds_toArray, List.set_cons_zero, List.set_cons_succ]
  refine one_ (i := 14) (N := (some 24)) #[true, true, true, true, true, true, true, true, true, true, true, true, true, true, true, false, false] rfl rfl (by kernel_rfl) (by decide) ?_
  intro K hK
  go_simp
  refine (open_any _ _ _ _ _ _ _ (Kd.C_below HR.out H4.out)).mono ?_
  rintro en w5 ⟨hb5, (⟨hv, his, g, rfl, hop⟩ | ⟨hv, rfl⟩ | ⟨hv, his, rfl⟩)⟩
  rotate_left
  · skip
    have HSW := SK.below hS hb5
    intro a' e4 e5 ed
    change Leaves Try.prog Try.f17 a'.tmps _ a'.defers (.panicking (refused 1)) _
    rw [ed]
    refine refused_leaves rec_Meet (SK.blk HSW K5.out (by simp)) ?_
    intro w2 hb2 hg2
    obtain ⟨rfl, rfl⟩ := chase_Meet.err HF.out (c := 1) (by simp [errOf, meetIs, HP1.out, hv]) (by decide)
    exact ⟨_, results_num rfl (by rw [e4]; rfl) (by rw [e5]; rfl) (load_err hg2), rfl, (H4.out.trans (hb5.mono H4.out.size)).trans (hb2.mono (by omega))⟩
  · skip
    have HSW := SK.below hS hb5
    (try simp at his)
    intro a' e4 e5 ed
    change Leaves Try.prog Try.f17 a'.tmps _ a'.defers (.panicking (refused 2)) _
    rw [ed]
    refine refused_leaves rec_Meet (SK.blk HSW K5.out (by simp)) ?_
    intro w2 hb2 hg2
    obtain ⟨rfl, rfl⟩ := chase_Meet.err HF.out (c := 2) (by simp [errOf, meetIs, HP1.out, hv, his, HP2.out]) (by decide)
    exact ⟨_, results_num rfl (by rw [e4]; rfl) (by rw [e5]; rfl) (load_err hg2), rfl, (H4.out.trans (hb5.mono H4.out.size)).trans (hb2.mono (by omega))⟩
  have hmi : meetIs l0_2 a1 a2 = true := by simpa [meetIs, HP1.out, HP2.out] using his
  have H5 := Lib.hid (H4.out.trans (hb5.mono H4.out.size))
  have HV := Lib.hid hv
  have HIS := Lib.hid hmi
  have HOP := Lib.hid hop
  refine hK.out _ _ (SK.below hS hb5) (fun hS => ?_)
  clear hb5 hv his hop hmi
  (try simp only [Act.put, List.setIfInBounds_toArray, List.set_cons_zero, List.set_cons_succ])
  refine one_ (i := 15) (N := (some 25)) #[true, true, true, true, true, true, true, true, true, true, true, true, true, true, true, true, false] rfl rfl (by kernel_rfl) (by decide) ?_
  intro K hK
  go_simp
  refine (told_any _ HOP.out).mono ?_
  rintro en w6 ⟨hb6, (⟨hbad, rfl⟩ | ⟨hbad, rfl⟩)⟩
  rotate_left
  · skip
    have HSW := SK.below hS hb6
    intro a' e4 e5 ed
    change Leaves Try.prog Try.f17 a'.tmps _ a'.defers (.panicking (refused 10)) _
    rw [ed]
    refine refused_leaves rec_Meet (SK.blk HSW K5.out (by simp)) ?_
    intro w2 hb2 hg2
    obtain ⟨rfl, rfl⟩ := chase_Meet.err HF.out (c := 10) (by simp [errOf, HV.out, HIS.out, hbad]) (by decide)
    exact ⟨_, results_num rfl (by rw [e4]; rfl) (by rw [e5]; rfl) (load_err hg2), rfl, (H5.out.trans (hb6.mono H5.out.size)).trans (hb2.mono (by omega))⟩
  have H6 := Lib.hid (H5.out.trans (hb6.mono H5.out.size))
  have HOP6 := Lib.hid (HOP.out.below hb6)
  have HBAD := Lib.hid hbad
  refine hK.out _ _ (SK.below hS hb6) (fun hS => ?_)
  clear hb6 hbad
  (try simp only [Act.put, List.setIfInBounds_toArray, List.set_cons_zero, List.set_cons_succ])
  refine take_ (i := 16) (N := (some 8)) (v := ?_) #[true, true, true, true, true, true, true, true, true, true, true, true, true, true, true, true, true] rfl rfl (by kernel_rfl) (ins_put (by decide) (by decide)) (Or.inl ⟨by rfl, ?_⟩) hS rfl ?_
  rotate_left
  · intro W hW; go_simp; with_reducible rfl
  simp only [Act.put, List.setIfInBounds_toArray, List.set_cons_zero, List.set_cons_succ]
  refine done_ (by kernel_rfl) ?_
  simp only [Ins]
  have K56 := Lib.hid (SK.blk hS K5.out (by simp))
  have hmi := HIS.out
  unfold meetIs at hmi
  rw [HP1.out, HP2.out] at hmi
  have hne : a1 ≠ a2 := by simpa using hmi
  obtain ⟨p, rfl, hp⟩ := isP_iff HP1.out
  obtain ⟨q, rfl, hq⟩ := isP_iff HP2.out
  obtain ⟨hn1, hn6, _⟩ := vld_len HV.out
  have hcl := clks_len a0_0 l0_2
  obtain ⟨ga, hm, hga⟩ := HOP6.out.mem (by omega)
  obtain ⟨vc, hgc, _, hvc⟩ := HOP6.out
  obtain ⟨Av, cv, rfl, hlc, hC⟩ := Kd.R_reads hvc
  have c3 := blk_nth hgc 3 rfl
  have HM := Lib.hid hm
  clear hm hgc hvc hC hmi hbn
  go_wp2_with fail
  refine (ask_any w6 HM.out hga (by omega) (fun k hk => ⟨(clks_bd HV.out (by omega)).1, (clks_bd HV.out (by omega)).2.2.2⟩) (allOrders_mem (by omega)) (allOrders_len (by omega)) 84 124 _ (fun l => decide (l.getD p 0 + l.getD q 0 = (l0_2.length : Int) - 1)) (fun n w => meets_meth n _ w) meets_ent
    (fun x hx w1 => meets_is (posOf x) (posTo_len _ _) (fun j _ => posOf_bd x (allOrders_mem (by omega) x hx).1 j) p q (by omega) (by omega) l0_2.length (by omega) w1)).mono ?_
  rintro e' w7 ⟨rfl, hb7⟩
  have H7 := Lib.hid (H6.out.trans (hb7.mono H6.out.size))
  have k5 := blk_below K56.out hb7
  have c0 := blk_nth k5 0 rfl
  have f0 := blk_frozen k5 0
  have KK5 := Lib.hid k5
  clear k5 c3
  go_wp2
  obtain ⟨rfl, rfl⟩ := chase_Meet.ok HF.out (by simp [errOf, HV.out, HIS.out, HBAD.out])
  change Leaves Try.prog Try.f17 _ _ _ .returning _
  refine settled_leaves rec_Meet (results_num rfl rfl rfl (load_err (blk_put KK5.out 0 _ rfl))) ⟨by simp [asked], ?_⟩
  exact H7.out.setCell (by simp) _
end Go.Proofs.Ytihfmphaajdhnaa.P
