import Derived.Test.YtbnmhfglkbkbnaaPFnQueuesx0
import Derived.Test.YtbnmhfglkbkbnaaPFnQueuesx1
import Derived.Test.YtbnmhfglkbkbnaaPFnQueuesx2
import Derived.Test.YtbnmhfglkbkbnaaPFnQueuesx3
namespace Go.Proofs.Ytbnmhfglkbkbnaa.PFnQueues
open Go.RowKit Go.Proofs.YtbnmhfglkbkbnaaW.PrintWords Go.Proofs.YtbnmhfglkbkbnaaW.PrintLast Go.Proofs.YtbnmhfglkbkbnaaW.PrintMore
attribute [local go_sem] max2_int min2_int max_two min_two max_three min_three max_four min_four   -- for this text's walks alone
set_option linter.unusedVariables false
set_option linter.unusedSimpArgs false

/-! ### laws_FnQueues: function 12 -/
mutual
def laws_FnQueues.l0 : Nat → List Int → Int → Int → Int → Int → Int → Int → Int → List (S114) → Option (Bool)
  | 0, _, _, _, _, _, _, _, _, _ => none
  | k + 1, x3, x6, x7, x183000, x183001, x183002, x183003, x183004, x184000 => if x7 < 8 then (if 0 ≤ x7 then (if x7 < (x3.length : Int) then ((impl_SendPort.f k x183000 x183001 x183002 x183003 x183004 x184000 (rd x3 x7) x7).bind fun bt185 => (if ((bt185.2 == 0) != (decide (x7 < x183003))) = true then (laws_FnQueues.j1 k x3 x6 x7 bt185.2 true x183000 x183001 x183002 x183003 x183004 bt185.1) else (if bt185.2 = 0 then (laws_FnQueues.j1 k x3 x6 x7 bt185.2 false x183000 x183001 x183002 x183003 x183004 bt185.1) else (laws_FnQueues.j1 k x3 x6 x7 bt185.2 (bt185.2 != 1) x183000 x183001 x183002 x183003 x183004 bt185.1)))) else (none)) else (none)) else (laws_FnQueues.l1 k x3 x6 0 x183000 x183001 x183002 x183003 x183004 x184000)
def laws_FnQueues.j1 : Nat → List Int → Int → Int → Int → Bool → Int → Int → Int → Int → Int → List (S114) → Option (Bool)
  | 0, _, _, _, _, _, _, _, _, _, _, _ => none
  | k + 1, x3, x6, x7, x9, x57, x183000, x183001, x183002, x183003, x183004, x190000 => if x57 = true then (some false) else (if x9 = 0 then (laws_FnQueues.l0 k x3 (wrap64 (x6 + 1)) (wrap64 (x7 + 1)) x183000 x183001 x183002 x183003 x183004 x190000) else (laws_FnQueues.l0 k x3 x6 (wrap64 (x7 + 1)) x183000 x183001 x183002 x183003 x183004 x190000))
def laws_FnQueues.l1 : Nat → List Int → Int → Int → Int → Int → Int → Int → Int → List (S114) → Option (Bool)
  | 0, _, _, _, _, _, _, _, _, _ => none
  | k + 1, x3, x6, x10, x183000, x183001, x183002, x183003, x183004, x184000 => if x10 < x6 then ((impl_TakePort.f k x183000 x183001 x183002 x183003 x183004 x184000 99).bind fun bt190 => (if bt190.2.2 = 0 then (if 0 ≤ x10 then (if x10 < (x3.length : Int) then (if bt190.2.1 = (rd x3 x10) then (laws_FnQueues.l1 k x3 x6 (wrap64 (x10 + 1)) x183000 x183001 x183002 x183003 x183004 bt190.1) else (some false)) else (none)) else (none)) else (some false))) else ((impl_TakePort.f k x183000 x183001 x183002 x183003 x183004 x184000 99).bind fun bt197 => ((impl_PortOk.f k x183000 x183001 x183002 x183003 x183004).bind fun t203 => (if t203 = true then (if bt197.2.2 = 2 then (some (x6 == x183003)) else (some false)) else (some false))))
end
def laws_FnQueues.f (k : Nat) (l0 : List Int) : Option (Bool) := (laws_big.f l0).bind fun t177 => (if t177 = true then (some true) else ((spec_DrawPlaces.f k l0).bind fun t178 => (if 0 < (t178.length : Int) then (laws_FnQueues.l0 k t178 0 0 1 1 2 (wrap64 (1 + (Int.tmod (rd t178 0) 6))) 0 ([] : List (S114))) else (none))))
theorem laws_FnQueues.mono_l : ∀ k, (∀ y0 y1 y2 y3 y4 y5 y6 y7 y8, LeO (laws_FnQueues.l0 k y0 y1 y2 y3 y4 y5 y6 y7 y8) (laws_FnQueues.l0 (k + 1) y0 y1 y2 y3 y4 y5 y6 y7 y8)) ∧ (∀ y0 y1 y2 y3 y4 y5 y6 y7 y8 y9 y10, LeO (laws_FnQueues.j1 k y0 y1 y2 y3 y4 y5 y6 y7 y8 y9 y10) (laws_FnQueues.j1 (k + 1) y0 y1 y2 y3 y4 y5 y6 y7 y8 y9 y10)) ∧ (∀ y0 y1 y2 y3 y4 y5 y6 y7 y8, LeO (laws_FnQueues.l1 k y0 y1 y2 y3 y4 y5 y6 y7 y8) (laws_FnQueues.l1 (k + 1) y0 y1 y2 y3 y4 y5 y6 y7 y8))
  | 0 => ⟨fun _ _ _ _ _ _ _ _ _ r h => by simp [laws_FnQueues.l0] at h, fun _ _ _ _ _ _ _ _ _ _ _ r h => by simp [laws_FnQueues.j1] at h, fun _ _ _ _ _ _ _ _ _ r h => by simp [laws_FnQueues.l1] at h⟩
  | k + 1 => by
    obtain ⟨ih0, ih1, ih2⟩ := laws_FnQueues.mono_l k
    refine ⟨?_, ?_, ?_⟩
    · intro y0 y1 y2 y3 y4 y5 y6 y7 y8
      unfold laws_FnQueues.l0
      repeat' first
      | (with_reducible exact ih0 _ _ _ _ _ _ _ _ _)
      | (with_reducible exact ih1 _ _ _ _ _ _ _ _ _ _ _)
      | (with_reducible exact ih2 _ _ _ _ _ _ _ _ _)
      | (with_reducible exact impl_PortOk.mono _ _ _ _ _ _)
      | (with_reducible exact impl_SendPort.mono _ _ _ _ _ _ _ _ _)
      | (with_reducible exact impl_TakePort.mono _ _ _ _ _ _ _ _)
      | (with_reducible exact spec_DrawPlaces.mono _ _)
      | (with_reducible exact LeO.refl _)
      | (with_reducible exact LeO.none _)
      | (with_reducible refine LeO.ite ?_ ?_)
      | (with_reducible refine LeO.bind ?_ (fun _ => ?_))
      | exact ih0 _ _ _ _ _ _ _ _ _
      | exact ih1 _ _ _ _ _ _ _ _ _ _ _
      | exact ih2 _ _ _ _ _ _ _ _ _
      | exact impl_PortOk.mono _ _ _ _ _ _
      | exact impl_SendPort.mono _ _ _ _ _ _ _ _ _
      | exact impl_TakePort.mono _ _ _ _ _ _ _ _
      | exact spec_DrawPlaces.mono _ _
      | exact LeO.none _
      | refine LeO.ite ?_ ?_
      | refine LeO.bind ?_ (fun _ => ?_)
    · intro y0 y1 y2 y3 y4 y5 y6 y7 y8 y9 y10
      unfold laws_FnQueues.j1
      repeat' first
      | (with_reducible exact ih0 _ _ _ _ _ _ _ _ _)
      | (with_reducible exact ih1 _ _ _ _ _ _ _ _ _ _ _)
      | (with_reducible exact ih2 _ _ _ _ _ _ _ _ _)
      | (with_reducible exact impl_PortOk.mono _ _ _ _ _ _)
      | (with_reducible exact impl_SendPort.mono _ _ _ _ _ _ _ _ _)
      | (with_reducible exact impl_TakePort.mono _ _ _ _ _ _ _ _)
      | (with_reducible exact spec_DrawPlaces.mono _ _)
      | (with_reducible exact LeO.refl _)
      | (with_reducible exact LeO.none _)
      | (with_reducible refine LeO.ite ?_ ?_)
      | (with_reducible refine LeO.bind ?_ (fun _ => ?_))
      | exact ih0 _ _ _ _ _ _ _ _ _
      | exact ih1 _ _ _ _ _ _ _ _ _ _ _
      | exact ih2 _ _ _ _ _ _ _ _ _
      | exact impl_PortOk.mono _ _ _ _ _ _
      | exact impl_SendPort.mono _ _ _ _ _ _ _ _ _
      | exact impl_TakePort.mono _ _ _ _ _ _ _ _
      | exact spec_DrawPlaces.mono _ _
      | exact LeO.none _
      | refine LeO.ite ?_ ?_
      | refine LeO.bind ?_ (fun _ => ?_)
    · intro y0 y1 y2 y3 y4 y5 y6 y7 y8
      unfold laws_FnQueues.l1
      repeat' first
      | (with_reducible exact ih0 _ _ _ _ _ _ _ _ _)
      | (with_reducible exact ih1 _ _ _ _ _ _ _ _ _ _ _)
      | (with_reducible exact ih2 _ _ _ _ _ _ _ _ _)
      | (with_reducible exact impl_PortOk.mono _ _ _ _ _ _)
      | (with_reducible exact impl_SendPort.mono _ _ _ _ _ _ _ _ _)
      | (with_reducible exact impl_TakePort.mono _ _ _ _ _ _ _ _)
      | (with_reducible exact spec_DrawPlaces.mono _ _)
      | (with_reducible exact LeO.refl _)
      | (with_reducible exact LeO.none _)
      | (with_reducible refine LeO.ite ?_ ?_)
      | (with_reducible refine LeO.bind ?_ (fun _ => ?_))
      | exact ih0 _ _ _ _ _ _ _ _ _
      | exact ih1 _ _ _ _ _ _ _ _ _ _ _
      | exact ih2 _ _ _ _ _ _ _ _ _
      | exact impl_PortOk.mono _ _ _ _ _ _
      | exact impl_SendPort.mono _ _ _ _ _ _ _ _ _
      | exact impl_TakePort.mono _ _ _ _ _ _ _ _
      | exact spec_DrawPlaces.mono _ _
      | exact LeO.none _
      | refine LeO.ite ?_ ?_
      | refine LeO.bind ?_ (fun _ => ?_)
theorem laws_FnQueues.mono : ∀ a0 k, LeO (laws_FnQueues.f k a0) (laws_FnQueues.f (k + 1) a0) := by
  intro a0 k
  obtain ⟨ih0, ih1, ih2⟩ := laws_FnQueues.mono_l k
  unfold laws_FnQueues.f
  repeat' first
      | (with_reducible exact ih0 _ _ _ _ _ _ _ _ _)
      | (with_reducible exact ih1 _ _ _ _ _ _ _ _ _ _ _)
      | (with_reducible exact ih2 _ _ _ _ _ _ _ _ _)
      | (with_reducible exact impl_PortOk.mono _ _ _ _ _ _)
      | (with_reducible exact impl_SendPort.mono _ _ _ _ _ _ _ _ _)
      | (with_reducible exact impl_TakePort.mono _ _ _ _ _ _ _ _)
      | (with_reducible exact spec_DrawPlaces.mono _ _)
      | (with_reducible exact LeO.refl _)
      | (with_reducible exact LeO.none _)
      | (with_reducible refine LeO.ite ?_ ?_)
      | (with_reducible refine LeO.bind ?_ (fun _ => ?_))
      | exact ih0 _ _ _ _ _ _ _ _ _
      | exact ih1 _ _ _ _ _ _ _ _ _ _ _
      | exact ih2 _ _ _ _ _ _ _ _ _
      | exact impl_PortOk.mono _ _ _ _ _ _
      | exact impl_SendPort.mono _ _ _ _ _ _ _ _ _
      | exact impl_TakePort.mono _ _ _ _ _ _ _ _
      | exact spec_DrawPlaces.mono _ _
      | exact LeO.none _
      | refine LeO.ite ?_ ?_
      | refine LeO.bind ?_ (fun _ => ?_)
def laws_FnQueues.T10 : Bool × List (List Nat × List Nat) := (true, [([], []), ([], []), ([], []), ([], []), ([2, 3], [2, 3]), ([4], [4]), ([], []), ([0, 1, 5, 6], [0, 1, 5, 6]), ([7], [7]), ([8], [8]), ([8], [8]), ([], []), ([11, 9, 7, 0, 1, 2, 3, 4, 5, 6, 7, 8, 9, 11], [9, 11]), ([10, 12, 0, 1, 2, 3, 4, 5, 6, 7, 8, 9, 10, 11, 12], [10])])
def laws_FnQueues.B10 : List Nat := [0, 0, 0, 0, 12, 28, 0, 127, 255, 511, 511, 0, 3071, 8191]
theorem laws_FnQueues.tab10 : rtab .any (opsOf Try.f12 10) = laws_FnQueues.T10 := by kernel_rfl
theorem laws_FnQueues.bits10 : waitsOk laws_FnQueues.T10.2 laws_FnQueues.B10 = true := by kernel_rfl
set_option maxHeartbeats 8000000 in
set_option maxRecDepth 100000 in
theorem laws_FnQueues.calls (k : Nat) (A0 : Option Addr) (c0 : Nat) (l0 : List Int) (r : Bool) (w : World) (hr0 : Kd.C (Kd.int .u8) w A0 l0.length l0) (hc0 : l0.length ≤ c0) (h : laws_FnQueues.f k l0 = some r) :
    Calls Try.prog 12 #[.slice A0 l0.length c0] w fun e w' => e = .returned (.bool r) ∧ Below w.heap.size w w' := by
  have hu33 := Try.underlying33
  have hu73 := Try.underlying73
  have HR0 := Aside0.mk hr0
  have HC0 := Aside0.mk hc0
  clear hr0 hc0
  have HB := Aside0.mk (Below.refl w.heap.size w)
  have H : ((laws_big.f l0).bind fun t177 => (if t177 = true then (some true) else ((spec_DrawPlaces.f k l0).bind fun t178 => (if 0 < (t178.length : Int) then (laws_FnQueues.l0 k t178 0 0 1 1 2 (wrap64 (1 + (Int.tmod (rd t178 0) 6))) 0 ([] : List (S114))) else (none))))) = some r := h
  clear h
  replace H := Option.bind_eq_some_iff.mp H
  obtain ⟨t177, A20, H⟩ := H
  replace H : (if t177 = true then (some true) else ((spec_DrawPlaces.f k l0).bind fun t178 => (if 0 < (t178.length : Int) then (laws_FnQueues.l0 k t178 0 0 1 1 2 (wrap64 (1 + (Int.tmod (rd t178 0) 6))) 0 ([] : List (S114))) else (none)))) = some r := H
  have A2 := Aside0.mk A20
  clear A20
  by_cases c3 : t177 = true
  · subst c3
    have H1 : (some true) = some r := by rw [if_pos rfl] at H; exact H
    clear H
    have H := H1
    clear H1
    obtain rfl := Option.some.inj H
    go_enter Try.func12, Try.ntmps12
    go_wp2_with (first | ((with_reducible refine gate_callee (f := 30) rfl ?_); refine goesL_ (some 18) rfl rfl Try.func30 (by kernel_rfl) rfl #[.slice A0 l0.length c0] rfl (by (try simp only [List.map_toArray, List.map_cons, List.map_nil]); first | done | rfl | (simp only [List.length_drop, List.length_take]; rfl)) ?_; (with_reducible refine (laws_big.calls _ _ l0 true _ ?side1 ?side2 A2.out).mono ?_); (case side1 => repeat (first | exact HR0.out | (with_reducible refine Kd.C_alloc ?_ _) | (with_reducible refine Kd.C_drewN ?_ _) | (with_reducible refine Kd.C_drew ?_))); (case side2 => exact HC0.out); rintro e w' ⟨rfl, ⟨nd, rfl⟩⟩; refine ⟨_, rfl, ?_⟩))
    go_ret
    exact ⟨by first | rfl | (simp [errW_none, errW_some] <;> rfl) | (simp [*, errW_none, errW_some] <;> rfl), by repeat (first | (with_reducible first | exact HB.out | apply below_alloc | apply pw_below_drewN | apply below_drew1) | exact HB.out)⟩
  · replace c3 := Bool.eq_false_iff.mpr c3
    subst c3
    have H1 : ((spec_DrawPlaces.f k l0).bind fun t178 => (if 0 < (t178.length : Int) then (laws_FnQueues.l0 k t178 0 0 1 1 2 (wrap64 (1 + (Int.tmod (rd t178 0) 6))) 0 ([] : List (S114))) else (none))) = some r := by rw [if_neg (show ¬ (false = true) by decide)] at H; exact H
    clear H
    have H := H1
    clear H1
    replace H := Option.bind_eq_some_iff.mp H
    obtain ⟨t178, A40, H⟩ := H
    replace H : (if 0 < (t178.length : Int) then (laws_FnQueues.l0 k t178 0 0 1 1 2 (wrap64 (1 + (Int.tmod (rd t178 0) 6))) 0 ([] : List (S114))) else (none)) = some r := H
    have A4 := Aside0.mk A40
    clear A40
    by_cases c5 : 0 < (t178.length : Int)
    · rw [if_pos c5] at H
      have c5b0 : decide (0 < (t178.length : Int)) = true := decide_eq_true c5
      have c5b1 : decide (0 < t178.length) = true := decide_eq_true (by omega)
      clear c5
      have H' := Aside0.mk H
      clear H
      go_enter Try.func12, Try.ntmps12
      go_wp2_with (first | ((with_reducible refine gate_callee (f := 30) rfl ?_); refine goesL_ (some 18) rfl rfl Try.func30 (by kernel_rfl) rfl #[.slice A0 l0.length c0] rfl (by (try simp only [List.map_toArray, List.map_cons, List.map_nil]); first | done | rfl | (simp only [List.length_drop, List.length_take]; rfl)) ?_; (with_reducible refine (laws_big.calls _ _ l0 false _ ?side1 ?side2 A2.out).mono ?_); (case side1 => repeat (first | exact HR0.out | (with_reducible refine Kd.C_alloc ?_ _) | (with_reducible refine Kd.C_drewN ?_ _) | (with_reducible refine Kd.C_drew ?_))); (case side2 => exact HC0.out); rintro e w' ⟨rfl, ⟨nd, rfl⟩⟩; refine ⟨_, rfl, ?_⟩) | ((with_reducible refine gate_callee (f := 46) rfl ?_); refine goesL_ (some 20) rfl rfl Try.func46 (by kernel_rfl) rfl #[.slice A0 l0.length c0] rfl (by (try simp only [List.map_toArray, List.map_cons, List.map_nil]); first | done | rfl | (simp only [List.length_drop, List.length_take]; rfl)) ?_; (with_reducible refine (spec_DrawPlaces.calls k _ _ l0 t178 _ ?side1 ?side2 A4.out).mono ?_); (case side1 => repeat (first | exact HR0.out | (with_reducible refine Kd.C_alloc ?_ _) | (with_reducible refine Kd.C_drewN ?_ _) | (with_reducible refine Kd.C_drew ?_))); (case side2 => exact HC0.out); rintro e w6 ⟨v179, rfl, ho0, hb⟩; refine ⟨_, rfl, ?_⟩; have n0_ := Aside0.mk (Kd.R_lower ho0 (below_size (by repeat (first | (with_reducible first | exact HB.out | apply below_alloc | apply pw_below_drewN | apply below_drew1) | exact HB.out)))); have n1_ := Aside0.mk (below_step (by repeat (first | (with_reducible first | exact HB.out | apply below_alloc | apply pw_below_drewN | apply below_drew1) | exact HB.out)) hb); clear HB; have HO180 := n0_; have HB := n1_; clear n0_ n1_; (try clear hb); (try clear hb2); (try clear hk); (try clear hi); (try clear ho0); obtain ⟨Ao7, co7, eo7⟩ := Kd.R_slice HO180.out; subst eo7; have p181 : 0 ≤ (0 : Int) := (by omega); have q181 : 0 < (t178.length : Int) := of_decide_eq_true (by first | (with_reducible assumption) | assumption); obtain ⟨ad181, e181, hx181_0⟩ := Kd.at_int (Kd.R_reads' HO180.out).2.2 0 p181 q181; cases e181; have qi181 : (0 < t178.length) = True := eq_true (by omega); (try rw [show ((0 : Int)).toNat = 0 from rfl] at hx181_0); (try rw [Addr.add_zero'] at hx181_0); replace p181 := eq_true p181; replace q181 := eq_true q181) | ((with_reducible refine gate_dst (N := 4) rfl ?_); refine box_event ?hg (N := 4) ?hd (cs := #[.int .i64 0, .int .i64 0, .int .i64 0, .int .i64 0, .int .i64 0]) (t := 33) ?hr ?_; (case hd => rfl); (case hg => rfl); (case hr => first | (go_simp; done) | (go_simp; rfl)); intro gb182 hg w8 hbox hb; have n0_ := Aside0.mk (Kd.R_below (by (with_reducible repeat (first | apply Kd.R_alloc | apply Kd.R_drewN | apply Kd.R_drew)); exact HO180.out) hb); have n1_ := Aside0.mk (below_step (by repeat (first | (with_reducible first | exact HB.out | apply below_alloc | apply pw_below_drewN | apply below_drew1) | exact HB.out)) hb); have n2_ := Aside0.mk (hbox); have n3_ := Aside0.mk ((by rw [hg]; exact (below_size (by repeat (first | (with_reducible first | exact HB.out | apply below_alloc | apply pw_below_drewN | apply below_drew1) | exact HB.out))) : w.heap.size ≤ gb182)); have n4_ := Aside0.mk ((by rw [hg]; exact (below_size (by repeat (first | (with_reducible first | exact HB.out | apply below_alloc | apply pw_below_drewN | apply below_drew1) | exact HB.out))) : w.heap.size ≤ gb182)); clear HO180; clear HB; have HO180 := n0_; have HB := n1_; have BK182 := n2_; have GW182 := n3_; have GE182 := n4_; clear n0_ n1_ n2_ n3_ n4_; clear hb hbox hg; have hcz9_0 : w8.cell? ⟨gb182, 0, none⟩ = some (.int .i64 0) := (blk_cell BK182.out 0).trans rfl; have hcz9_1 : w8.cell? ⟨gb182, 1, none⟩ = some (.int .i64 0) := (blk_cell BK182.out 1).trans rfl; have hcz9_2 : w8.cell? ⟨gb182, 2, none⟩ = some (.int .i64 0) := (blk_cell BK182.out 2).trans rfl; have hcz9_3 : w8.cell? ⟨gb182, 3, none⟩ = some (.int .i64 0) := (blk_cell BK182.out 3).trans rfl; have hcz9_4 : w8.cell? ⟨gb182, 4, none⟩ = some (.int .i64 0) := (blk_cell BK182.out 4).trans rfl; have hfz9_0 := blk_frozen BK182.out 0; have hfz9_1 := blk_frozen BK182.out 1; have hfz9_2 := blk_frozen BK182.out 2; have hfz9_3 := blk_frozen BK182.out 3; have hfz9_4 := blk_frozen BK182.out 4) | ((with_reducible refine gate_dst (N := 5) rfl ?_); refine box_event ?hg (N := 5) ?hd (cs := #[.slice none 0 0]) (t := 73) ?hr ?_; (case hd => rfl); (case hg => rfl); (case hr => first | (go_simp; done) | (go_simp; rfl)); intro gb183 hg w10 hbox hb; have n0_ := Aside0.mk (Kd.R_below (by (with_reducible repeat (first | apply Kd.R_alloc | apply Kd.R_drewN | apply Kd.R_drew)); exact (Kd.R_mono (Kd.R_far (p := ⟨gb182, 4, none⟩) (Kd.R_far (p := ⟨gb182, 3, none⟩) (Kd.R_far (p := ⟨gb182, 2, none⟩) (Kd.R_far (p := ⟨gb182, 1, none⟩) (Kd.R_far (p := ⟨gb182, 0, none⟩) (Kd.R_types HO180.out BK182.out (by decide)) (fun _ hk => hk.2) (.int .i64 1)) (fun _ hk => hk.2) (.int .i64 1)) (fun _ hk => hk.2) (.int .i64 2)) (fun _ hk => hk.2) (.int .i64 (wrap64 (1 + (Int.tmod (rd t178 0) 6))))) (fun _ hk => hk.2) (.int .i64 0)) (fun _ h_ => h_.1))) hb); have n1_ := Aside0.mk (blk_below (g := gb182) (o := .cells #[.int .i64 1, .int .i64 1, .int .i64 2, .int .i64 (wrap64 (1 + (Int.tmod (rd t178 0) 6))), .int .i64 0] 33 (0, 0)) (by (with_reducible repeat (first | refine blk_drewN ?_ _ | refine blk_drew ?_ | refine blk_alloc ?_ _)); refine blk_put (cs := #[.int .i64 1, .int .i64 1, .int .i64 2, .int .i64 (wrap64 (1 + (Int.tmod (rd t178 0) 6))), .int .i64 0]) ?_ 4 _ rfl; (with_reducible repeat (first | refine blk_drewN ?_ _ | refine blk_drew ?_ | refine blk_alloc ?_ _)); refine blk_put (cs := #[.int .i64 1, .int .i64 1, .int .i64 2, .int .i64 0, .int .i64 0]) ?_ 3 _ rfl; (with_reducible repeat (first | refine blk_drewN ?_ _ | refine blk_drew ?_ | refine blk_alloc ?_ _)); refine blk_put (cs := #[.int .i64 1, .int .i64 1, .int .i64 0, .int .i64 0, .int .i64 0]) ?_ 2 _ rfl; (with_reducible repeat (first | refine blk_drewN ?_ _ | refine blk_drew ?_ | refine blk_alloc ?_ _)); refine blk_put (cs := #[.int .i64 1, .int .i64 0, .int .i64 0, .int .i64 0, .int .i64 0]) ?_ 1 _ rfl; (with_reducible repeat (first | refine blk_drewN ?_ _ | refine blk_drew ?_ | refine blk_alloc ?_ _)); refine blk_put (cs := #[.int .i64 0, .int .i64 0, .int .i64 0, .int .i64 0, .int .i64 0]) ?_ 0 _ rfl; (with_reducible repeat (first | refine blk_drewN ?_ _ | refine blk_drew ?_ | refine blk_alloc ?_ _)); exact BK182.out) hb); have n2_ := Aside0.mk (below_step (by repeat (first | (with_reducible first | exact HB.out | apply below_alloc | apply pw_below_drewN | apply below_drew1 | refine below_set ?_ GE182.out) | exact HB.out)) hb); have n3_ := Aside0.mk (hbox); have n4_ := Aside0.mk ((by rw [hg]; exact (below_size (by repeat (first | (with_reducible first | exact HB.out | apply below_alloc | apply pw_below_drewN | apply below_drew1 | refine below_set ?_ GE182.out) | exact HB.out))) : w.heap.size ≤ gb183)); have n5_ := Aside0.mk ((by rw [hg]; exact (below_size (by repeat (first | (with_reducible first | exact HB.out | apply below_alloc | apply pw_below_drewN | apply below_drew1 | refine below_set ?_ GE182.out) | exact HB.out))) : w.heap.size ≤ gb183)); have n6_ := Aside0.mk ((by rw [hg]; exact Nat.ne_of_lt (blk_lt (g := gb182) (o := .cells #[.int .i64 1, .int .i64 1, .int .i64 2, .int .i64 (wrap64 (1 + (Int.tmod (rd t178 0) 6))), .int .i64 0] 33 (0, 0)) (by (with_reducible repeat (first | refine blk_drewN ?_ _ | refine blk_drew ?_ | refine blk_alloc ?_ _)); refine blk_put (cs := #[.int .i64 1, .int .i64 1, .int .i64 2, .int .i64 (wrap64 (1 + (Int.tmod (rd t178 0) 6))), .int .i64 0]) ?_ 4 _ rfl; (with_reducible repeat (first | refine blk_drewN ?_ _ | refine blk_drew ?_ | refine blk_alloc ?_ _)); refine blk_put (cs := #[.int .i64 1, .int .i64 1, .int .i64 2, .int .i64 0, .int .i64 0]) ?_ 3 _ rfl; (with_reducible repeat (first | refine blk_drewN ?_ _ | refine blk_drew ?_ | refine blk_alloc ?_ _)); refine blk_put (cs := #[.int .i64 1, .int .i64 1, .int .i64 0, .int .i64 0, .int .i64 0]) ?_ 2 _ rfl; (with_reducible repeat (first | refine blk_drewN ?_ _ | refine blk_drew ?_ | refine blk_alloc ?_ _)); refine blk_put (cs := #[.int .i64 1, .int .i64 0, .int .i64 0, .int .i64 0, .int .i64 0]) ?_ 1 _ rfl; (with_reducible repeat (first | refine blk_drewN ?_ _ | refine blk_drew ?_ | refine blk_alloc ?_ _)); refine blk_put (cs := #[.int .i64 0, .int .i64 0, .int .i64 0, .int .i64 0, .int .i64 0]) ?_ 0 _ rfl; (with_reducible repeat (first | refine blk_drewN ?_ _ | refine blk_drew ?_ | refine blk_alloc ?_ _)); exact BK182.out)) : gb182 ≠ gb183)); have n7_ := Aside0.mk ((by rw [hg]; exact Nat.ne_of_gt (blk_lt (g := gb182) (o := .cells #[.int .i64 1, .int .i64 1, .int .i64 2, .int .i64 (wrap64 (1 + (Int.tmod (rd t178 0) 6))), .int .i64 0] 33 (0, 0)) (by (with_reducible repeat (first | refine blk_drewN ?_ _ | refine blk_drew ?_ | refine blk_alloc ?_ _)); refine blk_put (cs := #[.int .i64 1, .int .i64 1, .int .i64 2, .int .i64 (wrap64 (1 + (Int.tmod (rd t178 0) 6))), .int .i64 0]) ?_ 4 _ rfl; (with_reducible repeat (first | refine blk_drewN ?_ _ | refine blk_drew ?_ | refine blk_alloc ?_ _)); refine blk_put (cs := #[.int .i64 1, .int .i64 1, .int .i64 2, .int .i64 0, .int .i64 0]) ?_ 3 _ rfl; (with_reducible repeat (first | refine blk_drewN ?_ _ | refine blk_drew ?_ | refine blk_alloc ?_ _)); refine blk_put (cs := #[.int .i64 1, .int .i64 1, .int .i64 0, .int .i64 0, .int .i64 0]) ?_ 2 _ rfl; (with_reducible repeat (first | refine blk_drewN ?_ _ | refine blk_drew ?_ | refine blk_alloc ?_ _)); refine blk_put (cs := #[.int .i64 1, .int .i64 0, .int .i64 0, .int .i64 0, .int .i64 0]) ?_ 1 _ rfl; (with_reducible repeat (first | refine blk_drewN ?_ _ | refine blk_drew ?_ | refine blk_alloc ?_ _)); refine blk_put (cs := #[.int .i64 0, .int .i64 0, .int .i64 0, .int .i64 0, .int .i64 0]) ?_ 0 _ rfl; (with_reducible repeat (first | refine blk_drewN ?_ _ | refine blk_drew ?_ | refine blk_alloc ?_ _)); exact BK182.out)) : gb183 ≠ gb182)); clear HO180; clear BK182; clear HB; have HO180 := n0_; have BK182 := n1_; have HB := n2_; have BK183 := n3_; have GW183 := n4_; have GE183 := n5_; have NB182_183 := n6_; have NB183_182 := n7_; clear n0_ n1_ n2_ n3_ n4_ n5_ n6_ n7_; clear hb hbox hg; have hnb11 := NB183_182.out; have hnc11 := NB182_183.out; have hcz12_0 : w10.cell? ⟨gb183, 0, none⟩ = some (.slice none 0 0) := (blk_cell BK183.out 0).trans rfl; have hfz12_0 := blk_frozen BK183.out 0))
      go_loopg [6, 7] k (fun kq v6 v7 w' => ∃ (x6_1 : Int) (x7_1 : Int) (x184000_1 : List (S114)) (u184000 : Value), v6 = .int .i64 x6_1 ∧ v7 = .int .i64 x7_1 ∧ Aside0 (laws_FnQueues.l0 kq t178 x6_1 x7_1 1 1 2 (wrap64 (1 + (Int.tmod (rd t178 0) 6))) 0 x184000_1 = some r) ∧ Aside0 (kq ≤ k) ∧ Aside0 (Kd.R (Kd.int .i64) 3 w' w.heap.size (fun _ => True) (.slice (some ad181) t178.length co7) t178) ∧ Aside0 (Kd.Q k114 114 w' w.heap.size (fun _ => True) u184000 x184000_1) ∧ Aside0 (w'.heap[gb182]? = some (.cells #[.int .i64 1, .int .i64 1, .int .i64 2, .int .i64 (wrap64 (1 + (Int.tmod (rd t178 0) 6))), .int .i64 0] 33 (0, 0))) ∧ Aside0 (w'.heap[gb183]? = some (.cells #[u184000] 73 (0, 0))) ∧ Aside0 (Below w.heap.size w w'))
      case atStart => exact ⟨(0), (0), (([] : List (S114))), (.slice none 0 0), (by first | rfl | (simp; done) | (simp [*]; done)), (by first | rfl | (simp; done) | (simp [*]; done)), H', ⟨Nat.le_refl _⟩, ⟨by (with_reducible repeat (first | apply Kd.R_alloc | apply Kd.R_drewN | apply Kd.R_drew)); exact Kd.R_mono (Kd.R_far (p := ⟨gb183, 0, none⟩) (Kd.R_types HO180.out BK183.out (by decide)) (fun _ hk => hk.2) (.slice none 0 0)) (fun _ hk => trivial)⟩, ⟨Kd.Q_of_R (by first | exact Kd.R_nil _ _ _ _ _ | exact Kd.N_nil _ _ _ _ _ | exact Kd.V_nil _ _ _ _ _ | exact Kd.Q_nil _ _ _ _ _ | exact Kd.S_nil _ _ _ _ _)⟩, ⟨by (with_reducible repeat (first | refine blk_drewN ?_ _ | refine blk_drew ?_ | refine blk_alloc ?_ _)); refine blk_far ?_ NB182_183.out _; (with_reducible repeat (first | refine blk_drewN ?_ _ | refine blk_drew ?_ | refine blk_alloc ?_ _)); exact BK182.out⟩, ⟨by (with_reducible repeat (first | refine blk_drewN ?_ _ | refine blk_drew ?_ | refine blk_alloc ?_ _)); refine blk_put (cs := #[.slice none 0 0]) ?_ 0 _ rfl; (with_reducible repeat (first | refine blk_drewN ?_ _ | refine blk_drew ?_ | refine blk_alloc ?_ _)); exact BK183.out⟩, ⟨by repeat (first | (with_reducible first | exact HB.out | apply below_alloc | apply pw_below_drewN | apply below_drew1 | refine below_set ?_ GE182.out | refine below_set ?_ GE183.out) | exact HB.out)⟩⟩
      case round =>
        clear H'
        try clear c1
        try clear p1
        try clear q1
        try clear hx1
        try clear qi1
        try clear p2
        try clear c3
        try clear c4
        try clear c5
        try clear c5b0
        try clear c5b1
        try clear p6
        try clear c11
        try clear c12
        try clear hcz12_0
        try clear hcz9_0
        try clear hcz9_1
        try clear hcz9_2
        try clear hcz9_3
        try clear hcz9_4
        try clear hfz12_0
        try clear hfz9_0
        try clear hfz9_1
        try clear hfz9_2
        try clear hfz9_3
        try clear hfz9_4
        try clear hx181_0
        try clear p181
        try clear q181
        obtain ⟨x6_1, x7_1, x184000_1, u184000, rfl, rfl, HA, HK1, HO_3, HO_184000, BK182, BK183, HB⟩ := hrel
        cases gk with
        | zero => exact absurd HA.out (by simp [laws_FnQueues.l0])
        | succ k1 =>
          have H := HA.out
          clear HA
          simp only [laws_FnQueues.l0] at H
          by_cases c13 : x7_1 < 8
          · rw [if_pos c13] at H
            have c13b0 : decide (x7_1 < 8) = true := decide_eq_true c13
            clear c13
            by_cases c14 : 0 ≤ x7_1
            · rw [if_pos c14] at H
              have c14b0 : decide (0 ≤ x7_1) = true := decide_eq_true c14
              clear c14
              by_cases c15 : x7_1 < (t178.length : Int)
              · rw [if_pos c15] at H
                have c15b0 : decide (x7_1 < (t178.length : Int)) = true := decide_eq_true c15
                clear c15
                replace H := Option.bind_eq_some_iff.mp H
                obtain ⟨⟨t185, t188⟩, A160, H⟩ := H
                replace H : (if ((t188 == 0) != (decide (x7_1 < (wrap64 (1 + (Int.tmod (rd t178 0) 6)))))) = true then (laws_FnQueues.j1 k1 t178 x6_1 x7_1 t188 true 1 1 2 (wrap64 (1 + (Int.tmod (rd t178 0) 6))) 0 t185) else (if t188 = 0 then (laws_FnQueues.j1 k1 t178 x6_1 x7_1 t188 false 1 1 2 (wrap64 (1 + (Int.tmod (rd t178 0) 6))) 0 t185) else (laws_FnQueues.j1 k1 t178 x6_1 x7_1 t188 (t188 != 1) 1 1 2 (wrap64 (1 + (Int.tmod (rd t178 0) 6))) 0 t185))) = some r := H
                have A16 := Aside0.mk A160
                clear A160
                have HC17 := Aside0.mk H
                clear H
                obtain ⟨Ao18, co18, eo18, _⟩ := Kd.Q_slice HO_184000.out
                subst eo18
                try go_wp2
                have n0_ := Aside0.mk (Kd.R_drew HO_3.out)
                have n1_ := Aside0.mk (Kd.Q_drew HO_184000.out)
                have n2_ := Aside0.mk (blk_drew BK182.out)
                have n3_ := Aside0.mk (blk_drew BK183.out)
                have n4_ := Aside0.mk (below_drew1 HB.out)
                clear HO_3
                clear HO_184000
                clear BK182
                clear BK183
                clear HB
                have HO_3 := n0_
                have HO_184000 := n1_
                have BK182 := n2_
                have BK183 := n3_
                have HB := n4_
                clear n0_ n1_ n2_ n3_ n4_
                have p184 : 0 ≤ (x7_1 : Int) := of_decide_eq_true (by first | (with_reducible assumption) | assumption)
                have q184 : x7_1 < (t178.length : Int) := of_decide_eq_true (by first | (with_reducible assumption) | assumption)
                obtain ⟨ad184, e184, hx184_0⟩ := Kd.at_int (Kd.R_reads' HO_3.out).2.2 x7_1 p184 q184
                obtain rfl : ad181 = ad184 := (by injection e184)
                replace p184 := eq_true p184
                replace q184 := eq_true q184
                refine start_ (n := 14) (S := fun w' => w'.cell? ⟨gb182, 0, none⟩ = some (.int .i64 1) ∧ w'.cell? ⟨gb182, 1, none⟩ = some (.int .i64 1) ∧ w'.cell? ⟨gb182, 2, none⟩ = some (.int .i64 2) ∧ w'.cell? ⟨gb182, 3, none⟩ = some (.int .i64 (wrap64 (1 + (Int.tmod (rd t178 0) 6)))) ∧ w'.cell? ⟨gb182, 4, none⟩ = some (.int .i64 0) ∧ w'.cell? ⟨gb183, 0, none⟩ = some (.slice Ao18 x184000_1.length co18) ∧ w'.cell? (ad181.add (x7_1).toNat) = some (.int .i64 (rd t178 x7_1))) (ds := []) #[false, false, false, false, false, false, false, false, false, false, false, false, false, false] (by kernel_rfl) rfl rfl ⟨(blk_cell BK182.out 0).trans rfl, (blk_cell BK182.out 1).trans rfl, (blk_cell BK182.out 2).trans rfl, (blk_cell BK182.out 3).trans rfl, (blk_cell BK182.out 4).trans rfl, (blk_cell BK183.out 0).trans rfl, hx184_0⟩ (fun hHeld => ?_); refine with_tabW laws_FnQueues.tab10 laws_FnQueues.bits10 (fun HT_ HW_ => ?_)
                generalize wr.drew = w19 at HO_3 HO_184000 BK182 BK183 HB hx184_0 hHeld ⊢
                refine pure_ (i := 2) (N := some 35) (v := ?_) (a' := ?_) #[false, false, true, false, false, false, false, false, false, false, false, false, false, false] rfl rfl (any_of HT_.out (by kernel_rfl)) (fun _ _ _ h => h) (Or.inl ⟨by rfl, ?_⟩) ?_ ?_
                rotate_left
                · intro w'
                  go_simp
                  with_reducible rfl
                rotate_left
                · simp only [Act.put, List.setIfInBounds_toArray, List.set_cons_zero, List.set_cons_succ, i64_w, i32_w]
                  rfl
                refine pure_ (i := 3) (N := some 36) (v := ?_) (a' := ?_) #[false, false, true, true, false, false, false, false, false, false, false, false, false, false] rfl rfl (any_of HT_.out (by kernel_rfl)) (fun _ _ _ h => h) (Or.inl ⟨by rfl, ?_⟩) ?_ ?_
                rotate_left
                · intro w'
                  go_simp
                  with_reducible rfl
                rotate_left
                · simp only [Act.put, List.setIfInBounds_toArray, List.set_cons_zero, List.set_cons_succ, i64_w, i32_w]
                  rfl
                refine pure_ (i := 4) (N := some 37) (v := ?_) (a' := ?_) #[false, false, true, true, true, false, false, false, false, false, false, false, false, false] rfl rfl (any_of HT_.out (by kernel_rfl)) (fun _ _ _ h => h) (Or.inl ⟨by rfl, ?_⟩) ?_ ?_
                rotate_left
                · intro w'
                  go_simp
                  with_reducible rfl
                rotate_left
                · simp only [Act.put, List.setIfInBounds_toArray, List.set_cons_zero, List.set_cons_succ, i64_w, i32_w]
                  rfl
                refine pure_ (i := 6) (N := some 39) (v := ?_) (a' := ?_) #[false, false, true, true, true, false, true, false, false, false, false, false, false, false] rfl rfl (any_of HT_.out (by kernel_rfl)) (fun _ _ _ h => h) (Or.inl ⟨by rfl, ?_⟩) ?_ ?_
                rotate_left
                · intro w'
                  go_simp
                  with_reducible rfl
                rotate_left
                · simp only [Act.put, List.setIfInBounds_toArray, List.set_cons_zero, List.set_cons_succ, i64_w, i32_w]
                  rfl
                refine take_ (i := 0) (N := some 33) (v := ?_) (a' := ?_) #[true, false, true, true, true, false, true, false, false, false, false, false, false, false] rfl rfl (take_ofW HT_.out HW_.out (by kernel_rfl)) (fun _ _ _ h => h) (Or.inl ⟨by rfl, ?_⟩) hHeld ?_ ?_
                rotate_left
                · rintro w' ⟨s0, s1, s2, s3, s4, s5, s6⟩
                  go_simp
                  with_reducible rfl
                rotate_left
                · simp only [Act.put, List.setIfInBounds_toArray, List.set_cons_zero, List.set_cons_succ, i64_w, i32_w]
                  rfl
                refine take_ (i := 1) (N := some 34) (v := ?_) (a' := ?_) #[true, true, true, true, true, false, true, false, false, false, false, false, false, false] rfl rfl (take_ofW HT_.out HW_.out (by kernel_rfl)) (fun _ _ _ h => h) (Or.inl ⟨by rfl, ?_⟩) hHeld ?_ ?_
                rotate_left
                · rintro w' ⟨s0, s1, s2, s3, s4, s5, s6⟩
                  go_simp
                  with_reducible rfl
                rotate_left
                · simp only [Act.put, List.setIfInBounds_toArray, List.set_cons_zero, List.set_cons_succ, i64_w, i32_w]
                  rfl
                refine take_ (i := 5) (N := some 38) (v := ?_) (a' := ?_) #[true, true, true, true, true, true, true, false, false, false, false, false, false, false] rfl rfl (take_ofW HT_.out HW_.out (by kernel_rfl)) (fun _ _ _ h => h) (Or.inl ⟨by rfl, ?_⟩) hHeld ?_ ?_
                rotate_left
                · rintro w' ⟨s0, s1, s2, s3, s4, s5, s6⟩
                  go_simp
                  with_reducible rfl
                rotate_left
                · simp only [Act.put, List.setIfInBounds_toArray, List.set_cons_zero, List.set_cons_succ, i64_w, i32_w]
                  rfl
                refine join_ (σ := Value × Nat) 2 #[true, true, true, true, true, true, true, true, true, true, true, true, false, false] (fun s_ => [(40, .tuple #[.agg #[s_.1], .int .i64 t188]), (8, .pointer (some ⟨s_.2, 0, none⟩)), (32, .tuple #[.agg #[s_.1], .int .i64 t188]), (41, .agg #[s_.1]), (42, .int .i64 t188)]) (fun s_ w' => (w'.cell? ⟨gb182, 0, none⟩ = some (.int .i64 1) ∧ w'.cell? ⟨gb182, 1, none⟩ = some (.int .i64 1) ∧ w'.cell? ⟨gb182, 2, none⟩ = some (.int .i64 2) ∧ w'.cell? ⟨gb182, 3, none⟩ = some (.int .i64 (wrap64 (1 + (Int.tmod (rd t178 0) 6)))) ∧ w'.cell? ⟨gb182, 4, none⟩ = some (.int .i64 0) ∧ w'.cell? ⟨gb183, 0, none⟩ = some (.slice Ao18 x184000_1.length co18) ∧ w'.cell? (ad181.add (x7_1).toNat) = some (.int .i64 (rd t178 x7_1))) ∧ (Kd.R k114 114 w' w.heap.size (fun k_ => some k_ ≠ (.slice Ao18 x184000_1.length co18 : Value).ownBlock) s_.1 t185) ∧ (Kd.Q k114 114 w' w.heap.size (fun k_ => some k_ ≠ (s_.1 : Value).ownBlock) (.slice Ao18 x184000_1.length co18) x184000_1) ∧ (Kd.R (Kd.int .i64) 3 w' w.heap.size (fun _ => True) (.slice (some ad181) t178.length co7) t178) ∧ (w'.heap[gb182]? = some (.cells #[.int .i64 1, .int .i64 1, .int .i64 2, .int .i64 (wrap64 (1 + (Int.tmod (rd t178 0) 6))), .int .i64 0] 33 (0, 0))) ∧ (w'.heap[gb183]? = some (.cells #[.slice Ao18 x184000_1.length co18] 73 (0, 0))) ∧ (w'.heap[s_.2]? = some (.cells #[.slice none 0 0] 73 (0, 0))) ∧ (w.heap.size ≤ s_.2) ∧ (w.heap.size ≤ s_.2) ∧ (gb182 ≠ s_.2) ∧ (s_.2 ≠ gb182) ∧ (gb183 ≠ s_.2) ∧ (s_.2 ≠ gb183) ∧ (Below w.heap.size w w')) ?_ ?_
                rotate_left
                · intro hCont
                  refine two_ (i := 7) (j := 11) (Ni := some 40) (Nj := some 8) #[true, true, true, true, true, true, true, true, false, false, false, false, false, false] #[true, true, true, true, true, true, true, false, false, false, false, true, false, false] rfl rfl rfl rfl (two_of HT_.out (by kernel_rfl)) (by decide) (by decide) (fun K hK => ?_) (fun K hK => ?_)
                  · skip
                    refine goes_ Try.func47 (by kernel_rfl) rfl #[.agg #[.int .i64 1, .int .i64 1, .int .i64 2, .int .i64 (wrap64 (1 + (Int.tmod (rd t178 0) 6))), .int .i64 0], .agg #[.slice Ao18 x184000_1.length co18], .int .i64 (rd t178 x7_1), .int .i64 x7_1] (by rfl) rfl rfl (by (try simp only [List.map_toArray, List.map_cons, List.map_nil]); first | done | rfl | (simp only [List.length_drop, List.length_take]; rfl)) ?_
                    with_reducible refine (impl_SendPort.calls k1 1 1 2 (wrap64 (1 + (Int.tmod (rd t178 0) 6))) 0 _ _ x184000_1 (rd t178 x7_1) x7_1 t185 t188 _ ?side1 ?side2 A16.out).mono ?_
                    (case side1 => repeat (first | exact (Kd.Q_reads' HO_184000.out).2.2 | (with_reducible refine Kd.C_alloc ?_ _) | (with_reducible refine Kd.C_drewN ?_ _) | (with_reducible refine Kd.C_drew ?_)))
                    (case side2 => exact (Kd.Q_reads' HO_184000.out).2.1)
                    rintro e w20 ⟨v186, rfl, ho0, hb⟩
                    have HS6_ := (hb.cell (World.block_lt_of_cell? _ _ (hHeld.2.2.2.2.2.2))).trans (hHeld.2.2.2.2.2.2)
                    refine ⟨_, rfl, ?_⟩
                    have n0_ := Aside0.mk (Kd.R_below (by (with_reducible repeat (first | apply Kd.R_alloc | apply Kd.R_drewN | apply Kd.R_drew)); exact HO_3.out) hb)
                    have n1_ := Aside0.mk (Kd.Q_elder' (by (with_reducible repeat (first | apply Kd.Q_alloc | apply Kd.Q_drewN | apply Kd.Q_drew)); exact HO_184000.out) (Kd.R_base ho0) hb)
                    have n2_ := Aside0.mk (Kd.R_lower (Kd.R_new' ho0 (Kd.Q_lt (by (with_reducible repeat (first | apply Kd.Q_alloc | apply Kd.Q_drewN | apply Kd.Q_drew)); exact HO_184000.out))) (below_size (by repeat (first | (with_reducible first | exact HB.out | apply below_alloc | apply pw_below_drewN | apply below_drew1 | refine below_set ?_ GE182.out | refine below_set ?_ GE183.out) | exact HB.out))))
                    have n3_ := Aside0.mk (blk_below (g := gb182) (o := .cells #[.int .i64 1, .int .i64 1, .int .i64 2, .int .i64 (wrap64 (1 + (Int.tmod (rd t178 0) 6))), .int .i64 0] 33 (0, 0)) (by (with_reducible repeat (first | refine blk_drewN ?_ _ | refine blk_drew ?_ | refine blk_alloc ?_ _)); exact BK182.out) hb)
                    have n4_ := Aside0.mk (blk_below (g := gb183) (o := .cells #[.slice Ao18 x184000_1.length co18] 73 (0, 0)) (by (with_reducible repeat (first | refine blk_drewN ?_ _ | refine blk_drew ?_ | refine blk_alloc ?_ _)); exact BK183.out) hb)
                    have n5_ := Aside0.mk (below_step (by repeat (first | (with_reducible first | exact HB.out | apply below_alloc | apply pw_below_drewN | apply below_drew1 | refine below_set ?_ GE182.out | refine below_set ?_ GE183.out) | exact HB.out)) hb)
                    clear HO_3
                    clear HO_184000
                    clear BK182
                    clear BK183
                    clear HB
                    have HO_3 := n0_
                    have HO_184000 := n1_
                    have HO187 := n2_
                    have BK182 := n3_
                    have BK183 := n4_
                    have HB := n5_
                    clear n0_ n1_ n2_ n3_ n4_ n5_
                    (try clear hb)
                    (try clear hb2)
                    (try clear hk)
                    (try clear hi)
                    (try clear ho0)
                    refine hK.out _ _ ⟨(blk_cell BK182.out 0).trans rfl, (blk_cell BK182.out 1).trans rfl, (blk_cell BK182.out 2).trans rfl, (blk_cell BK182.out 3).trans rfl, (blk_cell BK182.out 4).trans rfl, (blk_cell BK183.out 0).trans rfl, HS6_⟩ (fun hHeld => ?_)
                    clear hK K
                    refine norm_ (a' := ?_) ?_ ?_
                    rotate_left
                    · show Act.put _ (some 40) _ = _
                      simp only [Act.put, List.setIfInBounds_toArray, List.set_cons_zero, List.set_cons_succ, i64_w, i32_w]
                      rfl
                    refine pure_ (i := 8) (N := some 32) (v := ?_) (a' := ?_) #[true, true, true, true, true, true, true, true, true, false, false, false, false, false] rfl rfl (any_of HT_.out (by kernel_rfl)) (fun _ _ _ h => h) (Or.inl ⟨by rfl, ?_⟩) ?_ ?_
                    rotate_left
                    · intro w'
                      go_simp
                      with_reducible rfl
                    rotate_left
                    · simp only [Act.put, List.setIfInBounds_toArray, List.set_cons_zero, List.set_cons_succ, i64_w, i32_w]
                      rfl
                    refine pure_ (i := 9) (N := some 41) (v := ?_) (a' := ?_) #[true, true, true, true, true, true, true, true, true, true, false, false, false, false] rfl rfl (any_of HT_.out (by kernel_rfl)) (fun _ _ _ h => h) (Or.inl ⟨by rfl, ?_⟩) ?_ ?_
                    rotate_left
                    · intro w'
                      go_simp
                      with_reducible rfl
                    rotate_left
                    · simp only [Act.put, List.setIfInBounds_toArray, List.set_cons_zero, List.set_cons_succ, i64_w, i32_w]
                      rfl
                    refine pure_ (i := 10) (N := some 42) (v := ?_) (a' := ?_) #[true, true, true, true, true, true, true, true, true, true, true, false, false, false] rfl rfl (any_of HT_.out (by kernel_rfl)) (fun _ _ _ h => h) (Or.inl ⟨by rfl, ?_⟩) ?_ ?_
                    rotate_left
                    · intro w'
                      go_simp
                      with_reducible rfl
                    rotate_left
                    · simp only [Act.put, List.setIfInBounds_toArray, List.set_cons_zero, List.set_cons_succ, i64_w, i32_w]
                      rfl
                    refine one_ (i := 11) (N := some 8) #[true, true, true, true, true, true, true, true, true, true, true, true, false, false] rfl rfl (one_of HT_.out (by kernel_rfl)) (by decide) (fun K hK => ?_)
                    refine box_step ?hg (N := 8) ?hd (cs := #[.slice none 0 0]) (t := 73) ?hr ?_; (case hd => rfl); (case hg => rfl); (case hr => first | (go_simp; done) | (go_simp; rfl))
                    intro gb189 hg w21 hbox hb
                    have HS6_ := (hb.cell (World.block_lt_of_cell? _ _ (hHeld.2.2.2.2.2.2))).trans (hHeld.2.2.2.2.2.2)
                    have n0_ := Aside0.mk (Kd.R_below (by (with_reducible repeat (first | apply Kd.R_alloc | apply Kd.R_drewN | apply Kd.R_drew)); exact HO_3.out) hb)
                    have n1_ := Aside0.mk (Kd.Q_below (by (with_reducible repeat (first | apply Kd.Q_alloc | apply Kd.Q_drewN | apply Kd.Q_drew)); exact HO_184000.out) hb)
                    have n2_ := Aside0.mk (Kd.R_below (by (with_reducible repeat (first | apply Kd.R_alloc | apply Kd.R_drewN | apply Kd.R_drew)); exact HO187.out) hb)
                    have n3_ := Aside0.mk (blk_below (g := gb182) (o := .cells #[.int .i64 1, .int .i64 1, .int .i64 2, .int .i64 (wrap64 (1 + (Int.tmod (rd t178 0) 6))), .int .i64 0] 33 (0, 0)) (by (with_reducible repeat (first | refine blk_drewN ?_ _ | refine blk_drew ?_ | refine blk_alloc ?_ _)); exact BK182.out) hb)
                    have n4_ := Aside0.mk (blk_below (g := gb183) (o := .cells #[.slice Ao18 x184000_1.length co18] 73 (0, 0)) (by (with_reducible repeat (first | refine blk_drewN ?_ _ | refine blk_drew ?_ | refine blk_alloc ?_ _)); exact BK183.out) hb)
                    have n5_ := Aside0.mk (below_step (by repeat (first | (with_reducible first | exact HB.out | apply below_alloc | apply pw_below_drewN | apply below_drew1 | refine below_set ?_ GE182.out | refine below_set ?_ GE183.out) | exact HB.out)) hb)
                    have n6_ := Aside0.mk (hbox)
                    have n7_ := Aside0.mk ((by rw [hg]; exact (below_size (by repeat (first | (with_reducible first | exact HB.out | apply below_alloc | apply pw_below_drewN | apply below_drew1 | refine below_set ?_ GE182.out | refine below_set ?_ GE183.out) | exact HB.out))) : w.heap.size ≤ gb189))
                    have n8_ := Aside0.mk ((by rw [hg]; exact (below_size (by repeat (first | (with_reducible first | exact HB.out | apply below_alloc | apply pw_below_drewN | apply below_drew1 | refine below_set ?_ GE182.out | refine below_set ?_ GE183.out) | exact HB.out))) : w.heap.size ≤ gb189))
                    have n9_ := Aside0.mk ((by rw [hg]; exact Nat.ne_of_lt (blk_lt (g := gb182) (o := .cells #[.int .i64 1, .int .i64 1, .int .i64 2, .int .i64 (wrap64 (1 + (Int.tmod (rd t178 0) 6))), .int .i64 0] 33 (0, 0)) (by (with_reducible repeat (first | refine blk_drewN ?_ _ | refine blk_drew ?_ | refine blk_alloc ?_ _)); exact BK182.out)) : gb182 ≠ gb189))
                    have n10_ := Aside0.mk ((by rw [hg]; exact Nat.ne_of_gt (blk_lt (g := gb182) (o := .cells #[.int .i64 1, .int .i64 1, .int .i64 2, .int .i64 (wrap64 (1 + (Int.tmod (rd t178 0) 6))), .int .i64 0] 33 (0, 0)) (by (with_reducible repeat (first | refine blk_drewN ?_ _ | refine blk_drew ?_ | refine blk_alloc ?_ _)); exact BK182.out)) : gb189 ≠ gb182))
                    have n11_ := Aside0.mk ((by rw [hg]; exact Nat.ne_of_lt (blk_lt (g := gb183) (o := .cells #[.slice Ao18 x184000_1.length co18] 73 (0, 0)) (by (with_reducible repeat (first | refine blk_drewN ?_ _ | refine blk_drew ?_ | refine blk_alloc ?_ _)); exact BK183.out)) : gb183 ≠ gb189))
                    have n12_ := Aside0.mk ((by rw [hg]; exact Nat.ne_of_gt (blk_lt (g := gb183) (o := .cells #[.slice Ao18 x184000_1.length co18] 73 (0, 0)) (by (with_reducible repeat (first | refine blk_drewN ?_ _ | refine blk_drew ?_ | refine blk_alloc ?_ _)); exact BK183.out)) : gb189 ≠ gb183))
                    clear HO_3
                    clear HO_184000
                    clear HO187
                    clear BK182
                    clear BK183
                    clear HB
                    have HO_3 := n0_
                    have HO_184000 := n1_
                    have HO187 := n2_
                    have BK182 := n3_
                    have BK183 := n4_
                    have HB := n5_
                    have BK189 := n6_
                    have GW189 := n7_
                    have GE189 := n8_
                    have NB182_189 := n9_
                    have NB189_182 := n10_
                    have NB183_189 := n11_
                    have NB189_183 := n12_
                    clear n0_ n1_ n2_ n3_ n4_ n5_ n6_ n7_ n8_ n9_ n10_ n11_ n12_
                    clear hb hbox hg
                    refine hK.out _ _ ⟨(blk_cell BK182.out 0).trans rfl, (blk_cell BK182.out 1).trans rfl, (blk_cell BK182.out 2).trans rfl, (blk_cell BK182.out 3).trans rfl, (blk_cell BK182.out 4).trans rfl, (blk_cell BK183.out 0).trans rfl, HS6_⟩ (fun hHeld => ?_)
                    clear hK K
                    refine norm_ (a' := ?_) ?_ ?_
                    rotate_left
                    · show Act.put _ (some 8) _ = _
                      simp only [Act.put, List.setIfInBounds_toArray, List.set_cons_zero, List.set_cons_succ, i64_w, i32_w]
                      rfl
                    exact norm_ (by simp only [putAll, Act.put, List.setIfInBounds_toArray, List.set_cons_zero, List.set_cons_succ]) (hCont (v186, gb189) _ ⟨hHeld, (by (with_reducible repeat (first | apply Kd.R_alloc | apply Kd.R_drewN | apply Kd.R_drew)); exact Kd.R_mono HO187.out (fun _ hk => hk.2)), (by (with_reducible repeat (first | apply Kd.Q_alloc | apply Kd.Q_drewN | apply Kd.Q_drew)); exact Kd.Q_mono HO_184000.out (fun _ hk => hk.2)), (by (with_reducible repeat (first | apply Kd.R_alloc | apply Kd.R_drewN | apply Kd.R_drew)); exact HO_3.out), (by (with_reducible repeat (first | refine blk_drewN ?_ _ | refine blk_drew ?_ | refine blk_alloc ?_ _)); exact BK182.out), (by (with_reducible repeat (first | refine blk_drewN ?_ _ | refine blk_drew ?_ | refine blk_alloc ?_ _)); exact BK183.out), (by (with_reducible repeat (first | refine blk_drewN ?_ _ | refine blk_drew ?_ | refine blk_alloc ?_ _)); exact BK189.out), GW189.out, GE189.out, NB182_189.out, NB189_182.out, NB183_189.out, NB189_183.out, (by repeat (first | (with_reducible first | exact HB.out | apply below_alloc | apply pw_below_drewN | apply below_drew1 | refine below_set ?_ GE182.out | refine below_set ?_ GE183.out | refine below_set ?_ GE189.out) | exact HB.out))⟩)
                  · skip
                    refine box_step ?hg (N := 8) ?hd (cs := #[.slice none 0 0]) (t := 73) ?hr ?_; (case hd => rfl); (case hg => rfl); (case hr => first | (go_simp; done) | (go_simp; rfl))
                    intro gb189 hg w20 hbox hb
                    have HS6_ := (hb.cell (World.block_lt_of_cell? _ _ (hHeld.2.2.2.2.2.2))).trans (hHeld.2.2.2.2.2.2)
                    have n0_ := Aside0.mk (Kd.R_below (by (with_reducible repeat (first | apply Kd.R_alloc | apply Kd.R_drewN | apply Kd.R_drew)); exact HO_3.out) hb)
                    have n1_ := Aside0.mk (Kd.Q_below (by (with_reducible repeat (first | apply Kd.Q_alloc | apply Kd.Q_drewN | apply Kd.Q_drew)); exact HO_184000.out) hb)
                    have n2_ := Aside0.mk (blk_below (g := gb182) (o := .cells #[.int .i64 1, .int .i64 1, .int .i64 2, .int .i64 (wrap64 (1 + (Int.tmod (rd t178 0) 6))), .int .i64 0] 33 (0, 0)) (by (with_reducible repeat (first | refine blk_drewN ?_ _ | refine blk_drew ?_ | refine blk_alloc ?_ _)); exact BK182.out) hb)
                    have n3_ := Aside0.mk (blk_below (g := gb183) (o := .cells #[.slice Ao18 x184000_1.length co18] 73 (0, 0)) (by (with_reducible repeat (first | refine blk_drewN ?_ _ | refine blk_drew ?_ | refine blk_alloc ?_ _)); exact BK183.out) hb)
                    have n4_ := Aside0.mk (below_step (by repeat (first | (with_reducible first | exact HB.out | apply below_alloc | apply pw_below_drewN | apply below_drew1 | refine below_set ?_ GE182.out | refine below_set ?_ GE183.out) | exact HB.out)) hb)
                    have n5_ := Aside0.mk (hbox)
                    have n6_ := Aside0.mk ((by rw [hg]; exact (below_size (by repeat (first | (with_reducible first | exact HB.out | apply below_alloc | apply pw_below_drewN | apply below_drew1 | refine below_set ?_ GE182.out | refine below_set ?_ GE183.out) | exact HB.out))) : w.heap.size ≤ gb189))
                    have n7_ := Aside0.mk ((by rw [hg]; exact (below_size (by repeat (first | (with_reducible first | exact HB.out | apply below_alloc | apply pw_below_drewN | apply below_drew1 | refine below_set ?_ GE182.out | refine below_set ?_ GE183.out) | exact HB.out))) : w.heap.size ≤ gb189))
                    have n8_ := Aside0.mk ((by rw [hg]; exact Nat.ne_of_lt (blk_lt (g := gb182) (o := .cells #[.int .i64 1, .int .i64 1, .int .i64 2, .int .i64 (wrap64 (1 + (Int.tmod (rd t178 0) 6))), .int .i64 0] 33 (0, 0)) (by (with_reducible repeat (first | refine blk_drewN ?_ _ | refine blk_drew ?_ | refine blk_alloc ?_ _)); exact BK182.out)) : gb182 ≠ gb189))
                    have n9_ := Aside0.mk ((by rw [hg]; exact Nat.ne_of_gt (blk_lt (g := gb182) (o := .cells #[.int .i64 1, .int .i64 1, .int .i64 2, .int .i64 (wrap64 (1 + (Int.tmod (rd t178 0) 6))), .int .i64 0] 33 (0, 0)) (by (with_reducible repeat (first | refine blk_drewN ?_ _ | refine blk_drew ?_ | refine blk_alloc ?_ _)); exact BK182.out)) : gb189 ≠ gb182))
                    have n10_ := Aside0.mk ((by rw [hg]; exact Nat.ne_of_lt (blk_lt (g := gb183) (o := .cells #[.slice Ao18 x184000_1.length co18] 73 (0, 0)) (by (with_reducible repeat (first | refine blk_drewN ?_ _ | refine blk_drew ?_ | refine blk_alloc ?_ _)); exact BK183.out)) : gb183 ≠ gb189))
                    have n11_ := Aside0.mk ((by rw [hg]; exact Nat.ne_of_gt (blk_lt (g := gb183) (o := .cells #[.slice Ao18 x184000_1.length co18] 73 (0, 0)) (by (with_reducible repeat (first | refine blk_drewN ?_ _ | refine blk_drew ?_ | refine blk_alloc ?_ _)); exact BK183.out)) : gb189 ≠ gb183))
                    clear HO_3
                    clear HO_184000
                    clear BK182
                    clear BK183
                    clear HB
                    have HO_3 := n0_
                    have HO_184000 := n1_
                    have BK182 := n2_
                    have BK183 := n3_
                    have HB := n4_
                    have BK189 := n5_
                    have GW189 := n6_
                    have GE189 := n7_
                    have NB182_189 := n8_
                    have NB189_182 := n9_
                    have NB183_189 := n10_
                    have NB189_183 := n11_
                    clear n0_ n1_ n2_ n3_ n4_ n5_ n6_ n7_ n8_ n9_ n10_ n11_
                    clear hb hbox hg
                    refine hK.out _ _ ⟨(blk_cell BK182.out 0).trans rfl, (blk_cell BK182.out 1).trans rfl, (blk_cell BK182.out 2).trans rfl, (blk_cell BK182.out 3).trans rfl, (blk_cell BK182.out 4).trans rfl, (blk_cell BK183.out 0).trans rfl, HS6_⟩ (fun hHeld => ?_)
                    clear hK K
                    refine norm_ (a' := ?_) ?_ ?_
                    rotate_left
                    · show Act.put _ (some 8) _ = _
                      simp only [Act.put, List.setIfInBounds_toArray, List.set_cons_zero, List.set_cons_succ, i64_w, i32_w]
                      rfl
                    refine one_ (i := 7) (N := some 40) #[true, true, true, true, true, true, true, true, false, false, false, true, false, false] rfl rfl (one_of HT_.out (by kernel_rfl)) (by decide) (fun K hK => ?_)
                    refine goes_ Try.func47 (by kernel_rfl) rfl #[.agg #[.int .i64 1, .int .i64 1, .int .i64 2, .int .i64 (wrap64 (1 + (Int.tmod (rd t178 0) 6))), .int .i64 0], .agg #[.slice Ao18 x184000_1.length co18], .int .i64 (rd t178 x7_1), .int .i64 x7_1] (by rfl) rfl rfl (by (try simp only [List.map_toArray, List.map_cons, List.map_nil]); first | done | rfl | (simp only [List.length_drop, List.length_take]; rfl)) ?_
                    with_reducible refine (impl_SendPort.calls k1 1 1 2 (wrap64 (1 + (Int.tmod (rd t178 0) 6))) 0 _ _ x184000_1 (rd t178 x7_1) x7_1 t185 t188 _ ?side1 ?side2 A16.out).mono ?_
                    (case side1 => repeat (first | exact (Kd.Q_reads' HO_184000.out).2.2 | (with_reducible refine Kd.C_alloc ?_ _) | (with_reducible refine Kd.C_drewN ?_ _) | (with_reducible refine Kd.C_drew ?_)))
                    (case side2 => exact (Kd.Q_reads' HO_184000.out).2.1)
                    rintro e w21 ⟨v186, rfl, ho0, hb⟩
                    have HS6_ := (hb.cell (World.block_lt_of_cell? _ _ (hHeld.2.2.2.2.2.2))).trans (hHeld.2.2.2.2.2.2)
                    refine ⟨_, rfl, ?_⟩
                    have n0_ := Aside0.mk (Kd.R_below (by (with_reducible repeat (first | apply Kd.R_alloc | apply Kd.R_drewN | apply Kd.R_drew)); exact HO_3.out) hb)
                    have n1_ := Aside0.mk (Kd.Q_elder' (by (with_reducible repeat (first | apply Kd.Q_alloc | apply Kd.Q_drewN | apply Kd.Q_drew)); exact HO_184000.out) (Kd.R_base ho0) hb)
                    have n2_ := Aside0.mk (Kd.R_lower (Kd.R_new' ho0 (Kd.Q_lt (by (with_reducible repeat (first | apply Kd.Q_alloc | apply Kd.Q_drewN | apply Kd.Q_drew)); exact HO_184000.out))) (below_size (by repeat (first | (with_reducible first | exact HB.out | apply below_alloc | apply pw_below_drewN | apply below_drew1 | refine below_set ?_ GE182.out | refine below_set ?_ GE183.out | refine below_set ?_ GE189.out) | exact HB.out))))
                    have n3_ := Aside0.mk (blk_below (g := gb182) (o := .cells #[.int .i64 1, .int .i64 1, .int .i64 2, .int .i64 (wrap64 (1 + (Int.tmod (rd t178 0) 6))), .int .i64 0] 33 (0, 0)) (by (with_reducible repeat (first | refine blk_drewN ?_ _ | refine blk_drew ?_ | refine blk_alloc ?_ _)); exact BK182.out) hb)
                    have n4_ := Aside0.mk (blk_below (g := gb183) (o := .cells #[.slice Ao18 x184000_1.length co18] 73 (0, 0)) (by (with_reducible repeat (first | refine blk_drewN ?_ _ | refine blk_drew ?_ | refine blk_alloc ?_ _)); exact BK183.out) hb)
                    have n5_ := Aside0.mk (blk_below (g := gb189) (o := .cells #[.slice none 0 0] 73 (0, 0)) (by (with_reducible repeat (first | refine blk_drewN ?_ _ | refine blk_drew ?_ | refine blk_alloc ?_ _)); exact BK189.out) hb)
                    have n6_ := Aside0.mk (below_step (by repeat (first | (with_reducible first | exact HB.out | apply below_alloc | apply pw_below_drewN | apply below_drew1 | refine below_set ?_ GE182.out | refine below_set ?_ GE183.out | refine below_set ?_ GE189.out) | exact HB.out)) hb)
                    clear HO_3
                    clear HO_184000
                    clear BK182
                    clear BK183
                    clear BK189
                    clear HB
                    have HO_3 := n0_
                    have HO_184000 := n1_
                    have HO187 := n2_
                    have BK182 := n3_
                    have BK183 := n4_
                    have BK189 := n5_
                    have HB := n6_
                    clear n0_ n1_ n2_ n3_ n4_ n5_ n6_
                    (try clear hb)
                    (try clear hb2)
                    (try clear hk)
                    (try clear hi)
                    (try clear ho0)
                    refine hK.out _ _ ⟨(blk_cell BK182.out 0).trans rfl, (blk_cell BK182.out 1).trans rfl, (blk_cell BK182.out 2).trans rfl, (blk_cell BK182.out 3).trans rfl, (blk_cell BK182.out 4).trans rfl, (blk_cell BK183.out 0).trans rfl, HS6_⟩ (fun hHeld => ?_)
                    clear hK K
                    refine norm_ (a' := ?_) ?_ ?_
                    rotate_left
                    · show Act.put _ (some 40) _ = _
                      simp only [Act.put, List.setIfInBounds_toArray, List.set_cons_zero, List.set_cons_succ, i64_w, i32_w]
                      rfl
                    refine pure_ (i := 8) (N := some 32) (v := ?_) (a' := ?_) #[true, true, true, true, true, true, true, true, true, false, false, true, false, false] rfl rfl (any_of HT_.out (by kernel_rfl)) (fun _ _ _ h => h) (Or.inl ⟨by rfl, ?_⟩) ?_ ?_
                    rotate_left
                    · intro w'
                      go_simp
                      with_reducible rfl
                    rotate_left
                    · simp only [Act.put, List.setIfInBounds_toArray, List.set_cons_zero, List.set_cons_succ, i64_w, i32_w]
                      rfl
                    refine pure_ (i := 9) (N := some 41) (v := ?_) (a' := ?_) #[true, true, true, true, true, true, true, true, true, true, false, true, false, false] rfl rfl (any_of HT_.out (by kernel_rfl)) (fun _ _ _ h => h) (Or.inl ⟨by rfl, ?_⟩) ?_ ?_
                    rotate_left
                    · intro w'
                      go_simp
                      with_reducible rfl
                    rotate_left
                    · simp only [Act.put, List.setIfInBounds_toArray, List.set_cons_zero, List.set_cons_succ, i64_w, i32_w]
                      rfl
                    refine pure_ (i := 10) (N := some 42) (v := ?_) (a' := ?_) #[true, true, true, true, true, true, true, true, true, true, true, true, false, false] rfl rfl (any_of HT_.out (by kernel_rfl)) (fun _ _ _ h => h) (Or.inl ⟨by rfl, ?_⟩) ?_ ?_
                    rotate_left
                    · intro w'
                      go_simp
                      with_reducible rfl
                    rotate_left
                    · simp only [Act.put, List.setIfInBounds_toArray, List.set_cons_zero, List.set_cons_succ, i64_w, i32_w]
                      rfl
                    exact norm_ (by simp only [putAll, Act.put, List.setIfInBounds_toArray, List.set_cons_zero, List.set_cons_succ]) (hCont (v186, gb189) _ ⟨hHeld, (by (with_reducible repeat (first | apply Kd.R_alloc | apply Kd.R_drewN | apply Kd.R_drew)); exact Kd.R_mono HO187.out (fun _ hk => hk.2)), (by (with_reducible repeat (first | apply Kd.Q_alloc | apply Kd.Q_drewN | apply Kd.Q_drew)); exact Kd.Q_mono HO_184000.out (fun _ hk => hk.2)), (by (with_reducible repeat (first | apply Kd.R_alloc | apply Kd.R_drewN | apply Kd.R_drew)); exact HO_3.out), (by (with_reducible repeat (first | refine blk_drewN ?_ _ | refine blk_drew ?_ | refine blk_alloc ?_ _)); exact BK182.out), (by (with_reducible repeat (first | refine blk_drewN ?_ _ | refine blk_drew ?_ | refine blk_alloc ?_ _)); exact BK183.out), (by (with_reducible repeat (first | refine blk_drewN ?_ _ | refine blk_drew ?_ | refine blk_alloc ?_ _)); exact BK189.out), GW189.out, GE189.out, NB182_189.out, NB189_182.out, NB183_189.out, NB189_183.out, (by repeat (first | (with_reducible first | exact HB.out | apply below_alloc | apply pw_below_drewN | apply below_drew1 | refine below_set ?_ GE182.out | refine below_set ?_ GE183.out | refine below_set ?_ GE189.out) | exact HB.out))⟩)
                rintro ⟨v186, gb189⟩ w22 ⟨hS_, h0_, h1_, h2_, h3_, h4_, h5_, h6_, h7_, h8_, h9_, h10_, h11_, h12_⟩
                have n0_ : Aside0 (Kd.R k114 114 w22 w.heap.size (fun k_ => some k_ ≠ (.slice Ao18 x184000_1.length co18 : Value).ownBlock) v186 t185) := ⟨h0_⟩
                have n1_ : Aside0 (Kd.Q k114 114 w22 w.heap.size (fun k_ => some k_ ≠ (v186 : Value).ownBlock) (.slice Ao18 x184000_1.length co18) x184000_1) := ⟨h1_⟩
                have n2_ : Aside0 (Kd.R (Kd.int .i64) 3 w22 w.heap.size (fun _ => True) (.slice (some ad181) t178.length co7) t178) := ⟨h2_⟩
                have n3_ : Aside0 (w22.heap[gb182]? = some (.cells #[.int .i64 1, .int .i64 1, .int .i64 2, .int .i64 (wrap64 (1 + (Int.tmod (rd t178 0) 6))), .int .i64 0] 33 (0, 0))) := ⟨h3_⟩
                have n4_ : Aside0 (w22.heap[gb183]? = some (.cells #[.slice Ao18 x184000_1.length co18] 73 (0, 0))) := ⟨h4_⟩
                have n5_ : Aside0 (w22.heap[gb189]? = some (.cells #[.slice none 0 0] 73 (0, 0))) := ⟨h5_⟩
                have n6_ : Aside0 (w.heap.size ≤ gb189) := ⟨h6_⟩
                have n7_ : Aside0 (w.heap.size ≤ gb189) := ⟨h7_⟩
                have n8_ : Aside0 (gb182 ≠ gb189) := ⟨h8_⟩
                have n9_ : Aside0 (gb189 ≠ gb182) := ⟨h9_⟩
                have n10_ : Aside0 (gb183 ≠ gb189) := ⟨h10_⟩
                have n11_ : Aside0 (gb189 ≠ gb183) := ⟨h11_⟩
                have n12_ : Aside0 (Below w.heap.size w w22) := ⟨h12_⟩
                clear HO_3
                clear HO_184000
                clear BK182
                clear BK183
                clear HB
                clear h0_ h1_ h2_ h3_ h4_ h5_ h6_ h7_ h8_ h9_ h10_ h11_ h12_
                have HO187 := n0_
                have HO_184000 := n1_
                have HO_3 := n2_
                have BK182 := n3_
                have BK183 := n4_
                have BK189 := n5_
                have GW189 := n6_
                have GE189 := n7_
                have NB182_189 := n8_
                have NB189_182 := n9_
                have NB183_189 := n10_
                have NB189_183 := n11_
                have HB := n12_
                clear n0_ n1_ n2_ n3_ n4_ n5_ n6_ n7_ n8_ n9_ n10_ n11_ n12_
                have hHeld : w22.cell? ⟨gb182, 0, none⟩ = some (.int .i64 1) ∧ w22.cell? ⟨gb182, 1, none⟩ = some (.int .i64 1) ∧ w22.cell? ⟨gb182, 2, none⟩ = some (.int .i64 2) ∧ w22.cell? ⟨gb182, 3, none⟩ = some (.int .i64 (wrap64 (1 + (Int.tmod (rd t178 0) 6)))) ∧ w22.cell? ⟨gb182, 4, none⟩ = some (.int .i64 0) ∧ w22.cell? ⟨gb183, 0, none⟩ = some (.slice Ao18 x184000_1.length co18) ∧ w22.cell? (ad181.add (x7_1).toNat) = some (.int .i64 (rd t178 x7_1)) := hS_
                obtain ⟨Ao23, co23, eo23⟩ := Kd.R_slice HO187.out
                (first | subst eo23 | (injection eo23 with f1_ f2_ f3_; have f4_ := f1_.symm; have f5_ := f3_.symm; clear f1_ f2_ f3_; subst f4_; subst f5_))
                refine norm_ (a' := ?_) ?_ ?_
                rotate_left
                · simp only [putAll, Act.put, List.setIfInBounds_toArray, List.set_cons_zero, List.set_cons_succ]
                  rfl
                refine one_ (i := 12) (N := none) #[true, true, true, true, true, true, true, true, true, true, true, true, true, false] rfl rfl (one_of HT_.out (by kernel_rfl)) (by decide) (fun K hK => ?_)
                have hs24 : w22.cell? ⟨gb189, 0, none⟩ = some (.slice none 0 0) := (blk_cell BK189.out 0).trans rfl
                have hfs24 := blk_frozen BK189.out 0
                have hns24_0 := NB182_189.out
                have hns24_1 := NB183_189.out
                have hms24_0 := NB189_182.out
                have hms24_1 := NB189_183.out
                refine skip_ (w1 := ?_) (by rfl) rfl ?_ ?_
                rotate_left
                · go_simp
                  rfl
                refine hK.out _ _ ⟨((cell_far (p := ⟨gb189, _, none⟩) NB182_189.out _).trans (hHeld.1)), ((cell_far (p := ⟨gb189, _, none⟩) NB182_189.out _).trans (hHeld.2.1)), ((cell_far (p := ⟨gb189, _, none⟩) NB182_189.out _).trans (hHeld.2.2.1)), ((cell_far (p := ⟨gb189, _, none⟩) NB182_189.out _).trans (hHeld.2.2.2.1)), ((cell_far (p := ⟨gb189, _, none⟩) NB182_189.out _).trans (hHeld.2.2.2.2.1)), ((cell_far (p := ⟨gb189, _, none⟩) NB183_189.out _).trans (hHeld.2.2.2.2.2.1)), ((cell_far (p := ⟨gb189, _, none⟩) (by first | exact Kd.own_blk (Kd.R_ne HO_3.out BK189.out (by decide)) | (rw [add_block]; exact Kd.own_blk (Kd.R_ne HO_3.out BK189.out (by decide))) | (show (Addr.add _ _).block ≠ _; rw [add_block]; exact Kd.own_blk (Kd.R_ne HO_3.out BK189.out (by decide))) | (dsimp only; exact Kd.own_blk (Kd.R_ne HO_3.out BK189.out (by decide)))) _).trans (hHeld.2.2.2.2.2.2))⟩ (fun hHeld => ?_)
                clear hK K
                refine pure_ (i := 13) (N := some 9) (v := ?_) (a' := ?_) #[true, true, true, true, true, true, true, true, true, true, true, true, true, true] rfl rfl (any_of HT_.out (by kernel_rfl)) (fun _ _ _ h => h) (Or.inl ⟨by rfl, ?_⟩) ?_ ?_
                rotate_left
                · intro w'
                  go_simp
                  with_reducible rfl
                rotate_left
                · simp only [Act.put, List.setIfInBounds_toArray, List.set_cons_zero, List.set_cons_succ, i64_w, i32_w]
                  rfl
                refine done_ (done_of HT_.out (by kernel_rfl)) ?_
                go_upto_region 11 with (fail)
                go_cut [57] (fun v57 wc => ∃ (kq : Nat) (x57_16 : Bool), v57 = .bool x57_16 ∧ Aside0 (laws_FnQueues.j1 kq t178 x6_1 x7_1 t188 x57_16 1 1 2 (wrap64 (1 + (Int.tmod (rd t178 0) 6))) 0 t185 = some r) ∧ Aside0 (kq ≤ k1) ∧ Aside0 (Kd.R (Kd.int .i64) 3 wc w.heap.size (fun _ => True) (.slice (some ad181) t178.length co7) t178) ∧ Aside0 (Kd.Q k114 114 wc w.heap.size (fun k_ => some k_ ≠ ((.slice Ao23 t185.length co23) : Value).ownBlock) (.slice Ao18 x184000_1.length co18) x184000_1) ∧ Aside0 (Kd.Q k114 114 wc w.heap.size (fun k_ => some k_ ≠ ((.slice Ao18 x184000_1.length co18) : Value).ownBlock) (.slice Ao23 t185.length co23) t185) ∧ Aside0 (wc.heap[gb182]? = some (.cells #[.int .i64 1, .int .i64 1, .int .i64 2, .int .i64 (wrap64 (1 + (Int.tmod (rd t178 0) 6))), .int .i64 0] 33 (0, 0))) ∧ Aside0 (wc.heap[gb183]? = some (.cells #[(.slice Ao18 x184000_1.length co18)] 73 (0, 0))) ∧ Aside0 (wc.heap[gb189]? = some (.cells #[(.slice Ao23 t185.length co23)] 73 (0, 0))) ∧ Aside0 (Below w.heap.size w wc))
                case first =>
                  have H := HC17.out
                  clear HC17
                  by_cases c25 : ((t188 == 0) != (decide (x7_1 < (wrap64 (1 + (Int.tmod (rd t178 0) 6)))))) = true
                  · rw [if_pos c25] at H
                    have c25b0 : ((t188 == 0) != (decide (x7_1 < (wrap64 (1 + (Int.tmod (rd t178 0) 6)))))) = true := c25
                    (try (have c25b1 : decide ((t188 == 0) = (decide (x7_1 < (wrap64 (1 + (Int.tmod (rd t178 0) 6)))))) = false := by simpa using c25))
                    (try (have c25b2 : ((t188 == 0) == (decide (x7_1 < (wrap64 (1 + (Int.tmod (rd t178 0) 6)))))) = false := by simpa using c25))
                    (try (have c25b3 : ¬ ((t188 == 0) = (decide (x7_1 < (wrap64 (1 + (Int.tmod (rd t178 0) 6)))))) := by simpa using c25))
                    clear c25
                    (first | rw [c25b0] | (simp only [i64_w, i32_w]; rw [c25b0]) | skip)
                    have H' := Aside0.mk H
                    clear H
                    have hnb26 := NB182_183.out
                    have hnc26 := NB183_182.out
                    have hnb27 := NB182_189.out
                    have hnc27 := NB189_182.out
                    have hcz28_0 : w22.cell? ⟨gb182, 0, none⟩ = some (.int .i64 1) := (blk_cell BK182.out 0).trans rfl
                    have hcz28_1 : w22.cell? ⟨gb182, 1, none⟩ = some (.int .i64 1) := (blk_cell BK182.out 1).trans rfl
                    have hcz28_2 : w22.cell? ⟨gb182, 2, none⟩ = some (.int .i64 2) := (blk_cell BK182.out 2).trans rfl
                    have hcz28_3 : w22.cell? ⟨gb182, 3, none⟩ = some (.int .i64 (wrap64 (1 + (Int.tmod (rd t178 0) 6)))) := (blk_cell BK182.out 3).trans rfl
                    have hcz28_4 : w22.cell? ⟨gb182, 4, none⟩ = some (.int .i64 0) := (blk_cell BK182.out 4).trans rfl
                    have hfz28_0 := blk_frozen BK182.out 0
                    have hfz28_1 := blk_frozen BK182.out 1
                    have hfz28_2 := blk_frozen BK182.out 2
                    have hfz28_3 := blk_frozen BK182.out 3
                    have hfz28_4 := blk_frozen BK182.out 4
                    go_wp2
                    go_meet
                    case rel => exact ⟨_, (true), (by first | rfl | (simp; done) | (simp [*]; done)), H', ⟨by have := HK1.out; first | omega | exact Nat.le_refl _⟩, ⟨by (with_reducible repeat (first | apply Kd.R_alloc | apply Kd.R_drewN | apply Kd.R_drew)); exact Kd.R_mono (Kd.R_far (p := ⟨gb189, 0, none⟩) (Kd.R_types HO_3.out BK189.out (by decide)) (fun _ hk => hk.2) (.slice Ao23 t185.length co23)) (fun _ hk => trivial)⟩, ⟨by (with_reducible repeat (first | apply Kd.Q_alloc | apply Kd.Q_drewN | apply Kd.Q_drew)); exact Kd.Q_mono (Kd.Q_far (p := ⟨gb189, 0, none⟩) (Kd.Q_types HO_184000.out BK189.out (by decide)) (fun _ hk => hk.2) (.slice Ao23 t185.length co23)) (fun _ hk => hk.1)⟩, ⟨Kd.Q_of_R (by (with_reducible repeat (first | apply Kd.R_alloc | apply Kd.R_drewN | apply Kd.R_drew)); exact Kd.R_mono (Kd.R_far (p := ⟨gb189, 0, none⟩) (Kd.R_types HO187.out BK189.out (by decide)) (fun _ hk => hk.2) (.slice Ao23 t185.length co23)) (fun _ hk => hk.1))⟩, ⟨by (with_reducible repeat (first | refine blk_drewN ?_ _ | refine blk_drew ?_ | refine blk_alloc ?_ _)); refine blk_far ?_ NB182_189.out _; (with_reducible repeat (first | refine blk_drewN ?_ _ | refine blk_drew ?_ | refine blk_alloc ?_ _)); exact BK182.out⟩, ⟨by (with_reducible repeat (first | refine blk_drewN ?_ _ | refine blk_drew ?_ | refine blk_alloc ?_ _)); refine blk_far ?_ NB183_189.out _; (with_reducible repeat (first | refine blk_drewN ?_ _ | refine blk_drew ?_ | refine blk_alloc ?_ _)); exact BK183.out⟩, ⟨by (with_reducible repeat (first | refine blk_drewN ?_ _ | refine blk_drew ?_ | refine blk_alloc ?_ _)); refine blk_put (cs := #[.slice none 0 0]) ?_ 0 _ rfl; (with_reducible repeat (first | refine blk_drewN ?_ _ | refine blk_drew ?_ | refine blk_alloc ?_ _)); exact BK189.out⟩, ⟨by repeat (first | (with_reducible first | exact HB.out | apply below_alloc | apply pw_below_drewN | apply below_drew1 | refine below_set ?_ GE182.out | refine below_set ?_ GE183.out | refine below_set ?_ GE189.out) | exact HB.out)⟩⟩
                  · rw [if_neg c25] at H
                    have c25b0 : ((t188 == 0) != (decide (x7_1 < (wrap64 (1 + (Int.tmod (rd t178 0) 6)))))) = false := by simpa using c25
                    (try (have c25b1 : decide ((t188 == 0) = (decide (x7_1 < (wrap64 (1 + (Int.tmod (rd t178 0) 6)))))) = true := by simpa using c25))
                    (try (have c25b2 : ((t188 == 0) == (decide (x7_1 < (wrap64 (1 + (Int.tmod (rd t178 0) 6)))))) = true := by simpa using c25))
                    clear c25
                    (first | rw [c25b0] | (simp only [i64_w, i32_w]; rw [c25b0]) | skip)
                    by_cases c29 : t188 = 0
                    · rw [if_pos c29] at H
                      have c29b0 : (t188 == 0) = true := beq_iff_eq.mpr c29
                      have c29b1 : (t188 != 0) = false := bne_eq_false_iff_eq.mpr c29
                      have c29x : decide (x7_1 < (wrap64 (1 + (Int.tmod (rd t178 0) 6)))) = true := by simpa [c29b0] using c25b0
                      clear c29
                      have H' := Aside0.mk H
                      clear H
                      have hnb30 := NB182_183.out
                      have hnc30 := NB183_182.out
                      have hnb31 := NB182_189.out
                      have hnc31 := NB189_182.out
                      have hcz32_0 : w22.cell? ⟨gb182, 0, none⟩ = some (.int .i64 1) := (blk_cell BK182.out 0).trans rfl
                      have hcz32_1 : w22.cell? ⟨gb182, 1, none⟩ = some (.int .i64 1) := (blk_cell BK182.out 1).trans rfl
                      have hcz32_2 : w22.cell? ⟨gb182, 2, none⟩ = some (.int .i64 2) := (blk_cell BK182.out 2).trans rfl
                      have hcz32_3 : w22.cell? ⟨gb182, 3, none⟩ = some (.int .i64 (wrap64 (1 + (Int.tmod (rd t178 0) 6)))) := (blk_cell BK182.out 3).trans rfl
                      have hcz32_4 : w22.cell? ⟨gb182, 4, none⟩ = some (.int .i64 0) := (blk_cell BK182.out 4).trans rfl
                      have hfz32_0 := blk_frozen BK182.out 0
                      have hfz32_1 := blk_frozen BK182.out 1
                      have hfz32_2 := blk_frozen BK182.out 2
                      have hfz32_3 := blk_frozen BK182.out 3
                      have hfz32_4 := blk_frozen BK182.out 4
                      go_wp2
                      go_meet
                      case rel => exact ⟨_, (false), (by first | rfl | (simp; done) | (simp [*]; done)), H', ⟨by have := HK1.out; first | omega | exact Nat.le_refl _⟩, ⟨by (with_reducible repeat (first | apply Kd.R_alloc | apply Kd.R_drewN | apply Kd.R_drew)); exact Kd.R_mono (Kd.R_far (p := ⟨gb189, 0, none⟩) (Kd.R_types HO_3.out BK189.out (by decide)) (fun _ hk => hk.2) (.slice Ao23 t185.length co23)) (fun _ hk => trivial)⟩, ⟨by (with_reducible repeat (first | apply Kd.Q_alloc | apply Kd.Q_drewN | apply Kd.Q_drew)); exact Kd.Q_mono (Kd.Q_far (p := ⟨gb189, 0, none⟩) (Kd.Q_types HO_184000.out BK189.out (by decide)) (fun _ hk => hk.2) (.slice Ao23 t185.length co23)) (fun _ hk => hk.1)⟩, ⟨Kd.Q_of_R (by (with_reducible repeat (first | apply Kd.R_alloc | apply Kd.R_drewN | apply Kd.R_drew)); exact Kd.R_mono (Kd.R_far (p := ⟨gb189, 0, none⟩) (Kd.R_types HO187.out BK189.out (by decide)) (fun _ hk => hk.2) (.slice Ao23 t185.length co23)) (fun _ hk => hk.1))⟩, ⟨by (with_reducible repeat (first | refine blk_drewN ?_ _ | refine blk_drew ?_ | refine blk_alloc ?_ _)); refine blk_far ?_ NB182_189.out _; (with_reducible repeat (first | refine blk_drewN ?_ _ | refine blk_drew ?_ | refine blk_alloc ?_ _)); exact BK182.out⟩, ⟨by (with_reducible repeat (first | refine blk_drewN ?_ _ | refine blk_drew ?_ | refine blk_alloc ?_ _)); refine blk_far ?_ NB183_189.out _; (with_reducible repeat (first | refine blk_drewN ?_ _ | refine blk_drew ?_ | refine blk_alloc ?_ _)); exact BK183.out⟩, ⟨by (with_reducible repeat (first | refine blk_drewN ?_ _ | refine blk_drew ?_ | refine blk_alloc ?_ _)); refine blk_put (cs := #[.slice none 0 0]) ?_ 0 _ rfl; (with_reducible repeat (first | refine blk_drewN ?_ _ | refine blk_drew ?_ | refine blk_alloc ?_ _)); exact BK189.out⟩, ⟨by repeat (first | (with_reducible first | exact HB.out | apply below_alloc | apply pw_below_drewN | apply below_drew1 | refine below_set ?_ GE182.out | refine below_set ?_ GE183.out | refine below_set ?_ GE189.out) | exact HB.out)⟩⟩
                    · rw [if_neg c29] at H
                      have c29b0 : (t188 == 0) = false := beq_eq_false_iff_ne.mpr c29
                      have c29b1 : (t188 != 0) = true := bne_iff_ne.mpr c29
                      have c29x : decide (x7_1 < (wrap64 (1 + (Int.tmod (rd t178 0) 6)))) = false := by simpa [c29b0] using c25b0
                      have H' := Aside0.mk H
                      clear H
                      have hnb33 := NB182_183.out
                      have hnc33 := NB183_182.out
                      have hnb34 := NB182_189.out
                      have hnc34 := NB189_182.out
                      have hcz35_0 : w22.cell? ⟨gb182, 0, none⟩ = some (.int .i64 1) := (blk_cell BK182.out 0).trans rfl
                      have hcz35_1 : w22.cell? ⟨gb182, 1, none⟩ = some (.int .i64 1) := (blk_cell BK182.out 1).trans rfl
                      have hcz35_2 : w22.cell? ⟨gb182, 2, none⟩ = some (.int .i64 2) := (blk_cell BK182.out 2).trans rfl
                      have hcz35_3 : w22.cell? ⟨gb182, 3, none⟩ = some (.int .i64 (wrap64 (1 + (Int.tmod (rd t178 0) 6)))) := (blk_cell BK182.out 3).trans rfl
                      have hcz35_4 : w22.cell? ⟨gb182, 4, none⟩ = some (.int .i64 0) := (blk_cell BK182.out 4).trans rfl
                      have hfz35_0 := blk_frozen BK182.out 0
                      have hfz35_1 := blk_frozen BK182.out 1
                      have hfz35_2 := blk_frozen BK182.out 2
                      have hfz35_3 := blk_frozen BK182.out 3
                      have hfz35_4 := blk_frozen BK182.out 4
                      go_wp2
                      go_meet
                      case rel => exact ⟨_, ((t188 != 1)), (by first | rfl | (simp; done) | (simp [*]; done)), H', ⟨by have := HK1.out; first | omega | exact Nat.le_refl _⟩, ⟨by (with_reducible repeat (first | apply Kd.R_alloc | apply Kd.R_drewN | apply Kd.R_drew)); exact Kd.R_mono (Kd.R_far (p := ⟨gb189, 0, none⟩) (Kd.R_types HO_3.out BK189.out (by decide)) (fun _ hk => hk.2) (.slice Ao23 t185.length co23)) (fun _ hk => trivial)⟩, ⟨by (with_reducible repeat (first | apply Kd.Q_alloc | apply Kd.Q_drewN | apply Kd.Q_drew)); exact Kd.Q_mono (Kd.Q_far (p := ⟨gb189, 0, none⟩) (Kd.Q_types HO_184000.out BK189.out (by decide)) (fun _ hk => hk.2) (.slice Ao23 t185.length co23)) (fun _ hk => hk.1)⟩, ⟨Kd.Q_of_R (by (with_reducible repeat (first | apply Kd.R_alloc | apply Kd.R_drewN | apply Kd.R_drew)); exact Kd.R_mono (Kd.R_far (p := ⟨gb189, 0, none⟩) (Kd.R_types HO187.out BK189.out (by decide)) (fun _ hk => hk.2) (.slice Ao23 t185.length co23)) (fun _ hk => hk.1))⟩, ⟨by (with_reducible repeat (first | refine blk_drewN ?_ _ | refine blk_drew ?_ | refine blk_alloc ?_ _)); refine blk_far ?_ NB182_189.out _; (with_reducible repeat (first | refine blk_drewN ?_ _ | refine blk_drew ?_ | refine blk_alloc ?_ _)); exact BK182.out⟩, ⟨by (with_reducible repeat (first | refine blk_drewN ?_ _ | refine blk_drew ?_ | refine blk_alloc ?_ _)); refine blk_far ?_ NB183_189.out _; (with_reducible repeat (first | refine blk_drewN ?_ _ | refine blk_drew ?_ | refine blk_alloc ?_ _)); exact BK183.out⟩, ⟨by (with_reducible repeat (first | refine blk_drewN ?_ _ | refine blk_drew ?_ | refine blk_alloc ?_ _)); refine blk_put (cs := #[.slice none 0 0]) ?_ 0 _ rfl; (with_reducible repeat (first | refine blk_drewN ?_ _ | refine blk_drew ?_ | refine blk_alloc ?_ _)); exact BK189.out⟩, ⟨by repeat (first | (with_reducible first | exact HB.out | apply below_alloc | apply pw_below_drewN | apply below_drew1 | refine below_set ?_ GE182.out | refine below_set ?_ GE183.out | refine below_set ?_ GE189.out) | exact HB.out)⟩⟩
                case rest =>
                  clear HC17
                  try clear c1
                  try clear p1
                  try clear q1
                  try clear hx1
                  try clear qi1
                  try clear c2
                  try clear p2
                  try clear c3
                  try clear c4
                  try clear c5
                  try clear c5b0
                  try clear c5b1
                  try clear p6
                  try clear c11
                  try clear c12
                  try clear c13
                  try clear c13b0
                  try clear c14
                  try clear c14b0
                  try clear c15
                  try clear c15b0
                  try clear p18
                  try clear q18
                  try clear hx18
                  try clear qi18
                  try clear c25
                  try clear c25b0
                  try clear c25b1
                  try clear c25b2
                  try clear c26
                  try clear c27
                  try clear c29
                  try clear c29b0
                  try clear c29b1
                  try clear c30
                  try clear c31
                  try clear c33
                  try clear c34
                  try clear hcz12_0
                  try clear hcz28_0
                  try clear hcz28_1
                  try clear hcz28_2
                  try clear hcz28_3
                  try clear hcz28_4
                  try clear hcz32_0
                  try clear hcz32_1
                  try clear hcz32_2
                  try clear hcz32_3
                  try clear hcz32_4
                  try clear hcz35_0
                  try clear hcz35_1
                  try clear hcz35_2
                  try clear hcz35_3
                  try clear hcz35_4
                  try clear hcz9_0
                  try clear hcz9_1
                  try clear hcz9_2
                  try clear hcz9_3
                  try clear hcz9_4
                  try clear hfz12_0
                  try clear hfz28_0
                  try clear hfz28_1
                  try clear hfz28_2
                  try clear hfz28_3
                  try clear hfz28_4
                  try clear hfz32_0
                  try clear hfz32_1
                  try clear hfz32_2
                  try clear hfz32_3
                  try clear hfz32_4
                  try clear hfz35_0
                  try clear hfz35_1
                  try clear hfz35_2
                  try clear hfz35_3
                  try clear hfz35_4
                  try clear hfz9_0
                  try clear hfz9_1
                  try clear hfz9_2
                  try clear hfz9_3
                  try clear hfz9_4
                  try clear hx181_0
                  try clear hx184_0
                  try clear p1
                  try clear p181
                  try clear p184
                  try clear p2
                  try clear p6
                  try clear q1
                  try clear q181
                  try clear q184
                  obtain ⟨kq, x57_16, rfl, HA, HJ16, HO_3, HO_184000, HO_190000, BK182, BK183, BK189, HB⟩ := hcut
                  cases kq with
                  | zero => exact absurd HA.out (by simp [laws_FnQueues.j1])
                  | succ kj16 =>
                    have H := HA.out
                    clear HA
                    simp only [laws_FnQueues.j1] at H
                    by_cases c36 : x57_16 = true
                    · subst c36
                      have H1 : (some false) = some r := by rw [if_pos rfl] at H; exact H
                      clear H
                      have H := H1
                      clear H1
                      obtain rfl := Option.some.inj H
                      go_wp2
                      go_ret
                      exact ⟨by first | rfl | (simp [errW_none, errW_some] <;> rfl) | (simp [*, errW_none, errW_some] <;> rfl), by repeat (first | (with_reducible first | exact HB.out | apply below_alloc | apply pw_below_drewN | apply below_drew1 | refine below_set ?_ GE182.out | refine below_set ?_ GE183.out | refine below_set ?_ GE189.out) | exact HB.out)⟩
                    · replace c36 := Bool.eq_false_iff.mpr c36
                      subst c36
                      have H1 : (if t188 = 0 then (laws_FnQueues.l0 kj16 t178 (wrap64 (x6_1 + 1)) (wrap64 (x7_1 + 1)) 1 1 2 (wrap64 (1 + (Int.tmod (rd t178 0) 6))) 0 t185) else (laws_FnQueues.l0 kj16 t178 x6_1 (wrap64 (x7_1 + 1)) 1 1 2 (wrap64 (1 + (Int.tmod (rd t178 0) 6))) 0 t185)) = some r := by rw [if_neg (show ¬ (false = true) by decide)] at H; exact H
                      clear H
                      have H := H1
                      clear H1
                      by_cases c37 : t188 = 0
                      · rw [if_pos c37] at H
                        have c37b0 : (t188 == 0) = true := beq_iff_eq.mpr c37
                        have c37b1 : (t188 != 0) = false := bne_eq_false_iff_eq.mpr c37
                        clear c37
                        have H' := Aside0.mk H
                        clear H
                        have hnb38 := NB189_182.out
                        have hnc38 := NB182_189.out
                        have hnb39 := NB189_183.out
                        have hnc39 := NB183_189.out
                        have hcz40_0 : wc.cell? ⟨gb189, 0, none⟩ = some (.slice Ao23 t185.length co23) := (blk_cell BK189.out 0).trans rfl
                        have hfz40_0 := blk_frozen BK189.out 0
                        have hnb41 := NB183_182.out
                        have hnc41 := NB182_183.out
                        have hcz42_0 : wc.cell? ⟨gb183, 0, none⟩ = some (.slice Ao18 x184000_1.length co18) := (blk_cell BK183.out 0).trans rfl
                        have hfz42_0 := blk_frozen BK183.out 0
                        go_wp2
                        go_roundg kj16
                        case measure => have := HK1.out; have := HJ16.out; omega
                        case rel => exact ⟨(wrap64 (x6_1 + 1)), (wrap64 (x7_1 + 1)), (t185), (.slice Ao23 t185.length co23), (by first | rfl | (simp; done) | (simp [*]; done)), (by first | rfl | (simp; done) | (simp [*]; done)), H', ⟨by have := HK1.out; have := HJ16.out; omega⟩, ⟨by (with_reducible repeat (first | apply Kd.R_alloc | apply Kd.R_drewN | apply Kd.R_drew)); exact Kd.R_mono (Kd.R_far (p := ⟨gb183, 0, none⟩) (Kd.R_types HO_3.out BK183.out (by decide)) (fun _ hk => hk.2) (.slice Ao23 t185.length co23)) (fun _ hk => trivial)⟩, ⟨by (with_reducible repeat (first | apply Kd.Q_alloc | apply Kd.Q_drewN | apply Kd.Q_drew)); exact Kd.Q_mono (Kd.Q_far (p := ⟨gb183, 0, none⟩) (Kd.Q_types HO_190000.out BK183.out (by decide)) (fun _ hk => hk.2) (.slice Ao23 t185.length co23)) (fun _ hk => trivial)⟩, ⟨by (with_reducible repeat (first | refine blk_drewN ?_ _ | refine blk_drew ?_ | refine blk_alloc ?_ _)); refine blk_far ?_ NB182_183.out _; (with_reducible repeat (first | refine blk_drewN ?_ _ | refine blk_drew ?_ | refine blk_alloc ?_ _)); exact BK182.out⟩, ⟨by (with_reducible repeat (first | refine blk_drewN ?_ _ | refine blk_drew ?_ | refine blk_alloc ?_ _)); refine blk_put (cs := #[.slice Ao18 x184000_1.length co18]) ?_ 0 _ rfl; (with_reducible repeat (first | refine blk_drewN ?_ _ | refine blk_drew ?_ | refine blk_alloc ?_ _)); exact BK183.out⟩, ⟨by repeat (first | (with_reducible first | exact HB.out | apply below_alloc | apply pw_below_drewN | apply below_drew1 | refine below_set ?_ GE182.out | refine below_set ?_ GE183.out | refine below_set ?_ GE189.out) | exact HB.out)⟩⟩
                      · rw [if_neg c37] at H
                        have c37b0 : (t188 == 0) = false := beq_eq_false_iff_ne.mpr c37
                        have c37b1 : (t188 != 0) = true := bne_iff_ne.mpr c37
                        have H' := Aside0.mk H
                        clear H
                        have hnb43 := NB189_182.out
                        have hnc43 := NB182_189.out
                        have hnb44 := NB189_183.out
                        have hnc44 := NB183_189.out
                        have hcz45_0 : wc.cell? ⟨gb189, 0, none⟩ = some (.slice Ao23 t185.length co23) := (blk_cell BK189.out 0).trans rfl
                        have hfz45_0 := blk_frozen BK189.out 0
                        have hnb46 := NB183_182.out
                        have hnc46 := NB182_183.out
                        have hcz47_0 : wc.cell? ⟨gb183, 0, none⟩ = some (.slice Ao18 x184000_1.length co18) := (blk_cell BK183.out 0).trans rfl
                        have hfz47_0 := blk_frozen BK183.out 0
                        go_wp2
                        go_roundg kj16
                        case measure => have := HK1.out; have := HJ16.out; omega
                        case rel => exact ⟨(x6_1), (wrap64 (x7_1 + 1)), (t185), (.slice Ao23 t185.length co23), (by first | rfl | (simp; done) | (simp [*]; done)), (by first | rfl | (simp; done) | (simp [*]; done)), H', ⟨by have := HK1.out; have := HJ16.out; omega⟩, ⟨by (with_reducible repeat (first | apply Kd.R_alloc | apply Kd.R_drewN | apply Kd.R_drew)); exact Kd.R_mono (Kd.R_far (p := ⟨gb183, 0, none⟩) (Kd.R_types HO_3.out BK183.out (by decide)) (fun _ hk => hk.2) (.slice Ao23 t185.length co23)) (fun _ hk => trivial)⟩, ⟨by (with_reducible repeat (first | apply Kd.Q_alloc | apply Kd.Q_drewN | apply Kd.Q_drew)); exact Kd.Q_mono (Kd.Q_far (p := ⟨gb183, 0, none⟩) (Kd.Q_types HO_190000.out BK183.out (by decide)) (fun _ hk => hk.2) (.slice Ao23 t185.length co23)) (fun _ hk => trivial)⟩, ⟨by (with_reducible repeat (first | refine blk_drewN ?_ _ | refine blk_drew ?_ | refine blk_alloc ?_ _)); refine blk_far ?_ NB182_183.out _; (with_reducible repeat (first | refine blk_drewN ?_ _ | refine blk_drew ?_ | refine blk_alloc ?_ _)); exact BK182.out⟩, ⟨by (with_reducible repeat (first | refine blk_drewN ?_ _ | refine blk_drew ?_ | refine blk_alloc ?_ _)); refine blk_put (cs := #[.slice Ao18 x184000_1.length co18]) ?_ 0 _ rfl; (with_reducible repeat (first | refine blk_drewN ?_ _ | refine blk_drew ?_ | refine blk_alloc ?_ _)); exact BK183.out⟩, ⟨by repeat (first | (with_reducible first | exact HB.out | apply below_alloc | apply pw_below_drewN | apply below_drew1 | refine below_set ?_ GE182.out | refine below_set ?_ GE183.out | refine below_set ?_ GE189.out) | exact HB.out)⟩⟩
              · rw [if_neg c15] at H
                exact absurd H (by simp)
            · rw [if_neg c14] at H
              exact absurd H (by simp)
          · rw [if_neg c13] at H
            have c13b0 : decide (x7_1 < 8) = false := decide_eq_false c13
            clear c13
            have H' := Aside0.mk H
            clear H
            go_wp2
            go_loopg [10] k1 (fun kq v10 w' => ∃ (x10_2 : Int) (x184000_2 : List (S114)) (u184000 : Value), v10 = .int .i64 x10_2 ∧ Aside0 (laws_FnQueues.l1 kq t178 x6_1 x10_2 1 1 2 (wrap64 (1 + (Int.tmod (rd t178 0) 6))) 0 x184000_2 = some r) ∧ Aside0 (kq ≤ k1) ∧ Aside0 (Kd.R (Kd.int .i64) 3 w' w.heap.size (fun _ => True) (.slice (some ad181) t178.length co7) t178) ∧ Aside0 (Kd.Q k114 114 w' w.heap.size (fun _ => True) u184000 x184000_2) ∧ Aside0 (w'.heap[gb182]? = some (.cells #[.int .i64 1, .int .i64 1, .int .i64 2, .int .i64 (wrap64 (1 + (Int.tmod (rd t178 0) 6))), .int .i64 0] 33 (0, 0))) ∧ Aside0 (w'.heap[gb183]? = some (.cells #[u184000] 73 (0, 0))) ∧ Aside0 (Below w.heap.size w w'))
            case atStart => exact ⟨(0), (x184000_1), (u184000), (by first | rfl | (simp; done) | (simp [*]; done)), H', ⟨Nat.le_refl _⟩, ⟨by (with_reducible repeat (first | apply Kd.R_alloc | apply Kd.R_drewN | apply Kd.R_drew)); exact HO_3.out⟩, ⟨by (with_reducible repeat (first | apply Kd.Q_alloc | apply Kd.Q_drewN | apply Kd.Q_drew)); exact HO_184000.out⟩, ⟨by (with_reducible repeat (first | refine blk_drewN ?_ _ | refine blk_drew ?_ | refine blk_alloc ?_ _)); exact BK182.out⟩, ⟨by (with_reducible repeat (first | refine blk_drewN ?_ _ | refine blk_drew ?_ | refine blk_alloc ?_ _)); exact BK183.out⟩, ⟨by repeat (first | (with_reducible first | exact HB.out | apply below_alloc | apply pw_below_drewN | apply below_drew1 | refine below_set ?_ GE182.out | refine below_set ?_ GE183.out) | exact HB.out)⟩⟩
            case round =>
              clear H'
              try clear c1
              try clear p1
              try clear q1
              try clear hx1
              try clear qi1
              try clear c2
              try clear p2
              try clear c3
              try clear c4
              try clear c5
              try clear c5b0
              try clear c5b1
              try clear p6
              try clear c11
              try clear c12
              try clear c13
              try clear c13b0
              try clear c14
              try clear c14b0
              try clear c15
              try clear c15b0
              try clear p18
              try clear q18
              try clear hx18
              try clear qi18
              try clear c25
              try clear c25b0
              try clear c25b1
              try clear c25b2
              try clear c26
              try clear c27
              try clear c29
              try clear c29b0
              try clear c29b1
              try clear c30
              try clear c31
              try clear c33
              try clear c34
              try clear c36
              try clear c37
              try clear c37b0
              try clear c37b1
              try clear c38
              try clear c39
              try clear c41
              try clear c43
              try clear c44
              try clear c46
              try clear c47
              try clear hcz12_0
              try clear hcz28_0
              try clear hcz28_1
              try clear hcz28_2
              try clear hcz28_3
              try clear hcz28_4
              try clear hcz32_0
              try clear hcz32_1
              try clear hcz32_2
              try clear hcz32_3
              try clear hcz32_4
              try clear hcz35_0
              try clear hcz35_1
              try clear hcz35_2
              try clear hcz35_3
              try clear hcz35_4
              try clear hcz40_0
              try clear hcz42_0
              try clear hcz45_0
              try clear hcz47_0
              try clear hcz9_0
              try clear hcz9_1
              try clear hcz9_2
              try clear hcz9_3
              try clear hcz9_4
              try clear hfz12_0
              try clear hfz28_0
              try clear hfz28_1
              try clear hfz28_2
              try clear hfz28_3
              try clear hfz28_4
              try clear hfz32_0
              try clear hfz32_1
              try clear hfz32_2
              try clear hfz32_3
              try clear hfz32_4
              try clear hfz35_0
              try clear hfz35_1
              try clear hfz35_2
              try clear hfz35_3
              try clear hfz35_4
              try clear hfz40_0
              try clear hfz42_0
              try clear hfz45_0
              try clear hfz47_0
              try clear hfz9_0
              try clear hfz9_1
              try clear hfz9_2
              try clear hfz9_3
              try clear hfz9_4
              try clear hx181_0
              try clear hx184_0
              try clear p1
              try clear p18
              try clear p181
              try clear p184
              try clear p2
              try clear p6
              try clear q1
              try clear q18
              try clear q181
              try clear q184
              obtain ⟨x10_2, x184000_2, u184000, rfl, HA, HK2, HO_3, HO_184000, BK182, BK183, HB⟩ := hrel
              cases gk with
              | zero => exact absurd HA.out (by simp [laws_FnQueues.l1])
              | succ k2 =>
                have H := HA.out
                clear HA
                simp only [laws_FnQueues.l1] at H
                by_cases c48 : x10_2 < x6_1
                · rw [if_pos c48] at H
                  have c48b0 : decide (x10_2 < x6_1) = true := decide_eq_true c48
                  clear c48
                  replace H := Option.bind_eq_some_iff.mp H
                  obtain ⟨⟨t190, t193, t194⟩, A490, H⟩ := H
                  replace H : (if t194 = 0 then (if 0 ≤ x10_2 then (if x10_2 < (t178.length : Int) then (if t193 = (rd t178 x10_2) then (laws_FnQueues.l1 k2 t178 x6_1 (wrap64 (x10_2 + 1)) 1 1 2 (wrap64 (1 + (Int.tmod (rd t178 0) 6))) 0 t190) else (some false)) else (none)) else (none)) else (some false)) = some r := H
                  have A49 := Aside0.mk A490
                  clear A490
                  by_cases c50 : t194 = 0
                  · rw [if_pos c50] at H
                    have c50b0 : (t194 == 0) = true := beq_iff_eq.mpr c50
                    have c50b1 : (t194 != 0) = false := bne_eq_false_iff_eq.mpr c50
                    clear c50
                    by_cases c51 : 0 ≤ x10_2
                    · rw [if_pos c51] at H
                      have c51b0 : decide (0 ≤ x10_2) = true := decide_eq_true c51
                      clear c51
                      by_cases c52 : x10_2 < (t178.length : Int)
                      · rw [if_pos c52] at H
                        have c52b0 : decide (x10_2 < (t178.length : Int)) = true := decide_eq_true c52
                        clear c52
                        by_cases c53 : t193 = (rd t178 x10_2)
                        · rw [if_pos c53] at H
                          have c53b0 : (t193 == (rd t178 x10_2)) = true := beq_iff_eq.mpr c53
                          have c53b1 : (t193 != (rd t178 x10_2)) = false := bne_eq_false_iff_eq.mpr c53
                          clear c53
                          have H' := Aside0.mk H
                          clear H
                          have hnb54 := NB182_183.out
                          have hnc54 := NB183_182.out
                          have hcz55_0 : wr.cell? ⟨gb182, 0, none⟩ = some (.int .i64 1) := (blk_cell BK182.out 0).trans rfl
                          have hcz55_1 : wr.cell? ⟨gb182, 1, none⟩ = some (.int .i64 1) := (blk_cell BK182.out 1).trans rfl
                          have hcz55_2 : wr.cell? ⟨gb182, 2, none⟩ = some (.int .i64 2) := (blk_cell BK182.out 2).trans rfl
                          have hcz55_3 : wr.cell? ⟨gb182, 3, none⟩ = some (.int .i64 (wrap64 (1 + (Int.tmod (rd t178 0) 6)))) := (blk_cell BK182.out 3).trans rfl
                          have hcz55_4 : wr.cell? ⟨gb182, 4, none⟩ = some (.int .i64 0) := (blk_cell BK182.out 4).trans rfl
                          have hfz55_0 := blk_frozen BK182.out 0
                          have hfz55_1 := blk_frozen BK182.out 1
                          have hfz55_2 := blk_frozen BK182.out 2
                          have hfz55_3 := blk_frozen BK182.out 3
                          have hfz55_4 := blk_frozen BK182.out 4
                          have hcz56_0 : wr.cell? ⟨gb183, 0, none⟩ = some (u184000) := (blk_cell BK183.out 0).trans rfl
                          have hfz56_0 := blk_frozen BK183.out 0
                          obtain ⟨Ao57, co57, eo57, _⟩ := Kd.Q_slice HO_184000.out
                          subst eo57
                          go_wp2_with (first | ((with_reducible refine gate_callee (f := 48) rfl ?_); refine goesL_ (some 71) rfl rfl Try.func48 (by kernel_rfl) rfl #[.agg #[.int .i64 1, .int .i64 1, .int .i64 2, .int .i64 (wrap64 (1 + (Int.tmod (rd t178 0) 6))), .int .i64 0], .agg #[.slice Ao57 x184000_2.length co57], .int .i64 99] rfl (by (try simp only [List.map_toArray, List.map_cons, List.map_nil]); first | done | rfl | (simp only [List.length_drop, List.length_take]; rfl)) ?_; (with_reducible refine (impl_TakePort.calls k2 1 1 2 (wrap64 (1 + (Int.tmod (rd t178 0) 6))) 0 _ _ x184000_2 99 t190 t193 t194 _ ?side1 ?side2 A49.out).mono ?_); (case side1 => repeat (first | exact (Kd.Q_reads' HO_184000.out).2.2 | (with_reducible refine Kd.C_alloc ?_ _) | (with_reducible refine Kd.C_drewN ?_ _) | (with_reducible refine Kd.C_drew ?_))); (case side2 => exact (Kd.Q_reads' HO_184000.out).2.1); rintro e w58 ⟨v191, rfl, ho0, hb⟩; refine ⟨_, rfl, ?_⟩; have n0_ := Aside0.mk (Kd.R_below (by (with_reducible repeat (first | apply Kd.R_alloc | apply Kd.R_drewN | apply Kd.R_drew)); exact HO_3.out) hb); have n1_ := Aside0.mk (Kd.Q_elder' (by (with_reducible repeat (first | apply Kd.Q_alloc | apply Kd.Q_drewN | apply Kd.Q_drew)); exact HO_184000.out) (Kd.Q_base ho0) hb); have n2_ := Aside0.mk (Kd.Q_lower (Kd.Q_new' ho0 (Kd.Q_lt (by (with_reducible repeat (first | apply Kd.Q_alloc | apply Kd.Q_drewN | apply Kd.Q_drew)); exact HO_184000.out))) (below_size (by repeat (first | (with_reducible first | exact HB.out | apply below_alloc | apply pw_below_drewN | apply below_drew1 | refine below_set ?_ GE182.out | refine below_set ?_ GE183.out) | exact HB.out)))); have n3_ := Aside0.mk (blk_below (g := gb182) (o := .cells #[.int .i64 1, .int .i64 1, .int .i64 2, .int .i64 (wrap64 (1 + (Int.tmod (rd t178 0) 6))), .int .i64 0] 33 (0, 0)) (by (with_reducible repeat (first | refine blk_drewN ?_ _ | refine blk_drew ?_ | refine blk_alloc ?_ _)); exact BK182.out) hb); have n4_ := Aside0.mk (blk_below (g := gb183) (o := .cells #[.slice Ao57 x184000_2.length co57] 73 (0, 0)) (by (with_reducible repeat (first | refine blk_drewN ?_ _ | refine blk_drew ?_ | refine blk_alloc ?_ _)); exact BK183.out) hb); have n5_ := Aside0.mk (below_step (by repeat (first | (with_reducible first | exact HB.out | apply below_alloc | apply pw_below_drewN | apply below_drew1 | refine below_set ?_ GE182.out | refine below_set ?_ GE183.out) | exact HB.out)) hb); clear HO_3; clear HO_184000; clear BK182; clear BK183; clear HB; have HO_3 := n0_; have HO_184000 := n1_; have HO192 := n2_; have BK182 := n3_; have BK183 := n4_; have HB := n5_; clear n0_ n1_ n2_ n3_ n4_ n5_; (try clear hb); (try clear hb2); (try clear hk); (try clear hi); (try clear ho0)) | ((with_reducible refine gate_dst (N := 11) rfl ?_); refine box_event ?hg (N := 11) ?hd (cs := #[.slice none 0 0]) (t := 73) ?hr ?_; (case hd => rfl); (case hg => rfl); (case hr => first | (go_simp; done) | (go_simp; rfl)); intro gb195 hg w59 hbox hb; have n0_ := Aside0.mk (Kd.R_below (by (with_reducible repeat (first | apply Kd.R_alloc | apply Kd.R_drewN | apply Kd.R_drew)); exact HO_3.out) hb); have n1_ := Aside0.mk (Kd.Q_below (by (with_reducible repeat (first | apply Kd.Q_alloc | apply Kd.Q_drewN | apply Kd.Q_drew)); exact HO_184000.out) hb); have n2_ := Aside0.mk (Kd.Q_below (by (with_reducible repeat (first | apply Kd.Q_alloc | apply Kd.Q_drewN | apply Kd.Q_drew)); exact HO192.out) hb); have n3_ := Aside0.mk (blk_below (g := gb182) (o := .cells #[.int .i64 1, .int .i64 1, .int .i64 2, .int .i64 (wrap64 (1 + (Int.tmod (rd t178 0) 6))), .int .i64 0] 33 (0, 0)) (by (with_reducible repeat (first | refine blk_drewN ?_ _ | refine blk_drew ?_ | refine blk_alloc ?_ _)); exact BK182.out) hb); have n4_ := Aside0.mk (blk_below (g := gb183) (o := .cells #[.slice Ao57 x184000_2.length co57] 73 (0, 0)) (by (with_reducible repeat (first | refine blk_drewN ?_ _ | refine blk_drew ?_ | refine blk_alloc ?_ _)); exact BK183.out) hb); have n5_ := Aside0.mk (below_step (by repeat (first | (with_reducible first | exact HB.out | apply below_alloc | apply pw_below_drewN | apply below_drew1 | refine below_set ?_ GE182.out | refine below_set ?_ GE183.out) | exact HB.out)) hb); have n6_ := Aside0.mk (hbox); have n7_ := Aside0.mk ((by rw [hg]; exact (below_size (by repeat (first | (with_reducible first | exact HB.out | apply below_alloc | apply pw_below_drewN | apply below_drew1 | refine below_set ?_ GE182.out | refine below_set ?_ GE183.out) | exact HB.out))) : w.heap.size ≤ gb195)); have n8_ := Aside0.mk ((by rw [hg]; exact (below_size (by repeat (first | (with_reducible first | exact HB.out | apply below_alloc | apply pw_below_drewN | apply below_drew1 | refine below_set ?_ GE182.out | refine below_set ?_ GE183.out) | exact HB.out))) : w.heap.size ≤ gb195)); have n9_ := Aside0.mk ((by rw [hg]; exact Nat.ne_of_lt (blk_lt (g := gb182) (o := .cells #[.int .i64 1, .int .i64 1, .int .i64 2, .int .i64 (wrap64 (1 + (Int.tmod (rd t178 0) 6))), .int .i64 0] 33 (0, 0)) (by (with_reducible repeat (first | refine blk_drewN ?_ _ | refine blk_drew ?_ | refine blk_alloc ?_ _)); exact BK182.out)) : gb182 ≠ gb195)); have n10_ := Aside0.mk ((by rw [hg]; exact Nat.ne_of_gt (blk_lt (g := gb182) (o := .cells #[.int .i64 1, .int .i64 1, .int .i64 2, .int .i64 (wrap64 (1 + (Int.tmod (rd t178 0) 6))), .int .i64 0] 33 (0, 0)) (by (with_reducible repeat (first | refine blk_drewN ?_ _ | refine blk_drew ?_ | refine blk_alloc ?_ _)); exact BK182.out)) : gb195 ≠ gb182)); have n11_ := Aside0.mk ((by rw [hg]; exact Nat.ne_of_lt (blk_lt (g := gb183) (o := .cells #[.slice Ao57 x184000_2.length co57] 73 (0, 0)) (by (with_reducible repeat (first | refine blk_drewN ?_ _ | refine blk_drew ?_ | refine blk_alloc ?_ _)); exact BK183.out)) : gb183 ≠ gb195)); have n12_ := Aside0.mk ((by rw [hg]; exact Nat.ne_of_gt (blk_lt (g := gb183) (o := .cells #[.slice Ao57 x184000_2.length co57] 73 (0, 0)) (by (with_reducible repeat (first | refine blk_drewN ?_ _ | refine blk_drew ?_ | refine blk_alloc ?_ _)); exact BK183.out)) : gb195 ≠ gb183)); clear HO_3; clear HO_184000; clear HO192; clear BK182; clear BK183; clear HB; have HO_3 := n0_; have HO_184000 := n1_; have HO192 := n2_; have BK182 := n3_; have BK183 := n4_; have HB := n5_; have BK195 := n6_; have GW195 := n7_; have GE195 := n8_; have NB182_195 := n9_; have NB195_182 := n10_; have NB183_195 := n11_; have NB195_183 := n12_; clear n0_ n1_ n2_ n3_ n4_ n5_ n6_ n7_ n8_ n9_ n10_ n11_ n12_; clear hb hbox hg; obtain ⟨Ao60, co60, eo60, _⟩ := Kd.Q_slice HO192.out; subst eo60; have hnb61 := NB195_182.out; have hnc61 := NB182_195.out; have hnb62 := NB195_183.out; have hnc62 := NB183_195.out; have hcz63_0 : w59.cell? ⟨gb195, 0, none⟩ = some (.slice none 0 0) := (blk_cell BK195.out 0).trans rfl; have hfz63_0 := blk_frozen BK195.out 0; have p196 : 0 ≤ (x10_2 : Int) := of_decide_eq_true (by first | (with_reducible assumption) | assumption); have q196 : x10_2 < (t178.length : Int) := of_decide_eq_true (by first | (with_reducible assumption) | assumption); obtain ⟨ad196, e196, hx196_0⟩ := Kd.at_int (Kd.R_reads' HO_3.out).2.2 x10_2 p196 q196; obtain rfl : ad181 = ad196 := (by injection e196); have hn196_0 : ad181.block ≠ gb195 := Kd.own_blk (Kd.R_ne HO_3.out BK195.out (by decide)); replace hx196_0 := (cell_far (p := ⟨gb195, 0, none⟩) (by first | (rw [add_block]; exact hn196_0) | (show (Addr.add _ _).block ≠ _; rw [add_block]; exact hn196_0) | exact hn196_0) (.slice Ao60 t190.length co60)).trans hx196_0; clear hn196_0; replace p196 := eq_true p196; replace q196 := eq_true q196; have hcz64_0 : w59.cell? ⟨gb183, 0, none⟩ = some (.slice Ao57 x184000_2.length co57) := (blk_cell BK183.out 0).trans rfl; have hfz64_0 := blk_frozen BK183.out 0))
                          go_roundg k2
                          case measure => have := HK1.out; have := HK2.out; omega
                          case rel => exact ⟨(wrap64 (x10_2 + 1)), (t190), (.slice Ao60 t190.length co60), (by first | rfl | (simp; done) | (simp [*]; done)), H', ⟨by have := HK1.out; have := HK2.out; omega⟩, ⟨by (with_reducible repeat (first | apply Kd.R_alloc | apply Kd.R_drewN | apply Kd.R_drew)); exact Kd.R_mono (Kd.R_far (p := ⟨gb183, 0, none⟩) (Kd.R_far (p := ⟨gb195, 0, none⟩) (Kd.R_types (Kd.R_types HO_3.out BK195.out (by decide)) BK183.out (by decide)) (fun _ hk => hk.1.2) (.slice Ao60 t190.length co60)) (fun _ hk => hk.2) (.slice Ao60 t190.length co60)) (fun _ hk => trivial)⟩, ⟨by (with_reducible repeat (first | apply Kd.Q_alloc | apply Kd.Q_drewN | apply Kd.Q_drew)); exact Kd.Q_mono (Kd.Q_far (p := ⟨gb183, 0, none⟩) (Kd.Q_far (p := ⟨gb195, 0, none⟩) (Kd.Q_types (Kd.Q_types HO192.out BK195.out (by decide)) BK183.out (by decide)) (fun _ hk => hk.1.2) (.slice Ao60 t190.length co60)) (fun _ hk => hk.2) (.slice Ao60 t190.length co60)) (fun _ hk => trivial)⟩, ⟨by (with_reducible repeat (first | refine blk_drewN ?_ _ | refine blk_drew ?_ | refine blk_alloc ?_ _)); refine blk_far ?_ NB182_183.out _; (with_reducible repeat (first | refine blk_drewN ?_ _ | refine blk_drew ?_ | refine blk_alloc ?_ _)); refine blk_far ?_ NB182_195.out _; (with_reducible repeat (first | refine blk_drewN ?_ _ | refine blk_drew ?_ | refine blk_alloc ?_ _)); exact BK182.out⟩, ⟨by (with_reducible repeat (first | refine blk_drewN ?_ _ | refine blk_drew ?_ | refine blk_alloc ?_ _)); refine blk_put (cs := #[.slice Ao57 x184000_2.length co57]) ?_ 0 _ rfl; (with_reducible repeat (first | refine blk_drewN ?_ _ | refine blk_drew ?_ | refine blk_alloc ?_ _)); refine blk_far ?_ NB183_195.out _; (with_reducible repeat (first | refine blk_drewN ?_ _ | refine blk_drew ?_ | refine blk_alloc ?_ _)); exact BK183.out⟩, ⟨by repeat (first | (with_reducible first | exact HB.out | apply below_alloc | apply pw_below_drewN | apply below_drew1 | refine below_set ?_ GE182.out | refine below_set ?_ GE183.out | refine below_set ?_ GE195.out) | exact HB.out)⟩⟩
                        · rw [if_neg c53] at H
                          have c53b0 : (t193 == (rd t178 x10_2)) = false := beq_eq_false_iff_ne.mpr c53
                          have c53b1 : (t193 != (rd t178 x10_2)) = true := bne_iff_ne.mpr c53
                          obtain rfl := Option.some.inj H
                          have hnb65 := NB182_183.out
                          have hnc65 := NB183_182.out
                          have hcz66_0 : wr.cell? ⟨gb182, 0, none⟩ = some (.int .i64 1) := (blk_cell BK182.out 0).trans rfl
                          have hcz66_1 : wr.cell? ⟨gb182, 1, none⟩ = some (.int .i64 1) := (blk_cell BK182.out 1).trans rfl
                          have hcz66_2 : wr.cell? ⟨gb182, 2, none⟩ = some (.int .i64 2) := (blk_cell BK182.out 2).trans rfl
                          have hcz66_3 : wr.cell? ⟨gb182, 3, none⟩ = some (.int .i64 (wrap64 (1 + (Int.tmod (rd t178 0) 6)))) := (blk_cell BK182.out 3).trans rfl
                          have hcz66_4 : wr.cell? ⟨gb182, 4, none⟩ = some (.int .i64 0) := (blk_cell BK182.out 4).trans rfl
                          have hfz66_0 := blk_frozen BK182.out 0
                          have hfz66_1 := blk_frozen BK182.out 1
                          have hfz66_2 := blk_frozen BK182.out 2
                          have hfz66_3 := blk_frozen BK182.out 3
                          have hfz66_4 := blk_frozen BK182.out 4
                          have hcz67_0 : wr.cell? ⟨gb183, 0, none⟩ = some (u184000) := (blk_cell BK183.out 0).trans rfl
                          have hfz67_0 := blk_frozen BK183.out 0
                          obtain ⟨Ao68, co68, eo68, _⟩ := Kd.Q_slice HO_184000.out
                          subst eo68
                          go_wp2_with (first | ((with_reducible refine gate_callee (f := 48) rfl ?_); refine goesL_ (some 71) rfl rfl Try.func48 (by kernel_rfl) rfl #[.agg #[.int .i64 1, .int .i64 1, .int .i64 2, .int .i64 (wrap64 (1 + (Int.tmod (rd t178 0) 6))), .int .i64 0], .agg #[.slice Ao68 x184000_2.length co68], .int .i64 99] rfl (by (try simp only [List.map_toArray, List.map_cons, List.map_nil]); first | done | rfl | (simp only [List.length_drop, List.length_take]; rfl)) ?_; (with_reducible refine (impl_TakePort.calls k2 1 1 2 (wrap64 (1 + (Int.tmod (rd t178 0) 6))) 0 _ _ x184000_2 99 t190 t193 t194 _ ?side1 ?side2 A49.out).mono ?_); (case side1 => repeat (first | exact (Kd.Q_reads' HO_184000.out).2.2 | (with_reducible refine Kd.C_alloc ?_ _) | (with_reducible refine Kd.C_drewN ?_ _) | (with_reducible refine Kd.C_drew ?_))); (case side2 => exact (Kd.Q_reads' HO_184000.out).2.1); rintro e w69 ⟨v191, rfl, ho0, hb⟩; refine ⟨_, rfl, ?_⟩; have n0_ := Aside0.mk (Kd.R_below (by (with_reducible repeat (first | apply Kd.R_alloc | apply Kd.R_drewN | apply Kd.R_drew)); exact HO_3.out) hb); have n1_ := Aside0.mk (Kd.Q_elder' (by (with_reducible repeat (first | apply Kd.Q_alloc | apply Kd.Q_drewN | apply Kd.Q_drew)); exact HO_184000.out) (Kd.Q_base ho0) hb); have n2_ := Aside0.mk (Kd.Q_lower (Kd.Q_new' ho0 (Kd.Q_lt (by (with_reducible repeat (first | apply Kd.Q_alloc | apply Kd.Q_drewN | apply Kd.Q_drew)); exact HO_184000.out))) (below_size (by repeat (first | (with_reducible first | exact HB.out | apply below_alloc | apply pw_below_drewN | apply below_drew1 | refine below_set ?_ GE182.out | refine below_set ?_ GE183.out) | exact HB.out)))); have n3_ := Aside0.mk (blk_below (g := gb182) (o := .cells #[.int .i64 1, .int .i64 1, .int .i64 2, .int .i64 (wrap64 (1 + (Int.tmod (rd t178 0) 6))), .int .i64 0] 33 (0, 0)) (by (with_reducible repeat (first | refine blk_drewN ?_ _ | refine blk_drew ?_ | refine blk_alloc ?_ _)); exact BK182.out) hb); have n4_ := Aside0.mk (blk_below (g := gb183) (o := .cells #[.slice Ao68 x184000_2.length co68] 73 (0, 0)) (by (with_reducible repeat (first | refine blk_drewN ?_ _ | refine blk_drew ?_ | refine blk_alloc ?_ _)); exact BK183.out) hb); have n5_ := Aside0.mk (below_step (by repeat (first | (with_reducible first | exact HB.out | apply below_alloc | apply pw_below_drewN | apply below_drew1 | refine below_set ?_ GE182.out | refine below_set ?_ GE183.out) | exact HB.out)) hb); clear HO_3; clear HO_184000; clear BK182; clear BK183; clear HB; have HO_3 := n0_; have HO_184000 := n1_; have HO192 := n2_; have BK182 := n3_; have BK183 := n4_; have HB := n5_; clear n0_ n1_ n2_ n3_ n4_ n5_; (try clear hb); (try clear hb2); (try clear hk); (try clear hi); (try clear ho0)) | ((with_reducible refine gate_dst (N := 11) rfl ?_); refine box_event ?hg (N := 11) ?hd (cs := #[.slice none 0 0]) (t := 73) ?hr ?_; (case hd => rfl); (case hg => rfl); (case hr => first | (go_simp; done) | (go_simp; rfl)); intro gb195 hg w70 hbox hb; have n0_ := Aside0.mk (Kd.R_below (by (with_reducible repeat (first | apply Kd.R_alloc | apply Kd.R_drewN | apply Kd.R_drew)); exact HO_3.out) hb); have n1_ := Aside0.mk (Kd.Q_below (by (with_reducible repeat (first | apply Kd.Q_alloc | apply Kd.Q_drewN | apply Kd.Q_drew)); exact HO_184000.out) hb); have n2_ := Aside0.mk (Kd.Q_below (by (with_reducible repeat (first | apply Kd.Q_alloc | apply Kd.Q_drewN | apply Kd.Q_drew)); exact HO192.out) hb); have n3_ := Aside0.mk (blk_below (g := gb182) (o := .cells #[.int .i64 1, .int .i64 1, .int .i64 2, .int .i64 (wrap64 (1 + (Int.tmod (rd t178 0) 6))), .int .i64 0] 33 (0, 0)) (by (with_reducible repeat (first | refine blk_drewN ?_ _ | refine blk_drew ?_ | refine blk_alloc ?_ _)); exact BK182.out) hb); have n4_ := Aside0.mk (blk_below (g := gb183) (o := .cells #[.slice Ao68 x184000_2.length co68] 73 (0, 0)) (by (with_reducible repeat (first | refine blk_drewN ?_ _ | refine blk_drew ?_ | refine blk_alloc ?_ _)); exact BK183.out) hb); have n5_ := Aside0.mk (below_step (by repeat (first | (with_reducible first | exact HB.out | apply below_alloc | apply pw_below_drewN | apply below_drew1 | refine below_set ?_ GE182.out | refine below_set ?_ GE183.out) | exact HB.out)) hb); have n6_ := Aside0.mk (hbox); have n7_ := Aside0.mk ((by rw [hg]; exact (below_size (by repeat (first | (with_reducible first | exact HB.out | apply below_alloc | apply pw_below_drewN | apply below_drew1 | refine below_set ?_ GE182.out | refine below_set ?_ GE183.out) | exact HB.out))) : w.heap.size ≤ gb195)); have n8_ := Aside0.mk ((by rw [hg]; exact (below_size (by repeat (first | (with_reducible first | exact HB.out | apply below_alloc | apply pw_below_drewN | apply below_drew1 | refine below_set ?_ GE182.out | refine below_set ?_ GE183.out) | exact HB.out))) : w.heap.size ≤ gb195)); have n9_ := Aside0.mk ((by rw [hg]; exact Nat.ne_of_lt (blk_lt (g := gb182) (o := .cells #[.int .i64 1, .int .i64 1, .int .i64 2, .int .i64 (wrap64 (1 + (Int.tmod (rd t178 0) 6))), .int .i64 0] 33 (0, 0)) (by (with_reducible repeat (first | refine blk_drewN ?_ _ | refine blk_drew ?_ | refine blk_alloc ?_ _)); exact BK182.out)) : gb182 ≠ gb195)); have n10_ := Aside0.mk ((by rw [hg]; exact Nat.ne_of_gt (blk_lt (g := gb182) (o := .cells #[.int .i64 1, .int .i64 1, .int .i64 2, .int .i64 (wrap64 (1 + (Int.tmod (rd t178 0) 6))), .int .i64 0] 33 (0, 0)) (by (with_reducible repeat (first | refine blk_drewN ?_ _ | refine blk_drew ?_ | refine blk_alloc ?_ _)); exact BK182.out)) : gb195 ≠ gb182)); have n11_ := Aside0.mk ((by rw [hg]; exact Nat.ne_of_lt (blk_lt (g := gb183) (o := .cells #[.slice Ao68 x184000_2.length co68] 73 (0, 0)) (by (with_reducible repeat (first | refine blk_drewN ?_ _ | refine blk_drew ?_ | refine blk_alloc ?_ _)); exact BK183.out)) : gb183 ≠ gb195)); have n12_ := Aside0.mk ((by rw [hg]; exact Nat.ne_of_gt (blk_lt (g := gb183) (o := .cells #[.slice Ao68 x184000_2.length co68] 73 (0, 0)) (by (with_reducible repeat (first | refine blk_drewN ?_ _ | refine blk_drew ?_ | refine blk_alloc ?_ _)); exact BK183.out)) : gb195 ≠ gb183)); clear HO_3; clear HO_184000; clear HO192; clear BK182; clear BK183; clear HB; have HO_3 := n0_; have HO_184000 := n1_; have HO192 := n2_; have BK182 := n3_; have BK183 := n4_; have HB := n5_; have BK195 := n6_; have GW195 := n7_; have GE195 := n8_; have NB182_195 := n9_; have NB195_182 := n10_; have NB183_195 := n11_; have NB195_183 := n12_; clear n0_ n1_ n2_ n3_ n4_ n5_ n6_ n7_ n8_ n9_ n10_ n11_ n12_; clear hb hbox hg; obtain ⟨Ao71, co71, eo71, _⟩ := Kd.Q_slice HO192.out; subst eo71; have hnb72 := NB195_182.out; have hnc72 := NB182_195.out; have hnb73 := NB195_183.out; have hnc73 := NB183_195.out; have hcz74_0 : w70.cell? ⟨gb195, 0, none⟩ = some (.slice none 0 0) := (blk_cell BK195.out 0).trans rfl; have hfz74_0 := blk_frozen BK195.out 0; have p196 : 0 ≤ (x10_2 : Int) := of_decide_eq_true (by first | (with_reducible assumption) | assumption); have q196 : x10_2 < (t178.length : Int) := of_decide_eq_true (by first | (with_reducible assumption) | assumption); obtain ⟨ad196, e196, hx196_0⟩ := Kd.at_int (Kd.R_reads' HO_3.out).2.2 x10_2 p196 q196; obtain rfl : ad181 = ad196 := (by injection e196); have hn196_0 : ad181.block ≠ gb195 := Kd.own_blk (Kd.R_ne HO_3.out BK195.out (by decide)); replace hx196_0 := (cell_far (p := ⟨gb195, 0, none⟩) (by first | (rw [add_block]; exact hn196_0) | (show (Addr.add _ _).block ≠ _; rw [add_block]; exact hn196_0) | exact hn196_0) (.slice Ao71 t190.length co71)).trans hx196_0; clear hn196_0; replace p196 := eq_true p196; replace q196 := eq_true q196))
                          go_ret
                          exact ⟨by first | rfl | (simp [errW_none, errW_some] <;> rfl) | (simp [*, errW_none, errW_some] <;> rfl), by repeat (first | (with_reducible first | exact HB.out | apply below_alloc | apply pw_below_drewN | apply below_drew1 | refine below_set ?_ GE182.out | refine below_set ?_ GE183.out | refine below_set ?_ GE195.out) | exact HB.out)⟩
                      · rw [if_neg c52] at H
                        exact absurd H (by simp)
                    · rw [if_neg c51] at H
                      exact absurd H (by simp)
                  · rw [if_neg c50] at H
                    have c50b0 : (t194 == 0) = false := beq_eq_false_iff_ne.mpr c50
                    have c50b1 : (t194 != 0) = true := bne_iff_ne.mpr c50
                    obtain rfl := Option.some.inj H
                    have hnb75 := NB182_183.out
                    have hnc75 := NB183_182.out
                    have hcz76_0 : wr.cell? ⟨gb182, 0, none⟩ = some (.int .i64 1) := (blk_cell BK182.out 0).trans rfl
                    have hcz76_1 : wr.cell? ⟨gb182, 1, none⟩ = some (.int .i64 1) := (blk_cell BK182.out 1).trans rfl
                    have hcz76_2 : wr.cell? ⟨gb182, 2, none⟩ = some (.int .i64 2) := (blk_cell BK182.out 2).trans rfl
                    have hcz76_3 : wr.cell? ⟨gb182, 3, none⟩ = some (.int .i64 (wrap64 (1 + (Int.tmod (rd t178 0) 6)))) := (blk_cell BK182.out 3).trans rfl
                    have hcz76_4 : wr.cell? ⟨gb182, 4, none⟩ = some (.int .i64 0) := (blk_cell BK182.out 4).trans rfl
                    have hfz76_0 := blk_frozen BK182.out 0
                    have hfz76_1 := blk_frozen BK182.out 1
                    have hfz76_2 := blk_frozen BK182.out 2
                    have hfz76_3 := blk_frozen BK182.out 3
                    have hfz76_4 := blk_frozen BK182.out 4
                    have hcz77_0 : wr.cell? ⟨gb183, 0, none⟩ = some (u184000) := (blk_cell BK183.out 0).trans rfl
                    have hfz77_0 := blk_frozen BK183.out 0
                    obtain ⟨Ao78, co78, eo78, _⟩ := Kd.Q_slice HO_184000.out
                    subst eo78
                    go_wp2_with (first | ((with_reducible refine gate_callee (f := 48) rfl ?_); refine goesL_ (some 71) rfl rfl Try.func48 (by kernel_rfl) rfl #[.agg #[.int .i64 1, .int .i64 1, .int .i64 2, .int .i64 (wrap64 (1 + (Int.tmod (rd t178 0) 6))), .int .i64 0], .agg #[.slice Ao78 x184000_2.length co78], .int .i64 99] rfl (by (try simp only [List.map_toArray, List.map_cons, List.map_nil]); first | done | rfl | (simp only [List.length_drop, List.length_take]; rfl)) ?_; (with_reducible refine (impl_TakePort.calls k2 1 1 2 (wrap64 (1 + (Int.tmod (rd t178 0) 6))) 0 _ _ x184000_2 99 t190 t193 t194 _ ?side1 ?side2 A49.out).mono ?_); (case side1 => repeat (first | exact (Kd.Q_reads' HO_184000.out).2.2 | (with_reducible refine Kd.C_alloc ?_ _) | (with_reducible refine Kd.C_drewN ?_ _) | (with_reducible refine Kd.C_drew ?_))); (case side2 => exact (Kd.Q_reads' HO_184000.out).2.1); rintro e w79 ⟨v191, rfl, ho0, hb⟩; refine ⟨_, rfl, ?_⟩; have n0_ := Aside0.mk (Kd.R_below (by (with_reducible repeat (first | apply Kd.R_alloc | apply Kd.R_drewN | apply Kd.R_drew)); exact HO_3.out) hb); have n1_ := Aside0.mk (Kd.Q_elder' (by (with_reducible repeat (first | apply Kd.Q_alloc | apply Kd.Q_drewN | apply Kd.Q_drew)); exact HO_184000.out) (Kd.Q_base ho0) hb); have n2_ := Aside0.mk (Kd.Q_lower (Kd.Q_new' ho0 (Kd.Q_lt (by (with_reducible repeat (first | apply Kd.Q_alloc | apply Kd.Q_drewN | apply Kd.Q_drew)); exact HO_184000.out))) (below_size (by repeat (first | (with_reducible first | exact HB.out | apply below_alloc | apply pw_below_drewN | apply below_drew1 | refine below_set ?_ GE182.out | refine below_set ?_ GE183.out) | exact HB.out)))); have n3_ := Aside0.mk (blk_below (g := gb182) (o := .cells #[.int .i64 1, .int .i64 1, .int .i64 2, .int .i64 (wrap64 (1 + (Int.tmod (rd t178 0) 6))), .int .i64 0] 33 (0, 0)) (by (with_reducible repeat (first | refine blk_drewN ?_ _ | refine blk_drew ?_ | refine blk_alloc ?_ _)); exact BK182.out) hb); have n4_ := Aside0.mk (blk_below (g := gb183) (o := .cells #[.slice Ao78 x184000_2.length co78] 73 (0, 0)) (by (with_reducible repeat (first | refine blk_drewN ?_ _ | refine blk_drew ?_ | refine blk_alloc ?_ _)); exact BK183.out) hb); have n5_ := Aside0.mk (below_step (by repeat (first | (with_reducible first | exact HB.out | apply below_alloc | apply pw_below_drewN | apply below_drew1 | refine below_set ?_ GE182.out | refine below_set ?_ GE183.out) | exact HB.out)) hb); clear HO_3; clear HO_184000; clear BK182; clear BK183; clear HB; have HO_3 := n0_; have HO_184000 := n1_; have HO192 := n2_; have BK182 := n3_; have BK183 := n4_; have HB := n5_; clear n0_ n1_ n2_ n3_ n4_ n5_; (try clear hb); (try clear hb2); (try clear hk); (try clear hi); (try clear ho0)) | ((with_reducible refine gate_dst (N := 11) rfl ?_); refine box_event ?hg (N := 11) ?hd (cs := #[.slice none 0 0]) (t := 73) ?hr ?_; (case hd => rfl); (case hg => rfl); (case hr => first | (go_simp; done) | (go_simp; rfl)); intro gb195 hg w80 hbox hb; have n0_ := Aside0.mk (Kd.R_below (by (with_reducible repeat (first | apply Kd.R_alloc | apply Kd.R_drewN | apply Kd.R_drew)); exact HO_3.out) hb); have n1_ := Aside0.mk (Kd.Q_below (by (with_reducible repeat (first | apply Kd.Q_alloc | apply Kd.Q_drewN | apply Kd.Q_drew)); exact HO_184000.out) hb); have n2_ := Aside0.mk (Kd.Q_below (by (with_reducible repeat (first | apply Kd.Q_alloc | apply Kd.Q_drewN | apply Kd.Q_drew)); exact HO192.out) hb); have n3_ := Aside0.mk (blk_below (g := gb182) (o := .cells #[.int .i64 1, .int .i64 1, .int .i64 2, .int .i64 (wrap64 (1 + (Int.tmod (rd t178 0) 6))), .int .i64 0] 33 (0, 0)) (by (with_reducible repeat (first | refine blk_drewN ?_ _ | refine blk_drew ?_ | refine blk_alloc ?_ _)); exact BK182.out) hb); have n4_ := Aside0.mk (blk_below (g := gb183) (o := .cells #[.slice Ao78 x184000_2.length co78] 73 (0, 0)) (by (with_reducible repeat (first | refine blk_drewN ?_ _ | refine blk_drew ?_ | refine blk_alloc ?_ _)); exact BK183.out) hb); have n5_ := Aside0.mk (below_step (by repeat (first | (with_reducible first | exact HB.out | apply below_alloc | apply pw_below_drewN | apply below_drew1 | refine below_set ?_ GE182.out | refine below_set ?_ GE183.out) | exact HB.out)) hb); have n6_ := Aside0.mk (hbox); have n7_ := Aside0.mk ((by rw [hg]; exact (below_size (by repeat (first | (with_reducible first | exact HB.out | apply below_alloc | apply pw_below_drewN | apply below_drew1 | refine below_set ?_ GE182.out | refine below_set ?_ GE183.out) | exact HB.out))) : w.heap.size ≤ gb195)); have n8_ := Aside0.mk ((by rw [hg]; exact (below_size (by repeat (first | (with_reducible first | exact HB.out | apply below_alloc | apply pw_below_drewN | apply below_drew1 | refine below_set ?_ GE182.out | refine below_set ?_ GE183.out) | exact HB.out))) : w.heap.size ≤ gb195)); have n9_ := Aside0.mk ((by rw [hg]; exact Nat.ne_of_lt (blk_lt (g := gb182) (o := .cells #[.int .i64 1, .int .i64 1, .int .i64 2, .int .i64 (wrap64 (1 + (Int.tmod (rd t178 0) 6))), .int .i64 0] 33 (0, 0)) (by (with_reducible repeat (first | refine blk_drewN ?_ _ | refine blk_drew ?_ | refine blk_alloc ?_ _)); exact BK182.out)) : gb182 ≠ gb195)); have n10_ := Aside0.mk ((by rw [hg]; exact Nat.ne_of_gt (blk_lt (g := gb182) (o := .cells #[.int .i64 1, .int .i64 1, .int .i64 2, .int .i64 (wrap64 (1 + (Int.tmod (rd t178 0) 6))), .int .i64 0] 33 (0, 0)) (by (with_reducible repeat (first | refine blk_drewN ?_ _ | refine blk_drew ?_ | refine blk_alloc ?_ _)); exact BK182.out)) : gb195 ≠ gb182)); have n11_ := Aside0.mk ((by rw [hg]; exact Nat.ne_of_lt (blk_lt (g := gb183) (o := .cells #[.slice Ao78 x184000_2.length co78] 73 (0, 0)) (by (with_reducible repeat (first | refine blk_drewN ?_ _ | refine blk_drew ?_ | refine blk_alloc ?_ _)); exact BK183.out)) : gb183 ≠ gb195)); have n12_ := Aside0.mk ((by rw [hg]; exact Nat.ne_of_gt (blk_lt (g := gb183) (o := .cells #[.slice Ao78 x184000_2.length co78] 73 (0, 0)) (by (with_reducible repeat (first | refine blk_drewN ?_ _ | refine blk_drew ?_ | refine blk_alloc ?_ _)); exact BK183.out)) : gb195 ≠ gb183)); clear HO_3; clear HO_184000; clear HO192; clear BK182; clear BK183; clear HB; have HO_3 := n0_; have HO_184000 := n1_; have HO192 := n2_; have BK182 := n3_; have BK183 := n4_; have HB := n5_; have BK195 := n6_; have GW195 := n7_; have GE195 := n8_; have NB182_195 := n9_; have NB195_182 := n10_; have NB183_195 := n11_; have NB195_183 := n12_; clear n0_ n1_ n2_ n3_ n4_ n5_ n6_ n7_ n8_ n9_ n10_ n11_ n12_; clear hb hbox hg; obtain ⟨Ao81, co81, eo81, _⟩ := Kd.Q_slice HO192.out; subst eo81; have hnb82 := NB195_182.out; have hnc82 := NB182_195.out; have hnb83 := NB195_183.out; have hnc83 := NB183_195.out; have hcz84_0 : w80.cell? ⟨gb195, 0, none⟩ = some (.slice none 0 0) := (blk_cell BK195.out 0).trans rfl; have hfz84_0 := blk_frozen BK195.out 0))
                    go_ret
                    exact ⟨by first | rfl | (simp [errW_none, errW_some] <;> rfl) | (simp [*, errW_none, errW_some] <;> rfl), by repeat (first | (with_reducible first | exact HB.out | apply below_alloc | apply pw_below_drewN | apply below_drew1 | refine below_set ?_ GE182.out | refine below_set ?_ GE183.out | refine below_set ?_ GE195.out) | exact HB.out)⟩
                · rw [if_neg c48] at H
                  have c48b0 : decide (x10_2 < x6_1) = false := decide_eq_false c48
                  clear c48
                  replace H := Option.bind_eq_some_iff.mp H
                  obtain ⟨⟨t197, t200, t201⟩, A850, H⟩ := H
                  replace H : ((impl_PortOk.f k2 1 1 2 (wrap64 (1 + (Int.tmod (rd t178 0) 6))) 0).bind fun t203 => (if t203 = true then (if t201 = 2 then (some (x6_1 == (wrap64 (1 + (Int.tmod (rd t178 0) 6))))) else (some false)) else (some false))) = some r := H
                  have A85 := Aside0.mk A850
                  clear A850
                  replace H := Option.bind_eq_some_iff.mp H
                  obtain ⟨t203, A860, H⟩ := H
                  replace H : (if t203 = true then (if t201 = 2 then (some (x6_1 == (wrap64 (1 + (Int.tmod (rd t178 0) 6))))) else (some false)) else (some false)) = some r := H
                  have A86 := Aside0.mk A860
                  clear A860
                  by_cases c87 : t203 = true
                  · subst c87
                    have H1 : (if t201 = 2 then (some (x6_1 == (wrap64 (1 + (Int.tmod (rd t178 0) 6))))) else (some false)) = some r := by rw [if_pos rfl] at H; exact H
                    clear H
                    have H := H1
                    clear H1
                    by_cases c88 : t201 = 2
                    · rw [if_pos c88] at H
                      have c88b0 : (t201 == 2) = true := beq_iff_eq.mpr c88
                      have c88b1 : (t201 != 2) = false := bne_eq_false_iff_eq.mpr c88
                      clear c88
                      obtain rfl := Option.some.inj H
                      have hnb89 := NB182_183.out
                      have hnc89 := NB183_182.out
                      have hcz90_0 : wr.cell? ⟨gb182, 0, none⟩ = some (.int .i64 1) := (blk_cell BK182.out 0).trans rfl
                      have hcz90_1 : wr.cell? ⟨gb182, 1, none⟩ = some (.int .i64 1) := (blk_cell BK182.out 1).trans rfl
                      have hcz90_2 : wr.cell? ⟨gb182, 2, none⟩ = some (.int .i64 2) := (blk_cell BK182.out 2).trans rfl
                      have hcz90_3 : wr.cell? ⟨gb182, 3, none⟩ = some (.int .i64 (wrap64 (1 + (Int.tmod (rd t178 0) 6)))) := (blk_cell BK182.out 3).trans rfl
                      have hcz90_4 : wr.cell? ⟨gb182, 4, none⟩ = some (.int .i64 0) := (blk_cell BK182.out 4).trans rfl
                      have hfz90_0 := blk_frozen BK182.out 0
                      have hfz90_1 := blk_frozen BK182.out 1
                      have hfz90_2 := blk_frozen BK182.out 2
                      have hfz90_3 := blk_frozen BK182.out 3
                      have hfz90_4 := blk_frozen BK182.out 4
                      have hcz91_0 : wr.cell? ⟨gb183, 0, none⟩ = some (u184000) := (blk_cell BK183.out 0).trans rfl
                      have hfz91_0 := blk_frozen BK183.out 0
                      obtain ⟨Ao92, co92, eo92, _⟩ := Kd.Q_slice HO_184000.out
                      subst eo92
                      go_wp2_with (first | ((with_reducible refine gate_callee (f := 48) rfl ?_); refine goesL_ (some 89) rfl rfl Try.func48 (by kernel_rfl) rfl #[.agg #[.int .i64 1, .int .i64 1, .int .i64 2, .int .i64 (wrap64 (1 + (Int.tmod (rd t178 0) 6))), .int .i64 0], .agg #[.slice Ao92 x184000_2.length co92], .int .i64 99] rfl (by (try simp only [List.map_toArray, List.map_cons, List.map_nil]); first | done | rfl | (simp only [List.length_drop, List.length_take]; rfl)) ?_; (with_reducible refine (impl_TakePort.calls k2 1 1 2 (wrap64 (1 + (Int.tmod (rd t178 0) 6))) 0 _ _ x184000_2 99 t197 t200 t201 _ ?side1 ?side2 A85.out).mono ?_); (case side1 => repeat (first | exact (Kd.Q_reads' HO_184000.out).2.2 | (with_reducible refine Kd.C_alloc ?_ _) | (with_reducible refine Kd.C_drewN ?_ _) | (with_reducible refine Kd.C_drew ?_))); (case side2 => exact (Kd.Q_reads' HO_184000.out).2.1); rintro e w93 ⟨v198, rfl, ho0, hb⟩; refine ⟨_, rfl, ?_⟩; have n0_ := Aside0.mk (Kd.R_below (by (with_reducible repeat (first | apply Kd.R_alloc | apply Kd.R_drewN | apply Kd.R_drew)); exact HO_3.out) hb); have n1_ := Aside0.mk (Kd.Q_elder' (by (with_reducible repeat (first | apply Kd.Q_alloc | apply Kd.Q_drewN | apply Kd.Q_drew)); exact HO_184000.out) (Kd.Q_base ho0) hb); have n2_ := Aside0.mk (Kd.Q_lower (Kd.Q_new' ho0 (Kd.Q_lt (by (with_reducible repeat (first | apply Kd.Q_alloc | apply Kd.Q_drewN | apply Kd.Q_drew)); exact HO_184000.out))) (below_size (by repeat (first | (with_reducible first | exact HB.out | apply below_alloc | apply pw_below_drewN | apply below_drew1 | refine below_set ?_ GE182.out | refine below_set ?_ GE183.out) | exact HB.out)))); have n3_ := Aside0.mk (blk_below (g := gb182) (o := .cells #[.int .i64 1, .int .i64 1, .int .i64 2, .int .i64 (wrap64 (1 + (Int.tmod (rd t178 0) 6))), .int .i64 0] 33 (0, 0)) (by (with_reducible repeat (first | refine blk_drewN ?_ _ | refine blk_drew ?_ | refine blk_alloc ?_ _)); exact BK182.out) hb); have n4_ := Aside0.mk (blk_below (g := gb183) (o := .cells #[.slice Ao92 x184000_2.length co92] 73 (0, 0)) (by (with_reducible repeat (first | refine blk_drewN ?_ _ | refine blk_drew ?_ | refine blk_alloc ?_ _)); exact BK183.out) hb); have n5_ := Aside0.mk (below_step (by repeat (first | (with_reducible first | exact HB.out | apply below_alloc | apply pw_below_drewN | apply below_drew1 | refine below_set ?_ GE182.out | refine below_set ?_ GE183.out) | exact HB.out)) hb); clear HO_3; clear HO_184000; clear BK182; clear BK183; clear HB; have HO_3 := n0_; have HO_184000 := n1_; have HO199 := n2_; have BK182 := n3_; have BK183 := n4_; have HB := n5_; clear n0_ n1_ n2_ n3_ n4_ n5_; (try clear hb); (try clear hb2); (try clear hk); (try clear hi); (try clear ho0)) | ((with_reducible refine gate_dst (N := 14) rfl ?_); refine box_event ?hg (N := 14) ?hd (cs := #[.slice none 0 0]) (t := 73) ?hr ?_; (case hd => rfl); (case hg => rfl); (case hr => first | (go_simp; done) | (go_simp; rfl)); intro gb202 hg w94 hbox hb; have n0_ := Aside0.mk (Kd.R_below (by (with_reducible repeat (first | apply Kd.R_alloc | apply Kd.R_drewN | apply Kd.R_drew)); exact HO_3.out) hb); have n1_ := Aside0.mk (Kd.Q_below (by (with_reducible repeat (first | apply Kd.Q_alloc | apply Kd.Q_drewN | apply Kd.Q_drew)); exact HO_184000.out) hb); have n2_ := Aside0.mk (Kd.Q_below (by (with_reducible repeat (first | apply Kd.Q_alloc | apply Kd.Q_drewN | apply Kd.Q_drew)); exact HO199.out) hb); have n3_ := Aside0.mk (blk_below (g := gb182) (o := .cells #[.int .i64 1, .int .i64 1, .int .i64 2, .int .i64 (wrap64 (1 + (Int.tmod (rd t178 0) 6))), .int .i64 0] 33 (0, 0)) (by (with_reducible repeat (first | refine blk_drewN ?_ _ | refine blk_drew ?_ | refine blk_alloc ?_ _)); exact BK182.out) hb); have n4_ := Aside0.mk (blk_below (g := gb183) (o := .cells #[.slice Ao92 x184000_2.length co92] 73 (0, 0)) (by (with_reducible repeat (first | refine blk_drewN ?_ _ | refine blk_drew ?_ | refine blk_alloc ?_ _)); exact BK183.out) hb); have n5_ := Aside0.mk (below_step (by repeat (first | (with_reducible first | exact HB.out | apply below_alloc | apply pw_below_drewN | apply below_drew1 | refine below_set ?_ GE182.out | refine below_set ?_ GE183.out) | exact HB.out)) hb); have n6_ := Aside0.mk (hbox); have n7_ := Aside0.mk ((by rw [hg]; exact (below_size (by repeat (first | (with_reducible first | exact HB.out | apply below_alloc | apply pw_below_drewN | apply below_drew1 | refine below_set ?_ GE182.out | refine below_set ?_ GE183.out) | exact HB.out))) : w.heap.size ≤ gb202)); have n8_ := Aside0.mk ((by rw [hg]; exact (below_size (by repeat (first | (with_reducible first | exact HB.out | apply below_alloc | apply pw_below_drewN | apply below_drew1 | refine below_set ?_ GE182.out | refine below_set ?_ GE183.out) | exact HB.out))) : w.heap.size ≤ gb202)); have n9_ := Aside0.mk ((by rw [hg]; exact Nat.ne_of_lt (blk_lt (g := gb182) (o := .cells #[.int .i64 1, .int .i64 1, .int .i64 2, .int .i64 (wrap64 (1 + (Int.tmod (rd t178 0) 6))), .int .i64 0] 33 (0, 0)) (by (with_reducible repeat (first | refine blk_drewN ?_ _ | refine blk_drew ?_ | refine blk_alloc ?_ _)); exact BK182.out)) : gb182 ≠ gb202)); have n10_ := Aside0.mk ((by rw [hg]; exact Nat.ne_of_gt (blk_lt (g := gb182) (o := .cells #[.int .i64 1, .int .i64 1, .int .i64 2, .int .i64 (wrap64 (1 + (Int.tmod (rd t178 0) 6))), .int .i64 0] 33 (0, 0)) (by (with_reducible repeat (first | refine blk_drewN ?_ _ | refine blk_drew ?_ | refine blk_alloc ?_ _)); exact BK182.out)) : gb202 ≠ gb182)); have n11_ := Aside0.mk ((by rw [hg]; exact Nat.ne_of_lt (blk_lt (g := gb183) (o := .cells #[.slice Ao92 x184000_2.length co92] 73 (0, 0)) (by (with_reducible repeat (first | refine blk_drewN ?_ _ | refine blk_drew ?_ | refine blk_alloc ?_ _)); exact BK183.out)) : gb183 ≠ gb202)); have n12_ := Aside0.mk ((by rw [hg]; exact Nat.ne_of_gt (blk_lt (g := gb183) (o := .cells #[.slice Ao92 x184000_2.length co92] 73 (0, 0)) (by (with_reducible repeat (first | refine blk_drewN ?_ _ | refine blk_drew ?_ | refine blk_alloc ?_ _)); exact BK183.out)) : gb202 ≠ gb183)); clear HO_3; clear HO_184000; clear HO199; clear BK182; clear BK183; clear HB; have HO_3 := n0_; have HO_184000 := n1_; have HO199 := n2_; have BK182 := n3_; have BK183 := n4_; have HB := n5_; have BK202 := n6_; have GW202 := n7_; have GE202 := n8_; have NB182_202 := n9_; have NB202_182 := n10_; have NB183_202 := n11_; have NB202_183 := n12_; clear n0_ n1_ n2_ n3_ n4_ n5_ n6_ n7_ n8_ n9_ n10_ n11_ n12_; clear hb hbox hg; obtain ⟨Ao95, co95, eo95, _⟩ := Kd.Q_slice HO199.out; subst eo95; have hnb96 := NB202_182.out; have hnc96 := NB182_202.out; have hnb97 := NB202_183.out; have hnc97 := NB183_202.out; have hcz98_0 : w94.cell? ⟨gb202, 0, none⟩ = some (.slice none 0 0) := (blk_cell BK202.out 0).trans rfl; have hfz98_0 := blk_frozen BK202.out 0; have hcz99_0 : w94.cell? ⟨gb182, 0, none⟩ = some (.int .i64 1) := (blk_cell BK182.out 0).trans rfl; have hcz99_1 : w94.cell? ⟨gb182, 1, none⟩ = some (.int .i64 1) := (blk_cell BK182.out 1).trans rfl; have hcz99_2 : w94.cell? ⟨gb182, 2, none⟩ = some (.int .i64 2) := (blk_cell BK182.out 2).trans rfl; have hcz99_3 : w94.cell? ⟨gb182, 3, none⟩ = some (.int .i64 (wrap64 (1 + (Int.tmod (rd t178 0) 6)))) := (blk_cell BK182.out 3).trans rfl; have hcz99_4 : w94.cell? ⟨gb182, 4, none⟩ = some (.int .i64 0) := (blk_cell BK182.out 4).trans rfl; have hfz99_0 := blk_frozen BK182.out 0; have hfz99_1 := blk_frozen BK182.out 1; have hfz99_2 := blk_frozen BK182.out 2; have hfz99_3 := blk_frozen BK182.out 3; have hfz99_4 := blk_frozen BK182.out 4) | ((with_reducible refine gate_callee (f := 24) rfl ?_); refine goesL_ (some 94) rfl rfl Try.func24 (by kernel_rfl) rfl #[.agg #[.int .i64 1, .int .i64 1, .int .i64 2, .int .i64 (wrap64 (1 + (Int.tmod (rd t178 0) 6))), .int .i64 0]] rfl (by (try simp only [List.map_toArray, List.map_cons, List.map_nil]); first | done | rfl | (simp only [List.length_drop, List.length_take]; rfl)) ?_; (with_reducible refine (impl_PortOk.calls k2 1 1 2 (wrap64 (1 + (Int.tmod (rd t178 0) 6))) 0 true _ A86.out).mono ?_); rintro e w100 ⟨rfl, hb⟩; refine ⟨_, rfl, ?_⟩; have n0_ := Aside0.mk (Kd.R_below (by (with_reducible repeat (first | apply Kd.R_alloc | apply Kd.R_drewN | apply Kd.R_drew)); exact (Kd.R_mono (Kd.R_far (p := ⟨gb202, 0, none⟩) (Kd.R_types HO_3.out BK202.out (by decide)) (fun _ hk => hk.2) (.slice Ao95 t197.length co95)) (fun _ h_ => h_.1))) hb); have n1_ := Aside0.mk (Kd.Q_below (by (with_reducible repeat (first | apply Kd.Q_alloc | apply Kd.Q_drewN | apply Kd.Q_drew)); exact (Kd.Q_mono (Kd.Q_far (p := ⟨gb202, 0, none⟩) (Kd.Q_types HO_184000.out BK202.out (by decide)) (fun _ hk => hk.2) (.slice Ao95 t197.length co95)) (fun _ h_ => h_.1))) hb); have n2_ := Aside0.mk (Kd.Q_below (by (with_reducible repeat (first | apply Kd.Q_alloc | apply Kd.Q_drewN | apply Kd.Q_drew)); exact (Kd.Q_mono (Kd.Q_far (p := ⟨gb202, 0, none⟩) (Kd.Q_types HO199.out BK202.out (by decide)) (fun _ hk => hk.2) (.slice Ao95 t197.length co95)) (fun _ h_ => h_.1))) hb); have n3_ := Aside0.mk (blk_below (g := gb182) (o := .cells #[.int .i64 1, .int .i64 1, .int .i64 2, .int .i64 (wrap64 (1 + (Int.tmod (rd t178 0) 6))), .int .i64 0] 33 (0, 0)) (by (with_reducible repeat (first | refine blk_drewN ?_ _ | refine blk_drew ?_ | refine blk_alloc ?_ _)); refine blk_far ?_ NB182_202.out _; (with_reducible repeat (first | refine blk_drewN ?_ _ | refine blk_drew ?_ | refine blk_alloc ?_ _)); exact BK182.out) hb); have n4_ := Aside0.mk (blk_below (g := gb183) (o := .cells #[.slice Ao92 x184000_2.length co92] 73 (0, 0)) (by (with_reducible repeat (first | refine blk_drewN ?_ _ | refine blk_drew ?_ | refine blk_alloc ?_ _)); refine blk_far ?_ NB183_202.out _; (with_reducible repeat (first | refine blk_drewN ?_ _ | refine blk_drew ?_ | refine blk_alloc ?_ _)); exact BK183.out) hb); have n5_ := Aside0.mk (blk_below (g := gb202) (o := .cells #[.slice Ao95 t197.length co95] 73 (0, 0)) (by (with_reducible repeat (first | refine blk_drewN ?_ _ | refine blk_drew ?_ | refine blk_alloc ?_ _)); refine blk_put (cs := #[.slice none 0 0]) ?_ 0 _ rfl; (with_reducible repeat (first | refine blk_drewN ?_ _ | refine blk_drew ?_ | refine blk_alloc ?_ _)); exact BK202.out) hb); have n6_ := Aside0.mk (below_step (by repeat (first | (with_reducible first | exact HB.out | apply below_alloc | apply pw_below_drewN | apply below_drew1 | refine below_set ?_ GE182.out | refine below_set ?_ GE183.out | refine below_set ?_ GE202.out) | exact HB.out)) hb); clear HO_3; clear HO_184000; clear HO199; clear BK182; clear BK183; clear BK202; clear HB; have HO_3 := n0_; have HO_184000 := n1_; have HO199 := n2_; have BK182 := n3_; have BK183 := n4_; have BK202 := n5_; have HB := n6_; clear n0_ n1_ n2_ n3_ n4_ n5_ n6_; (try clear hb); (try clear hb2); (try clear hk); (try clear hi); have hcz101_0 : w100.cell? ⟨gb182, 0, none⟩ = some (.int .i64 1) := (blk_cell BK182.out 0).trans rfl; have hcz101_1 : w100.cell? ⟨gb182, 1, none⟩ = some (.int .i64 1) := (blk_cell BK182.out 1).trans rfl; have hcz101_2 : w100.cell? ⟨gb182, 2, none⟩ = some (.int .i64 2) := (blk_cell BK182.out 2).trans rfl; have hcz101_3 : w100.cell? ⟨gb182, 3, none⟩ = some (.int .i64 (wrap64 (1 + (Int.tmod (rd t178 0) 6)))) := (blk_cell BK182.out 3).trans rfl; have hcz101_4 : w100.cell? ⟨gb182, 4, none⟩ = some (.int .i64 0) := (blk_cell BK182.out 4).trans rfl; have hfz101_0 := blk_frozen BK182.out 0; have hfz101_1 := blk_frozen BK182.out 1; have hfz101_2 := blk_frozen BK182.out 2; have hfz101_3 := blk_frozen BK182.out 3; have hfz101_4 := blk_frozen BK182.out 4))
                      go_ret
                      exact ⟨by first | rfl | (simp [errW_none, errW_some] <;> rfl) | (simp [*, errW_none, errW_some] <;> rfl), by repeat (first | (with_reducible first | exact HB.out | apply below_alloc | apply pw_below_drewN | apply below_drew1 | refine below_set ?_ GE182.out | refine below_set ?_ GE183.out | refine below_set ?_ GE202.out) | exact HB.out)⟩
                    · rw [if_neg c88] at H
                      have c88b0 : (t201 == 2) = false := beq_eq_false_iff_ne.mpr c88
                      have c88b1 : (t201 != 2) = true := bne_iff_ne.mpr c88
                      obtain rfl := Option.some.inj H
                      have hnb102 := NB182_183.out
                      have hnc102 := NB183_182.out
                      have hcz103_0 : wr.cell? ⟨gb182, 0, none⟩ = some (.int .i64 1) := (blk_cell BK182.out 0).trans rfl
                      have hcz103_1 : wr.cell? ⟨gb182, 1, none⟩ = some (.int .i64 1) := (blk_cell BK182.out 1).trans rfl
                      have hcz103_2 : wr.cell? ⟨gb182, 2, none⟩ = some (.int .i64 2) := (blk_cell BK182.out 2).trans rfl
                      have hcz103_3 : wr.cell? ⟨gb182, 3, none⟩ = some (.int .i64 (wrap64 (1 + (Int.tmod (rd t178 0) 6)))) := (blk_cell BK182.out 3).trans rfl
                      have hcz103_4 : wr.cell? ⟨gb182, 4, none⟩ = some (.int .i64 0) := (blk_cell BK182.out 4).trans rfl
                      have hfz103_0 := blk_frozen BK182.out 0
                      have hfz103_1 := blk_frozen BK182.out 1
                      have hfz103_2 := blk_frozen BK182.out 2
                      have hfz103_3 := blk_frozen BK182.out 3
                      have hfz103_4 := blk_frozen BK182.out 4
                      have hcz104_0 : wr.cell? ⟨gb183, 0, none⟩ = some (u184000) := (blk_cell BK183.out 0).trans rfl
                      have hfz104_0 := blk_frozen BK183.out 0
                      obtain ⟨Ao105, co105, eo105, _⟩ := Kd.Q_slice HO_184000.out
                      subst eo105
                      go_wp2_with (first | ((with_reducible refine gate_callee (f := 48) rfl ?_); refine goesL_ (some 89) rfl rfl Try.func48 (by kernel_rfl) rfl #[.agg #[.int .i64 1, .int .i64 1, .int .i64 2, .int .i64 (wrap64 (1 + (Int.tmod (rd t178 0) 6))), .int .i64 0], .agg #[.slice Ao105 x184000_2.length co105], .int .i64 99] rfl (by (try simp only [List.map_toArray, List.map_cons, List.map_nil]); first | done | rfl | (simp only [List.length_drop, List.length_take]; rfl)) ?_; (with_reducible refine (impl_TakePort.calls k2 1 1 2 (wrap64 (1 + (Int.tmod (rd t178 0) 6))) 0 _ _ x184000_2 99 t197 t200 t201 _ ?side1 ?side2 A85.out).mono ?_); (case side1 => repeat (first | exact (Kd.Q_reads' HO_184000.out).2.2 | (with_reducible refine Kd.C_alloc ?_ _) | (with_reducible refine Kd.C_drewN ?_ _) | (with_reducible refine Kd.C_drew ?_))); (case side2 => exact (Kd.Q_reads' HO_184000.out).2.1); rintro e w106 ⟨v198, rfl, ho0, hb⟩; refine ⟨_, rfl, ?_⟩; have n0_ := Aside0.mk (Kd.R_below (by (with_reducible repeat (first | apply Kd.R_alloc | apply Kd.R_drewN | apply Kd.R_drew)); exact HO_3.out) hb); have n1_ := Aside0.mk (Kd.Q_elder' (by (with_reducible repeat (first | apply Kd.Q_alloc | apply Kd.Q_drewN | apply Kd.Q_drew)); exact HO_184000.out) (Kd.Q_base ho0) hb); have n2_ := Aside0.mk (Kd.Q_lower (Kd.Q_new' ho0 (Kd.Q_lt (by (with_reducible repeat (first | apply Kd.Q_alloc | apply Kd.Q_drewN | apply Kd.Q_drew)); exact HO_184000.out))) (below_size (by repeat (first | (with_reducible first | exact HB.out | apply below_alloc | apply pw_below_drewN | apply below_drew1 | refine below_set ?_ GE182.out | refine below_set ?_ GE183.out) | exact HB.out)))); have n3_ := Aside0.mk (blk_below (g := gb182) (o := .cells #[.int .i64 1, .int .i64 1, .int .i64 2, .int .i64 (wrap64 (1 + (Int.tmod (rd t178 0) 6))), .int .i64 0] 33 (0, 0)) (by (with_reducible repeat (first | refine blk_drewN ?_ _ | refine blk_drew ?_ | refine blk_alloc ?_ _)); exact BK182.out) hb); have n4_ := Aside0.mk (blk_below (g := gb183) (o := .cells #[.slice Ao105 x184000_2.length co105] 73 (0, 0)) (by (with_reducible repeat (first | refine blk_drewN ?_ _ | refine blk_drew ?_ | refine blk_alloc ?_ _)); exact BK183.out) hb); have n5_ := Aside0.mk (below_step (by repeat (first | (with_reducible first | exact HB.out | apply below_alloc | apply pw_below_drewN | apply below_drew1 | refine below_set ?_ GE182.out | refine below_set ?_ GE183.out) | exact HB.out)) hb); clear HO_3; clear HO_184000; clear BK182; clear BK183; clear HB; have HO_3 := n0_; have HO_184000 := n1_; have HO199 := n2_; have BK182 := n3_; have BK183 := n4_; have HB := n5_; clear n0_ n1_ n2_ n3_ n4_ n5_; (try clear hb); (try clear hb2); (try clear hk); (try clear hi); (try clear ho0)) | ((with_reducible refine gate_dst (N := 14) rfl ?_); refine box_event ?hg (N := 14) ?hd (cs := #[.slice none 0 0]) (t := 73) ?hr ?_; (case hd => rfl); (case hg => rfl); (case hr => first | (go_simp; done) | (go_simp; rfl)); intro gb202 hg w107 hbox hb; have n0_ := Aside0.mk (Kd.R_below (by (with_reducible repeat (first | apply Kd.R_alloc | apply Kd.R_drewN | apply Kd.R_drew)); exact HO_3.out) hb); have n1_ := Aside0.mk (Kd.Q_below (by (with_reducible repeat (first | apply Kd.Q_alloc | apply Kd.Q_drewN | apply Kd.Q_drew)); exact HO_184000.out) hb); have n2_ := Aside0.mk (Kd.Q_below (by (with_reducible repeat (first | apply Kd.Q_alloc | apply Kd.Q_drewN | apply Kd.Q_drew)); exact HO199.out) hb); have n3_ := Aside0.mk (blk_below (g := gb182) (o := .cells #[.int .i64 1, .int .i64 1, .int .i64 2, .int .i64 (wrap64 (1 + (Int.tmod (rd t178 0) 6))), .int .i64 0] 33 (0, 0)) (by (with_reducible repeat (first | refine blk_drewN ?_ _ | refine blk_drew ?_ | refine blk_alloc ?_ _)); exact BK182.out) hb); have n4_ := Aside0.mk (blk_below (g := gb183) (o := .cells #[.slice Ao105 x184000_2.length co105] 73 (0, 0)) (by (with_reducible repeat (first | refine blk_drewN ?_ _ | refine blk_drew ?_ | refine blk_alloc ?_ _)); exact BK183.out) hb); have n5_ := Aside0.mk (below_step (by repeat (first | (with_reducible first | exact HB.out | apply below_alloc | apply pw_below_drewN | apply below_drew1 | refine below_set ?_ GE182.out | refine below_set ?_ GE183.out) | exact HB.out)) hb); have n6_ := Aside0.mk (hbox); have n7_ := Aside0.mk ((by rw [hg]; exact (below_size (by repeat (first | (with_reducible first | exact HB.out | apply below_alloc | apply pw_below_drewN | apply below_drew1 | refine below_set ?_ GE182.out | refine below_set ?_ GE183.out) | exact HB.out))) : w.heap.size ≤ gb202)); have n8_ := Aside0.mk ((by rw [hg]; exact (below_size (by repeat (first | (with_reducible first | exact HB.out | apply below_alloc | apply pw_below_drewN | apply below_drew1 | refine below_set ?_ GE182.out | refine below_set ?_ GE183.out) | exact HB.out))) : w.heap.size ≤ gb202)); have n9_ := Aside0.mk ((by rw [hg]; exact Nat.ne_of_lt (blk_lt (g := gb182) (o := .cells #[.int .i64 1, .int .i64 1, .int .i64 2, .int .i64 (wrap64 (1 + (Int.tmod (rd t178 0) 6))), .int .i64 0] 33 (0, 0)) (by (with_reducible repeat (first | refine blk_drewN ?_ _ | refine blk_drew ?_ | refine blk_alloc ?_ _)); exact BK182.out)) : gb182 ≠ gb202)); have n10_ := Aside0.mk ((by rw [hg]; exact Nat.ne_of_gt (blk_lt (g := gb182) (o := .cells #[.int .i64 1, .int .i64 1, .int .i64 2, .int .i64 (wrap64 (1 + (Int.tmod (rd t178 0) 6))), .int .i64 0] 33 (0, 0)) (by (with_reducible repeat (first | refine blk_drewN ?_ _ | refine blk_drew ?_ | refine blk_alloc ?_ _)); exact BK182.out)) : gb202 ≠ gb182)); have n11_ := Aside0.mk ((by rw [hg]; exact Nat.ne_of_lt (blk_lt (g := gb183) (o := .cells #[.slice Ao105 x184000_2.length co105] 73 (0, 0)) (by (with_reducible repeat (first | refine blk_drewN ?_ _ | refine blk_drew ?_ | refine blk_alloc ?_ _)); exact BK183.out)) : gb183 ≠ gb202)); have n12_ := Aside0.mk ((by rw [hg]; exact Nat.ne_of_gt (blk_lt (g := gb183) (o := .cells #[.slice Ao105 x184000_2.length co105] 73 (0, 0)) (by (with_reducible repeat (first | refine blk_drewN ?_ _ | refine blk_drew ?_ | refine blk_alloc ?_ _)); exact BK183.out)) : gb202 ≠ gb183)); clear HO_3; clear HO_184000; clear HO199; clear BK182; clear BK183; clear HB; have HO_3 := n0_; have HO_184000 := n1_; have HO199 := n2_; have BK182 := n3_; have BK183 := n4_; have HB := n5_; have BK202 := n6_; have GW202 := n7_; have GE202 := n8_; have NB182_202 := n9_; have NB202_182 := n10_; have NB183_202 := n11_; have NB202_183 := n12_; clear n0_ n1_ n2_ n3_ n4_ n5_ n6_ n7_ n8_ n9_ n10_ n11_ n12_; clear hb hbox hg; obtain ⟨Ao108, co108, eo108, _⟩ := Kd.Q_slice HO199.out; subst eo108; have hnb109 := NB202_182.out; have hnc109 := NB182_202.out; have hnb110 := NB202_183.out; have hnc110 := NB183_202.out; have hcz111_0 : w107.cell? ⟨gb202, 0, none⟩ = some (.slice none 0 0) := (blk_cell BK202.out 0).trans rfl; have hfz111_0 := blk_frozen BK202.out 0; have hcz112_0 : w107.cell? ⟨gb182, 0, none⟩ = some (.int .i64 1) := (blk_cell BK182.out 0).trans rfl; have hcz112_1 : w107.cell? ⟨gb182, 1, none⟩ = some (.int .i64 1) := (blk_cell BK182.out 1).trans rfl; have hcz112_2 : w107.cell? ⟨gb182, 2, none⟩ = some (.int .i64 2) := (blk_cell BK182.out 2).trans rfl; have hcz112_3 : w107.cell? ⟨gb182, 3, none⟩ = some (.int .i64 (wrap64 (1 + (Int.tmod (rd t178 0) 6)))) := (blk_cell BK182.out 3).trans rfl; have hcz112_4 : w107.cell? ⟨gb182, 4, none⟩ = some (.int .i64 0) := (blk_cell BK182.out 4).trans rfl; have hfz112_0 := blk_frozen BK182.out 0; have hfz112_1 := blk_frozen BK182.out 1; have hfz112_2 := blk_frozen BK182.out 2; have hfz112_3 := blk_frozen BK182.out 3; have hfz112_4 := blk_frozen BK182.out 4) | ((with_reducible refine gate_callee (f := 24) rfl ?_); refine goesL_ (some 94) rfl rfl Try.func24 (by kernel_rfl) rfl #[.agg #[.int .i64 1, .int .i64 1, .int .i64 2, .int .i64 (wrap64 (1 + (Int.tmod (rd t178 0) 6))), .int .i64 0]] rfl (by (try simp only [List.map_toArray, List.map_cons, List.map_nil]); first | done | rfl | (simp only [List.length_drop, List.length_take]; rfl)) ?_; (with_reducible refine (impl_PortOk.calls k2 1 1 2 (wrap64 (1 + (Int.tmod (rd t178 0) 6))) 0 true _ A86.out).mono ?_); rintro e w113 ⟨rfl, hb⟩; refine ⟨_, rfl, ?_⟩; have n0_ := Aside0.mk (Kd.R_below (by (with_reducible repeat (first | apply Kd.R_alloc | apply Kd.R_drewN | apply Kd.R_drew)); exact (Kd.R_mono (Kd.R_far (p := ⟨gb202, 0, none⟩) (Kd.R_types HO_3.out BK202.out (by decide)) (fun _ hk => hk.2) (.slice Ao108 t197.length co108)) (fun _ h_ => h_.1))) hb); have n1_ := Aside0.mk (Kd.Q_below (by (with_reducible repeat (first | apply Kd.Q_alloc | apply Kd.Q_drewN | apply Kd.Q_drew)); exact (Kd.Q_mono (Kd.Q_far (p := ⟨gb202, 0, none⟩) (Kd.Q_types HO_184000.out BK202.out (by decide)) (fun _ hk => hk.2) (.slice Ao108 t197.length co108)) (fun _ h_ => h_.1))) hb); have n2_ := Aside0.mk (Kd.Q_below (by (with_reducible repeat (first | apply Kd.Q_alloc | apply Kd.Q_drewN | apply Kd.Q_drew)); exact (Kd.Q_mono (Kd.Q_far (p := ⟨gb202, 0, none⟩) (Kd.Q_types HO199.out BK202.out (by decide)) (fun _ hk => hk.2) (.slice Ao108 t197.length co108)) (fun _ h_ => h_.1))) hb); have n3_ := Aside0.mk (blk_below (g := gb182) (o := .cells #[.int .i64 1, .int .i64 1, .int .i64 2, .int .i64 (wrap64 (1 + (Int.tmod (rd t178 0) 6))), .int .i64 0] 33 (0, 0)) (by (with_reducible repeat (first | refine blk_drewN ?_ _ | refine blk_drew ?_ | refine blk_alloc ?_ _)); refine blk_far ?_ NB182_202.out _; (with_reducible repeat (first | refine blk_drewN ?_ _ | refine blk_drew ?_ | refine blk_alloc ?_ _)); exact BK182.out) hb); have n4_ := Aside0.mk (blk_below (g := gb183) (o := .cells #[.slice Ao105 x184000_2.length co105] 73 (0, 0)) (by (with_reducible repeat (first | refine blk_drewN ?_ _ | refine blk_drew ?_ | refine blk_alloc ?_ _)); refine blk_far ?_ NB183_202.out _; (with_reducible repeat (first | refine blk_drewN ?_ _ | refine blk_drew ?_ | refine blk_alloc ?_ _)); exact BK183.out) hb); have n5_ := Aside0.mk (blk_below (g := gb202) (o := .cells #[.slice Ao108 t197.length co108] 73 (0, 0)) (by (with_reducible repeat (first | refine blk_drewN ?_ _ | refine blk_drew ?_ | refine blk_alloc ?_ _)); refine blk_put (cs := #[.slice none 0 0]) ?_ 0 _ rfl; (with_reducible repeat (first | refine blk_drewN ?_ _ | refine blk_drew ?_ | refine blk_alloc ?_ _)); exact BK202.out) hb); have n6_ := Aside0.mk (below_step (by repeat (first | (with_reducible first | exact HB.out | apply below_alloc | apply pw_below_drewN | apply below_drew1 | refine below_set ?_ GE182.out | refine below_set ?_ GE183.out | refine below_set ?_ GE202.out) | exact HB.out)) hb); clear HO_3; clear HO_184000; clear HO199; clear BK182; clear BK183; clear BK202; clear HB; have HO_3 := n0_; have HO_184000 := n1_; have HO199 := n2_; have BK182 := n3_; have BK183 := n4_; have BK202 := n5_; have HB := n6_; clear n0_ n1_ n2_ n3_ n4_ n5_ n6_; (try clear hb); (try clear hb2); (try clear hk); (try clear hi)))
                      go_ret
                      exact ⟨by first | rfl | (simp [errW_none, errW_some] <;> rfl) | (simp [*, errW_none, errW_some] <;> rfl), by repeat (first | (with_reducible first | exact HB.out | apply below_alloc | apply pw_below_drewN | apply below_drew1 | refine below_set ?_ GE182.out | refine below_set ?_ GE183.out | refine below_set ?_ GE202.out) | exact HB.out)⟩
                  · replace c87 := Bool.eq_false_iff.mpr c87
                    subst c87
                    have H1 : (some false) = some r := by rw [if_neg (show ¬ (false = true) by decide)] at H; exact H
                    clear H
                    have H := H1
                    clear H1
                    obtain rfl := Option.some.inj H
                    have hnb114 := NB182_183.out
                    have hnc114 := NB183_182.out
                    have hcz115_0 : wr.cell? ⟨gb182, 0, none⟩ = some (.int .i64 1) := (blk_cell BK182.out 0).trans rfl
                    have hcz115_1 : wr.cell? ⟨gb182, 1, none⟩ = some (.int .i64 1) := (blk_cell BK182.out 1).trans rfl
                    have hcz115_2 : wr.cell? ⟨gb182, 2, none⟩ = some (.int .i64 2) := (blk_cell BK182.out 2).trans rfl
                    have hcz115_3 : wr.cell? ⟨gb182, 3, none⟩ = some (.int .i64 (wrap64 (1 + (Int.tmod (rd t178 0) 6)))) := (blk_cell BK182.out 3).trans rfl
                    have hcz115_4 : wr.cell? ⟨gb182, 4, none⟩ = some (.int .i64 0) := (blk_cell BK182.out 4).trans rfl
                    have hfz115_0 := blk_frozen BK182.out 0
                    have hfz115_1 := blk_frozen BK182.out 1
                    have hfz115_2 := blk_frozen BK182.out 2
                    have hfz115_3 := blk_frozen BK182.out 3
                    have hfz115_4 := blk_frozen BK182.out 4
                    have hcz116_0 : wr.cell? ⟨gb183, 0, none⟩ = some (u184000) := (blk_cell BK183.out 0).trans rfl
                    have hfz116_0 := blk_frozen BK183.out 0
                    obtain ⟨Ao117, co117, eo117, _⟩ := Kd.Q_slice HO_184000.out
                    subst eo117
                    go_wp2_with (first | ((with_reducible refine gate_callee (f := 48) rfl ?_); refine goesL_ (some 89) rfl rfl Try.func48 (by kernel_rfl) rfl #[.agg #[.int .i64 1, .int .i64 1, .int .i64 2, .int .i64 (wrap64 (1 + (Int.tmod (rd t178 0) 6))), .int .i64 0], .agg #[.slice Ao117 x184000_2.length co117], .int .i64 99] rfl (by (try simp only [List.map_toArray, List.map_cons, List.map_nil]); first | done | rfl | (simp only [List.length_drop, List.length_take]; rfl)) ?_; (with_reducible refine (impl_TakePort.calls k2 1 1 2 (wrap64 (1 + (Int.tmod (rd t178 0) 6))) 0 _ _ x184000_2 99 t197 t200 t201 _ ?side1 ?side2 A85.out).mono ?_); (case side1 => repeat (first | exact (Kd.Q_reads' HO_184000.out).2.2 | (with_reducible refine Kd.C_alloc ?_ _) | (with_reducible refine Kd.C_drewN ?_ _) | (with_reducible refine Kd.C_drew ?_))); (case side2 => exact (Kd.Q_reads' HO_184000.out).2.1); rintro e w118 ⟨v198, rfl, ho0, hb⟩; refine ⟨_, rfl, ?_⟩; have n0_ := Aside0.mk (Kd.R_below (by (with_reducible repeat (first | apply Kd.R_alloc | apply Kd.R_drewN | apply Kd.R_drew)); exact HO_3.out) hb); have n1_ := Aside0.mk (Kd.Q_elder' (by (with_reducible repeat (first | apply Kd.Q_alloc | apply Kd.Q_drewN | apply Kd.Q_drew)); exact HO_184000.out) (Kd.Q_base ho0) hb); have n2_ := Aside0.mk (Kd.Q_lower (Kd.Q_new' ho0 (Kd.Q_lt (by (with_reducible repeat (first | apply Kd.Q_alloc | apply Kd.Q_drewN | apply Kd.Q_drew)); exact HO_184000.out))) (below_size (by repeat (first | (with_reducible first | exact HB.out | apply below_alloc | apply pw_below_drewN | apply below_drew1 | refine below_set ?_ GE182.out | refine below_set ?_ GE183.out) | exact HB.out)))); have n3_ := Aside0.mk (blk_below (g := gb182) (o := .cells #[.int .i64 1, .int .i64 1, .int .i64 2, .int .i64 (wrap64 (1 + (Int.tmod (rd t178 0) 6))), .int .i64 0] 33 (0, 0)) (by (with_reducible repeat (first | refine blk_drewN ?_ _ | refine blk_drew ?_ | refine blk_alloc ?_ _)); exact BK182.out) hb); have n4_ := Aside0.mk (blk_below (g := gb183) (o := .cells #[.slice Ao117 x184000_2.length co117] 73 (0, 0)) (by (with_reducible repeat (first | refine blk_drewN ?_ _ | refine blk_drew ?_ | refine blk_alloc ?_ _)); exact BK183.out) hb); have n5_ := Aside0.mk (below_step (by repeat (first | (with_reducible first | exact HB.out | apply below_alloc | apply pw_below_drewN | apply below_drew1 | refine below_set ?_ GE182.out | refine below_set ?_ GE183.out) | exact HB.out)) hb); clear HO_3; clear HO_184000; clear BK182; clear BK183; clear HB; have HO_3 := n0_; have HO_184000 := n1_; have HO199 := n2_; have BK182 := n3_; have BK183 := n4_; have HB := n5_; clear n0_ n1_ n2_ n3_ n4_ n5_; (try clear hb); (try clear hb2); (try clear hk); (try clear hi); (try clear ho0)) | ((with_reducible refine gate_dst (N := 14) rfl ?_); refine box_event ?hg (N := 14) ?hd (cs := #[.slice none 0 0]) (t := 73) ?hr ?_; (case hd => rfl); (case hg => rfl); (case hr => first | (go_simp; done) | (go_simp; rfl)); intro gb202 hg w119 hbox hb; have n0_ := Aside0.mk (Kd.R_below (by (with_reducible repeat (first | apply Kd.R_alloc | apply Kd.R_drewN | apply Kd.R_drew)); exact HO_3.out) hb); have n1_ := Aside0.mk (Kd.Q_below (by (with_reducible repeat (first | apply Kd.Q_alloc | apply Kd.Q_drewN | apply Kd.Q_drew)); exact HO_184000.out) hb); have n2_ := Aside0.mk (Kd.Q_below (by (with_reducible repeat (first | apply Kd.Q_alloc | apply Kd.Q_drewN | apply Kd.Q_drew)); exact HO199.out) hb); have n3_ := Aside0.mk (blk_below (g := gb182) (o := .cells #[.int .i64 1, .int .i64 1, .int .i64 2, .int .i64 (wrap64 (1 + (Int.tmod (rd t178 0) 6))), .int .i64 0] 33 (0, 0)) (by (with_reducible repeat (first | refine blk_drewN ?_ _ | refine blk_drew ?_ | refine blk_alloc ?_ _)); exact BK182.out) hb); have n4_ := Aside0.mk (blk_below (g := gb183) (o := .cells #[.slice Ao117 x184000_2.length co117] 73 (0, 0)) (by (with_reducible repeat (first | refine blk_drewN ?_ _ | refine blk_drew ?_ | refine blk_alloc ?_ _)); exact BK183.out) hb); have n5_ := Aside0.mk (below_step (by repeat (first | (with_reducible first | exact HB.out | apply below_alloc | apply pw_below_drewN | apply below_drew1 | refine below_set ?_ GE182.out | refine below_set ?_ GE183.out) | exact HB.out)) hb); have n6_ := Aside0.mk (hbox); have n7_ := Aside0.mk ((by rw [hg]; exact (below_size (by repeat (first | (with_reducible first | exact HB.out | apply below_alloc | apply pw_below_drewN | apply below_drew1 | refine below_set ?_ GE182.out | refine below_set ?_ GE183.out) | exact HB.out))) : w.heap.size ≤ gb202)); have n8_ := Aside0.mk ((by rw [hg]; exact (below_size (by repeat (first | (with_reducible first | exact HB.out | apply below_alloc | apply pw_below_drewN | apply below_drew1 | refine below_set ?_ GE182.out | refine below_set ?_ GE183.out) | exact HB.out))) : w.heap.size ≤ gb202)); have n9_ := Aside0.mk ((by rw [hg]; exact Nat.ne_of_lt (blk_lt (g := gb182) (o := .cells #[.int .i64 1, .int .i64 1, .int .i64 2, .int .i64 (wrap64 (1 + (Int.tmod (rd t178 0) 6))), .int .i64 0] 33 (0, 0)) (by (with_reducible repeat (first | refine blk_drewN ?_ _ | refine blk_drew ?_ | refine blk_alloc ?_ _)); exact BK182.out)) : gb182 ≠ gb202)); have n10_ := Aside0.mk ((by rw [hg]; exact Nat.ne_of_gt (blk_lt (g := gb182) (o := .cells #[.int .i64 1, .int .i64 1, .int .i64 2, .int .i64 (wrap64 (1 + (Int.tmod (rd t178 0) 6))), .int .i64 0] 33 (0, 0)) (by (with_reducible repeat (first | refine blk_drewN ?_ _ | refine blk_drew ?_ | refine blk_alloc ?_ _)); exact BK182.out)) : gb202 ≠ gb182)); have n11_ := Aside0.mk ((by rw [hg]; exact Nat.ne_of_lt (blk_lt (g := gb183) (o := .cells #[.slice Ao117 x184000_2.length co117] 73 (0, 0)) (by (with_reducible repeat (first | refine blk_drewN ?_ _ | refine blk_drew ?_ | refine blk_alloc ?_ _)); exact BK183.out)) : gb183 ≠ gb202)); have n12_ := Aside0.mk ((by rw [hg]; exact Nat.ne_of_gt (blk_lt (g := gb183) (o := .cells #[.slice Ao117 x184000_2.length co117] 73 (0, 0)) (by (with_reducible repeat (first | refine blk_drewN ?_ _ | refine blk_drew ?_ | refine blk_alloc ?_ _)); exact BK183.out)) : gb202 ≠ gb183)); clear HO_3; clear HO_184000; clear HO199; clear BK182; clear BK183; clear HB; have HO_3 := n0_; have HO_184000 := n1_; have HO199 := n2_; have BK182 := n3_; have BK183 := n4_; have HB := n5_; have BK202 := n6_; have GW202 := n7_; have GE202 := n8_; have NB182_202 := n9_; have NB202_182 := n10_; have NB183_202 := n11_; have NB202_183 := n12_; clear n0_ n1_ n2_ n3_ n4_ n5_ n6_ n7_ n8_ n9_ n10_ n11_ n12_; clear hb hbox hg; obtain ⟨Ao120, co120, eo120, _⟩ := Kd.Q_slice HO199.out; subst eo120; have hnb121 := NB202_182.out; have hnc121 := NB182_202.out; have hnb122 := NB202_183.out; have hnc122 := NB183_202.out; have hcz123_0 : w119.cell? ⟨gb202, 0, none⟩ = some (.slice none 0 0) := (blk_cell BK202.out 0).trans rfl; have hfz123_0 := blk_frozen BK202.out 0; have hcz124_0 : w119.cell? ⟨gb182, 0, none⟩ = some (.int .i64 1) := (blk_cell BK182.out 0).trans rfl; have hcz124_1 : w119.cell? ⟨gb182, 1, none⟩ = some (.int .i64 1) := (blk_cell BK182.out 1).trans rfl; have hcz124_2 : w119.cell? ⟨gb182, 2, none⟩ = some (.int .i64 2) := (blk_cell BK182.out 2).trans rfl; have hcz124_3 : w119.cell? ⟨gb182, 3, none⟩ = some (.int .i64 (wrap64 (1 + (Int.tmod (rd t178 0) 6)))) := (blk_cell BK182.out 3).trans rfl; have hcz124_4 : w119.cell? ⟨gb182, 4, none⟩ = some (.int .i64 0) := (blk_cell BK182.out 4).trans rfl; have hfz124_0 := blk_frozen BK182.out 0; have hfz124_1 := blk_frozen BK182.out 1; have hfz124_2 := blk_frozen BK182.out 2; have hfz124_3 := blk_frozen BK182.out 3; have hfz124_4 := blk_frozen BK182.out 4) | ((with_reducible refine gate_callee (f := 24) rfl ?_); refine goesL_ (some 94) rfl rfl Try.func24 (by kernel_rfl) rfl #[.agg #[.int .i64 1, .int .i64 1, .int .i64 2, .int .i64 (wrap64 (1 + (Int.tmod (rd t178 0) 6))), .int .i64 0]] rfl (by (try simp only [List.map_toArray, List.map_cons, List.map_nil]); first | done | rfl | (simp only [List.length_drop, List.length_take]; rfl)) ?_; (with_reducible refine (impl_PortOk.calls k2 1 1 2 (wrap64 (1 + (Int.tmod (rd t178 0) 6))) 0 false _ A86.out).mono ?_); rintro e w125 ⟨rfl, hb⟩; refine ⟨_, rfl, ?_⟩; have n0_ := Aside0.mk (Kd.R_below (by (with_reducible repeat (first | apply Kd.R_alloc | apply Kd.R_drewN | apply Kd.R_drew)); exact (Kd.R_mono (Kd.R_far (p := ⟨gb202, 0, none⟩) (Kd.R_types HO_3.out BK202.out (by decide)) (fun _ hk => hk.2) (.slice Ao120 t197.length co120)) (fun _ h_ => h_.1))) hb); have n1_ := Aside0.mk (Kd.Q_below (by (with_reducible repeat (first | apply Kd.Q_alloc | apply Kd.Q_drewN | apply Kd.Q_drew)); exact (Kd.Q_mono (Kd.Q_far (p := ⟨gb202, 0, none⟩) (Kd.Q_types HO_184000.out BK202.out (by decide)) (fun _ hk => hk.2) (.slice Ao120 t197.length co120)) (fun _ h_ => h_.1))) hb); have n2_ := Aside0.mk (Kd.Q_below (by (with_reducible repeat (first | apply Kd.Q_alloc | apply Kd.Q_drewN | apply Kd.Q_drew)); exact (Kd.Q_mono (Kd.Q_far (p := ⟨gb202, 0, none⟩) (Kd.Q_types HO199.out BK202.out (by decide)) (fun _ hk => hk.2) (.slice Ao120 t197.length co120)) (fun _ h_ => h_.1))) hb); have n3_ := Aside0.mk (blk_below (g := gb182) (o := .cells #[.int .i64 1, .int .i64 1, .int .i64 2, .int .i64 (wrap64 (1 + (Int.tmod (rd t178 0) 6))), .int .i64 0] 33 (0, 0)) (by (with_reducible repeat (first | refine blk_drewN ?_ _ | refine blk_drew ?_ | refine blk_alloc ?_ _)); refine blk_far ?_ NB182_202.out _; (with_reducible repeat (first | refine blk_drewN ?_ _ | refine blk_drew ?_ | refine blk_alloc ?_ _)); exact BK182.out) hb); have n4_ := Aside0.mk (blk_below (g := gb183) (o := .cells #[.slice Ao117 x184000_2.length co117] 73 (0, 0)) (by (with_reducible repeat (first | refine blk_drewN ?_ _ | refine blk_drew ?_ | refine blk_alloc ?_ _)); refine blk_far ?_ NB183_202.out _; (with_reducible repeat (first | refine blk_drewN ?_ _ | refine blk_drew ?_ | refine blk_alloc ?_ _)); exact BK183.out) hb); have n5_ := Aside0.mk (blk_below (g := gb202) (o := .cells #[.slice Ao120 t197.length co120] 73 (0, 0)) (by (with_reducible repeat (first | refine blk_drewN ?_ _ | refine blk_drew ?_ | refine blk_alloc ?_ _)); refine blk_put (cs := #[.slice none 0 0]) ?_ 0 _ rfl; (with_reducible repeat (first | refine blk_drewN ?_ _ | refine blk_drew ?_ | refine blk_alloc ?_ _)); exact BK202.out) hb); have n6_ := Aside0.mk (below_step (by repeat (first | (with_reducible first | exact HB.out | apply below_alloc | apply pw_below_drewN | apply below_drew1 | refine below_set ?_ GE182.out | refine below_set ?_ GE183.out | refine below_set ?_ GE202.out) | exact HB.out)) hb); clear HO_3; clear HO_184000; clear HO199; clear BK182; clear BK183; clear BK202; clear HB; have HO_3 := n0_; have HO_184000 := n1_; have HO199 := n2_; have BK182 := n3_; have BK183 := n4_; have BK202 := n5_; have HB := n6_; clear n0_ n1_ n2_ n3_ n4_ n5_ n6_; (try clear hb); (try clear hb2); (try clear hk); (try clear hi)))
                    go_ret
                    exact ⟨by first | rfl | (simp [errW_none, errW_some] <;> rfl) | (simp [*, errW_none, errW_some] <;> rfl), by repeat (first | (with_reducible first | exact HB.out | apply below_alloc | apply pw_below_drewN | apply below_drew1 | refine below_set ?_ GE182.out | refine below_set ?_ GE183.out | refine below_set ?_ GE202.out) | exact HB.out)⟩
    · rw [if_neg c5] at H
      exact absurd H (by simp)

/-- THE ONE PURE STATEMENT of laws_FnQueues: yours. -/
def laws_FnQueues.Pure : Prop := ∀ (l0 : List Int), l0.length ≤ maxLen → l0.length * 1 ≤ 140737488351232 → (∀ x ∈ l0, (Lit.int .u8 x).wf = true) → ∃ k, laws_FnQueues.f k l0 = some true
theorem laws_FnQueues.walk (P : laws_FnQueues.Pure) (a0 : Option Addr) (len0 cap0 : Nat) (z0 : List Int) (w : World) (w0 : (a0 = none ∧ len0 = 0 ∧ cap0 = 0 ∧ z0 = []) ∨ ∃ x, a0 = some x ∧ len0 ≤ cap0 ∧ cap0 ≤ maxLen ∧ z0.length = cap0 ∧ (∀ i, i < z0.length → w.cell? (x.add i) = some (.int .u8 (z0.getD i 0))) ∧ ∀ n ∈ z0, (Lit.int .u8 n).wf = true) (y0 : len0 * 1 ≤ 140737488351232) :
    Calls Try.prog 12 #[.slice a0 len0 cap0] w fun e w' => e = .returned (.bool true) ∧ Below w.heap.size w w' := by
  obtain ⟨l0, rfl, hr0, hm0, hw0, hc0⟩ := ReadsInt.ofRowC w0
  obtain ⟨k, h⟩ := P l0 hm0 y0 hw0
  refine (laws_FnQueues.calls k _ _ l0 true w (Kd.C_of_reads (d := (0 : Int)) (h1 := fun _ => rfl) hr0) hc0 h).mono ?_
  rintro e w' ⟨rfl, hd⟩
  exact ⟨rfl, hd⟩

end Go.Proofs.Ytbnmhfglkbkbnaa.PFnQueues
