/- The law's trees and examples. -/
import Derived.Test.YtjnkbmodcddbkaaDoorTy
import Derived.Test.YtjnkbmodcddbkaaDoorS15
import Derived.Test.YtjnkbmodcddbkaaDoorS13
import Derived.Test.YtjnkbmodcddbkaaDoorS2
set_option linter.unusedVariables false
set_option linter.unusedSimpArgs false
namespace Go.Proofs.YtjnkbmodcddbkaaDoor
open Go Go.RowKit
def rowsN (n : Int) : List Row := [⟨0, 9, ⟨1, n, ⟨#[]⟩⟩⟩]
def treeL (a : Int) (o : ByteArray) (n : Int) : List Ent := if o = ⟨#[]⟩ then [⟨⟨#[97]⟩, rowsN a⟩] else [⟨⟨#[97]⟩, rowsN a⟩, ⟨o, rowsN n⟩]
theorem f29_spec (a : Int) (o : ByteArray) (n : Int) (hg : goodL (treeL a o n)) : FSpec Tryd.prog 29 [.d (.i .i64 a), .d (.s o), .d (.i .i64 n)] (aTrie (buildR (treeL a o n))) := by
  refine acalls_of Tryd.func29 rfl Tryd.ntmps29 Tryd.results29 (by simp) ?_
  refine awp_seq ?_
  refine awp_region ?_
  refine l_alloc zT25 (.plain rfl) rfl rfl rfl (fun g1 ng1 => ?_)
  refine awpL_nil ?_
  refine awp_seq ?_
  refine awp_region ?_
  refine lv (.plain rfl) rfl rfl (opv_move rfl (Ev.eq (.t (.n 0 1 rfl)))) ?_
  refine lv (.plain rfl) rfl rfl (q_call rfl .f Tryd.call31 (.cons (.t .here) .nil) rfl (f31_spec _)) ?_
  refine lv (.plain rfl) rfl rfl (p_build (bldT43) rfl (.cons .s (.cons (.t .here) .nil)) (by simp [AV.cs, AV.one]) (cs := [_, _]) rfl) ?_
  refine l_xd (.plain rfl) rfl rfl (x_buildSlice (cs := [_, _]) (rows := [[_, _]]) slT38 slZ38_1 rfl rfl rfl (.cons (.t .here) .nil) rfl rfl rfl rfl rfl) ?_
  rintro _ _ ⟨g2, ng2, rfl, rfl⟩
  refine lv (.plain rfl) rfl rfl (opv_assign rfl (Ev.eq (.t .here))) ?_
  refine awpL_nil ?_
  refine awp_seq ?_
  refine awp_seq ?_
  refine awp_region ?_
  refine lv (.plain rfl) rfl rfl (opv_move rfl (Ev.eq (.t (.n 1 7 rfl)))) ?_
  refine lv (.plain rfl) rfl rfl (opv_neq_s rfl (Ev.eq (.t .here)) (Ev.eq .s) rfl) ?_
  refine awpL_nil ?_
  refine psplit .here (fun h15 => ?_) (fun h15 => ?_)
  ·
   have q15 := h15
   try simp only [zs, List.length_map] at q15
   refine pcond_t (.t .here) h15 ?_
   have hL : treeL a o n = [⟨⟨#[97]⟩, rowsN a⟩, ⟨o, rowsN n⟩] := if_neg (by simpa [bl_inj] using q15)
   refine awp_region ?_
   refine lv (.plain rfl) rfl rfl (opv_move rfl (Ev.eq (.t (.n 7 2 rfl)))) ?_
   refine lv (.plain rfl) rfl rfl (opv_move rfl (Ev.eq (.t (.n 1 10 rfl)))) ?_
   refine lv (.plain rfl) rfl rfl (opv_move rfl (Ev.eq (.t (.n 2 12 rfl)))) ?_
   refine lv (.plain rfl) rfl rfl (q_call rfl .f Tryd.call31 (.cons (.t .here) .nil) rfl (f31_spec _)) ?_
   refine lv (.plain rfl) rfl rfl (p_build (bldT43) rfl (.cons (.t (.n 17 2 rfl)) (.cons (.t .here) .nil)) (by simp [AV.cs, AV.one]) (cs := [_, _]) rfl) ?_
   refine l_xd (.plain rfl) rfl rfl (x_buildSlice (cs := [_, _]) (rows := [[_, _]]) slT38 slZ38_1 rfl rfl rfl (.cons (.t .here) .nil) rfl rfl rfl rfl rfl) ?_
   rintro _ _ ⟨g4, ng4, rfl, rfl⟩
   refine l_xd (.plain rfl) rfl rfl (opx_perm ((List.Perm.swap _ _ _).cons _) (x_append (acc := (Acc.at g2 1 [[.d (.s ⟨#[97]⟩), .d (dRows (rowsN a))]])) (rows := [[_, _]]) (hf := [_, _]) apT38 rfl (.t (.n 16 5 rfl)) (.t .here) rfl (.head _) rfl rfl (by simp [Acc.rows]))) ?_
   rintro _ _ ⟨acc2, hacc2, rfl, rfl⟩
   dsimp only [List.cons_append, List.nil_append]
   refine lv (.plain rfl) rfl rfl (opv_assign rfl (Ev.eq (.t .here))) ?_
   refine awpL_nil ?_
   refine awp_seq ?_
   refine awp_region ?_
   refine lv (.plain rfl) rfl rfl (opv_move rfl (Ev.eq (.t .here))) ?_
   refine lfrz_p (hz := _ :: accH 43 2 acc2) (h' := [_]) ((List.perm_append_comm (l₁ := [_]) (l₂ := accH 43 2 acc2)).cons _) (.cons (.n 6 16 rfl) .refl (.cons .here (frz_acc (e := 43) (sz := 2) (xs := ([⟨⟨#[97]⟩, rowsN a⟩, ⟨o, rowsN n⟩] : List Ent).map encEnt) (fun q hq => .tail _ hq) (by rw [hacc2]; rfl)) .nil)) ?_
   refine lv (.plain rfl) rfl rfl (q_call rfl .f Tryd.call30 (.cons (.t (.n 24 1 rfl)) .nil) rfl (by have h := f30_spec hg (by unfold treeL; split <;> simp); rw [hL] at h; exact h)) ?_
   refine lv (.plain rfl) rfl rfl (opv_move rfl (Ev.eq (.t .here))) ?_
   refine lv (.plain rfl) rfl rfl (q_extract rfl (Ev.eq (.t .here)) .here) ?_
   refine lv (.plain rfl) rfl rfl (q_extract rfl (Ev.eq (.t (.n 23 1 rfl))) (.there .here)) ?_
   refine l_alloc zT25 (.plain rfl) rfl rfl rfl (fun g5 ng5 => ?_)
   refine l_storen Tryd.sizeOf25 (.plain rfl) rfl rfl (.t .here) (.t (.n 26 2 rfl)) rfl rfl rfl .here ?_
   refine lv (.plain rfl) rfl rfl (opv_assign rfl (Ev.eq (.t (.n 27 1 rfl)))) ?_
   refine awpL_nil ?_
   refine awp_seq ?_
   refine awp_region ?_
   refine lv (.plain rfl) rfl rfl (q_loadn (agT25) rfl (Ev.eq (.t (.n 8 1 rfl))) .here rfl) ?_
   refine l_storen Tryd.sizeOf25 (.plain rfl) rfl rfl (.t (.n 6 7 rfl)) (.t .here) rfl rfl rfl (.there .here) ?_
   refine awpL_nil ?_
   refine awp_ret ?_
   refine ret_now (.one (rv_c (agT25) (.n 6 7 rfl) (.there .here) rfl)) (Cast.all _ _) ?_
   rw [hL]
   exact ⟨rfl, rfl⟩
  ·
   have q15 := h15
   try simp only [zs, List.length_map] at q15
   refine pcond_f (.t .here) h15 ?_
   refine awp_skip ?_
   refine awp_seq ?_
   refine awp_region ?_
   refine lv (.plain rfl) rfl rfl (opv_move rfl (Ev.eq (.t (.n 7 2 rfl)))) ?_
   have hL : treeL a o n = [⟨⟨#[97]⟩, rowsN a⟩] := if_pos (by simpa [bl_inj] using q15)
   refine lfrz_p (hz := [_]) (List.Perm.refl _) (.cons (.n 6 8 rfl) .refl (.cons .here (.own (xs := ([⟨⟨#[97]⟩, rowsN a⟩] : List Ent).map encEnt) (.head _) rfl rfl) .nil)) ?_
   refine lv (.plain rfl) rfl rfl (q_call rfl .f Tryd.call30 (.cons (.t (.n 24 1 rfl)) .nil) rfl (by have h := f30_spec hg (by unfold treeL; split <;> simp); rw [hL] at h; exact h)) ?_
   refine lv (.plain rfl) rfl rfl (opv_move rfl (Ev.eq (.t .here))) ?_
   refine lv (.plain rfl) rfl rfl (q_extract rfl (Ev.eq (.t .here)) .here) ?_
   refine lv (.plain rfl) rfl rfl (q_extract rfl (Ev.eq (.t (.n 23 1 rfl))) (.there .here)) ?_
   refine l_alloc zT25 (.plain rfl) rfl rfl rfl (fun g6 ng6 => ?_)
   refine l_storen Tryd.sizeOf25 (.plain rfl) rfl rfl (.t .here) (.t (.n 26 2 rfl)) rfl rfl rfl .here ?_
   refine lv (.plain rfl) rfl rfl (opv_assign rfl (Ev.eq (.t (.n 27 1 rfl)))) ?_
   refine awpL_nil ?_
   refine awp_seq ?_
   refine awp_region ?_
   refine lv (.plain rfl) rfl rfl (q_loadn (agT25) rfl (Ev.eq (.t (.n 8 1 rfl))) .here rfl) ?_
   refine l_storen Tryd.sizeOf25 (.plain rfl) rfl rfl (.t (.n 6 7 rfl)) (.t .here) rfl rfl rfl (.there .here) ?_
   refine awpL_nil ?_
   refine awp_ret ?_
   refine ret_now (.one (rv_c (agT25) (.n 6 7 rfl) (.there .here) rfl)) (Cast.all _ _) ?_
   rw [hL]
   exact ⟨rfl, rfl⟩
def liveA : List Ent := treeL 1 ⟨#[]⟩ 0
def liveB : List Ent := treeL 2 ⟨#[98]⟩ 3
def liveC : List Ent := treeL 1 ⟨#[99]⟩ 4
def liveD : List Ent := treeL 5 ⟨#[99]⟩ 4
def liveW : List Ent := [⟨⟨#[97]⟩, rowsN 2⟩, ⟨⟨#[98]⟩, rowsN 3⟩, ⟨⟨#[99]⟩, rowsN 4⟩]
def goodB (l : List Ent) : Bool := l.all (fun e => isPath e.path && (rowsB e.rows && !decide (e.rows = [])))
theorem good_of {l : List Ent} (h1 : l.Pairwise ltE) (h2 : goodB l = true) : goodL l := ⟨h1, fun e he => by
  have := List.all_eq_true.1 h2 e he
  simpa [Bool.and_eq_true] using this⟩
theorem liveA_good : goodL liveA := good_of (by unfold liveA treeL; decide) (by decide)
theorem liveB_good : goodL liveB := good_of (by unfold liveB treeL; decide) (by decide)
theorem liveC_good : goodL liveC := good_of (by unfold liveC treeL; decide) (by decide)
theorem liveD_good : goodL liveD := good_of (by unfold liveD treeL; decide) (by decide)
theorem liveW_good : goodL liveW := good_of (by unfold liveW; decide) (by decide)
theorem build_all {l : List Ent} (hg : goodL l) : rightB (buildR l) = true ∧ (buildR l).ents ⟨#[]⟩ = l ∧ entriesR (buildR l) = l ∧ buildR l = ofR l := by
  have h := build_right hg l.length (Nat.le_refl _)
  rw [List.take_length] at h
  refine ⟨h.1, h.2, ?_, ?_⟩
  · unfold entriesR
    rw [if_pos h.1, h.2]
  · rw [← ofR_ents h.1, h.2]
theorem live_one : mergeP (buildR liveA) (buildR liveB) (buildR liveC) = ⟨buildR liveW, [], 0⟩ := by
  rw [merge_eq]
  unfold mergeR
  rw [if_neg (by rw [(build_all liveA_good).1, (build_all liveB_good).1, (build_all liveC_good).1]; simp), (build_all liveA_good).2.2.1, (build_all liveB_good).2.2.1, (build_all liveC_good).2.2.1, if_pos (by decide), (build_all liveW_good).2.2.2]
  rw [show entsM liveA liveB liveC = liveW from by decide]
theorem live_two : mergeP (buildR liveA) (buildR liveB) (buildR liveD) = ⟨emptyT, [⟨#[97]⟩], 19⟩ := by
  rw [merge_eq]
  unfold mergeR
  rw [if_neg (by rw [(build_all liveA_good).1, (build_all liveB_good).1, (build_all liveD_good).1]; simp), (build_all liveA_good).2.2.1, (build_all liveB_good).2.2.1, (build_all liveD_good).2.2.1]
  rw [show badsR liveA liveB liveD = [⟨#[97]⟩] from by decide, if_neg (by simp)]
theorem live_kids : (buildR liveW).kids.length = 3 := by
  rw [(build_all liveW_good).2.2.2]
  decide
theorem live_cnt {l : List Ent} (hg : goodL l) (h : (ofR l).cnt ≤ 100000) : (buildR l).cnt ≤ 100000 := by rw [(build_all hg).2.2.2]; exact h
theorem f10_one : FSpec Tryd.prog 10 [aTrie (buildR liveA), aTrie (buildR liveB), aTrie (buildR liveC)] (.tup [aTrie (buildR liveW), .d (dStrs []), .d (.i .i64 0)]) := by
  have h := f10_spec (buildR liveA) (buildR liveB) (buildR liveC) (live_cnt liveA_good (by decide)) (live_cnt liveB_good (by decide)) (live_cnt liveC_good (by decide))
  rw [live_one] at h
  exact h
theorem f10_two : FSpec Tryd.prog 10 [aTrie (buildR liveA), aTrie (buildR liveB), aTrie (buildR liveD)] (.tup [aTrie emptyT, .d (dStrs [⟨#[97]⟩]), .d (.i .i64 19)]) := by
  have h := f10_spec (buildR liveA) (buildR liveB) (buildR liveD) (live_cnt liveA_good (by decide)) (live_cnt liveB_good (by decide)) (live_cnt liveD_good (by decide))
  rw [live_two] at h
  exact h
theorem f12_same : FSpec Tryd.prog 12 [aTrie (buildR liveW), aTrie (buildR liveW)] (.d (.b true)) := by
  have h := f12_spec (buildR liveW) (buildR liveW) (rightB_lab (build_all liveW_good).1)
  rw [(sameT_iff _ _).2 rfl] at h
  exact h
theorem f9_spec : FSpec Tryd.prog 9 [] (.d (.b true)) := by
  refine acalls_of Tryd.func9 rfl Tryd.ntmps9 Tryd.results9 (by simp) ?_
  refine awp_seq ?_
  refine awp_region ?_
  refine lv (.plain rfl) rfl rfl (opv_assign rfl (Ev.eq .b)) ?_
  refine awpL_nil ?_
  refine awp_seq ?_
  refine awp_region ?_
  refine lv (.plain rfl) rfl rfl (q_call rfl .f Tryd.call29 (.cons .i (.cons .s (.cons .i .nil))) rfl (f29_spec 1 ⟨#[]⟩ 0 liveA_good)) ?_
  refine lv (.plain rfl) rfl rfl (q_call rfl .f Tryd.call29 (.cons .i (.cons .s (.cons .i .nil))) rfl (f29_spec 2 ⟨#[98]⟩ 3 liveB_good)) ?_
  refine lv (.plain rfl) rfl rfl (q_call rfl .f Tryd.call29 (.cons .i (.cons .s (.cons .i .nil))) rfl (f29_spec 1 ⟨#[99]⟩ 4 liveC_good)) ?_
  refine lv (.plain rfl) rfl rfl (q_call rfl .f Tryd.call10 (.cons (.t (.n 10 2 rfl)) (.cons (.t (.n 11 1 rfl)) (.cons (.t .here) .nil))) rfl (f10_one)) ?_
  refine lv (.plain rfl) rfl rfl (opv_move rfl (Ev.eq (.t .here))) ?_
  refine lv (.plain rfl) rfl rfl (q_extract rfl (Ev.eq (.t .here)) .here) ?_
  refine lv (.plain rfl) rfl rfl (q_extract rfl (Ev.eq (.t (.n 9 1 rfl))) (.there .here)) ?_
  refine lv (.plain rfl) rfl rfl (q_extract rfl (Ev.eq (.t (.n 9 2 rfl))) (.there (.there .here))) ?_
  refine l_alloc zT25 (.plain rfl) rfl rfl rfl (fun g1 ng1 => ?_)
  refine l_storen Tryd.sizeOf25 (.plain rfl) rfl rfl (.t .here) (.t (.n 14 3 rfl)) rfl rfl rfl .here ?_
  refine lv (.plain rfl) rfl rfl (opv_assign rfl (Ev.eq (.t (.n 15 2 rfl)))) ?_
  refine lv (.plain rfl) rfl rfl (opv_assign rfl (Ev.eq (.t (.n 16 2 rfl)))) ?_
  refine awpL_nil ?_
  refine awp_seq ?_
  refine awp_region ?_
  refine lv (.plain rfl) rfl rfl (q_call rfl .f Tryd.call29 (.cons .i (.cons .s (.cons .i .nil))) rfl (f29_spec 1 ⟨#[]⟩ 0 liveA_good)) ?_
  refine lv (.plain rfl) rfl rfl (q_call rfl .f Tryd.call29 (.cons .i (.cons .s (.cons .i .nil))) rfl (f29_spec 2 ⟨#[98]⟩ 3 liveB_good)) ?_
  refine lv (.plain rfl) rfl rfl (q_call rfl .f Tryd.call29 (.cons .i (.cons .s (.cons .i .nil))) rfl (f29_spec 5 ⟨#[99]⟩ 4 liveD_good)) ?_
  refine lv (.plain rfl) rfl rfl (q_call rfl .f Tryd.call10 (.cons (.t (.n 18 2 rfl)) (.cons (.t (.n 19 1 rfl)) (.cons (.t .here) .nil))) rfl (f10_two)) ?_
  refine lv (.plain rfl) rfl rfl (opv_move rfl (Ev.eq (.t .here))) ?_
  refine lv (.plain rfl) rfl rfl (q_extract rfl (Ev.eq (.t .here)) .here) ?_
  refine lv (.plain rfl) rfl rfl (q_extract rfl (Ev.eq (.t (.n 17 1 rfl))) (.there .here)) ?_
  refine lv (.plain rfl) rfl rfl (q_extract rfl (Ev.eq (.t (.n 17 2 rfl))) (.there (.there .here))) ?_
  refine l_alloc zT25 (.plain rfl) rfl rfl rfl (fun g2 ng2 => ?_)
  refine l_storen Tryd.sizeOf25 (.plain rfl) rfl rfl (.t .here) (.t (.n 22 3 rfl)) rfl rfl rfl .here ?_
  refine lv (.plain rfl) rfl rfl (opv_assign rfl (Ev.eq (.t (.n 23 2 rfl)))) ?_
  refine lv (.plain rfl) rfl rfl (opv_assign rfl (Ev.eq (.t (.n 24 2 rfl)))) ?_
  refine awpL_nil ?_
  refine awp_seq ?_
  refine awp_region ?_
  refine lv (.plain rfl) rfl rfl (q_call rfl .f Tryd.call31 (.cons .i .nil) rfl (f31_spec _)) ?_
  refine lv (.plain rfl) rfl rfl (p_build (bldT43) rfl (.cons .s (.cons (.t .here) .nil)) (by simp [AV.cs, AV.one]) (cs := [_, _]) rfl) ?_
  refine lv (.plain rfl) rfl rfl (q_call rfl .f Tryd.call31 (.cons .i .nil) rfl (f31_spec _)) ?_
  refine lv (.plain rfl) rfl rfl (p_build (bldT43) rfl (.cons .s (.cons (.t .here) .nil)) (by simp [AV.cs, AV.one]) (cs := [_, _]) rfl) ?_
  refine lv (.plain rfl) rfl rfl (q_call rfl .f Tryd.call31 (.cons .i .nil) rfl (f31_spec _)) ?_
  refine lv (.plain rfl) rfl rfl (p_build (bldT43) rfl (.cons .s (.cons (.t .here) .nil)) (by simp [AV.cs, AV.one]) (cs := [_, _]) rfl) ?_
  refine l_xd (.plain rfl) rfl rfl (x_buildSlice (cs := [_, _, _, _, _, _]) (rows := [[_, _], [_, _], [_, _]]) slT38 slZ38_3 rfl rfl rfl (.cons (.t (.n 27 4 rfl)) (.cons (.t (.n 29 2 rfl)) (.cons (.t .here) .nil))) rfl rfl rfl rfl rfl) ?_
  rintro _ _ ⟨g3, ng3, rfl, rfl⟩
  refine lfrz_p (hz := [_]) (List.Perm.refl _) (.cons (.n 1 20 rfl) .refl (.cons (.n 2 19 rfl) .refl (.cons (.n 3 18 rfl) .refl (.cons (.n 4 9 rfl) .refl (.cons (.n 5 8 rfl) .refl (.cons (.n 6 7 rfl) .refl (.cons .here (.own (xs := liveW.map encEnt) (.head _) rfl rfl) .nil))))))) ?_
  refine lv (.plain rfl) rfl rfl (q_call rfl .f Tryd.call30 (.cons (.t (.n 32 6 rfl)) .nil) rfl (f30_spec liveW_good (by decide))) ?_
  refine lv (.plain rfl) rfl rfl (opv_move rfl (Ev.eq (.t .here))) ?_
  refine lv (.plain rfl) rfl rfl (q_extract rfl (Ev.eq (.t .here)) .here) ?_
  refine lv (.plain rfl) rfl rfl (q_extract rfl (Ev.eq (.t (.n 25 1 rfl))) (.there .here)) ?_
  refine l_alloc zT25 (.plain rfl) rfl rfl rfl (fun g4 ng4 => ?_)
  refine l_storen Tryd.sizeOf25 (.plain rfl) rfl rfl (.t .here) (.t (.n 34 2 rfl)) rfl rfl rfl .here ?_
  refine lv (.plain rfl) rfl rfl (opv_assign rfl (Ev.eq (.t (.n 35 1 rfl)))) ?_
  refine awpL_nil ?_
  refine awp_seq ?_
  refine awp_region ?_
  refine lv (.plain rfl) rfl rfl (q_loadn (agT25) rfl (Ev.eq (.t (.n 1 6 rfl))) (.there (.there .here)) rfl) ?_
  refine lv (.plain rfl) rfl rfl (q_loadn (agT25) rfl (Ev.eq (.t (.n 7 2 rfl))) .here rfl) ?_
  refine lv (.plain rfl) rfl rfl (q_call rfl .f Tryd.call12 (.cons (.t (.n 36 1 rfl)) (.cons (.t .here) .nil)) rfl (f12_same)) ?_
  refine lv (.plain rfl) rfl rfl (opv_move rfl (Ev.eq (.t .here))) ?_
  refine lv (.on rfl rfl .here rfl) rfl rfl (p_field (fldT25_2) rfl (Ev.eq (.t (.n 7 5 rfl))) (off' := 2) rfl) ?_
  refine lv (.on rfl rfl (.n 39 1 rfl) rfl) rfl rfl (q_load1 (scT23) rfl (Ev.eq (.t .here)) .here (.there (.there .here))) ?_
  refine lv (.on rfl rfl (.n 39 2 rfl) rfl) rfl rfl (opv_len_sl Tryd.underlying23 rfl (Ev.eq (.t .here)) rfl) ?_
  refine lv (.on rfl rfl (.n 39 3 rfl) rfl) rfl rfl (opv_eql_i rfl (Ev.eq (.t .here)) (Ev.eq .i) rfl) ?_
  refine lv (.plain rfl) rfl rfl (opv_pick_t rfl (Ev.eq (.t (.n 39 4 rfl))) rfl (Ev.eq (.t .here))) ?_
  refine lv (.plain rfl) rfl rfl (opv_move rfl (Ev.eq (.t .here))) ?_
  refine lsplit (.n 43 2 rfl) (fun h43 => ?_) (fun h43 => ?_)
  ·
   have q43 := h43
   try simp only [zs, List.length_map, encTries_len] at q43
   refine lv (.on rfl rfl .here h43) rfl rfl (opv_move rfl (Ev.eq (.t (.n 2 17 rfl)))) ?_
   refine lv (.on rfl rfl (.n 45 1 rfl) h43) rfl rfl (opv_len_sl Tryd.underlying28 rfl (Ev.eq (.t .here)) rfl) ?_
   refine lv (.on rfl rfl (.n 45 2 rfl) h43) rfl rfl (opv_eql_i rfl (Ev.eq (.t .here)) (Ev.eq .i) rfl) ?_
   refine lv (.plain rfl) rfl rfl (opv_pick_t rfl (Ev.eq (.t (.n 45 3 rfl))) h43 (Ev.eq (.t .here))) ?_
   refine lv (.plain rfl) rfl rfl (opv_move rfl (Ev.eq (.t .here))) ?_
   refine lsplit (.n 48 2 rfl) (fun h48 => ?_) (fun h48 => ?_)
   ·
    have q48 := h48
    try simp only [zs, List.length_map, encTries_len] at q48
    refine lv (.on rfl rfl .here h48) rfl rfl (opv_move rfl (Ev.eq (.t (.n 3 23 rfl)))) ?_
    refine lv (.on rfl rfl (.n 50 1 rfl) h48) rfl rfl (opv_eql_i rfl (Ev.eq (.t .here)) (Ev.eq .i) rfl) ?_
    refine lv (.plain rfl) rfl rfl (opv_pick_t rfl (Ev.eq (.t (.n 50 2 rfl))) h48 (Ev.eq (.t .here))) ?_
    refine lv (.plain rfl) rfl rfl (opv_move rfl (Ev.eq (.t .here))) ?_
    refine lsplit (.n 52 2 rfl) (fun h52 => ?_) (fun h52 => ?_)
    ·
     have q52 := h52
     try simp only [zs, List.length_map, encTries_len] at q52
     refine lv (.on rfl rfl .here h52) rfl rfl (opv_move rfl (Ev.eq (.t (.n 5 29 rfl)))) ?_
     refine l_xd (.on rfl rfl (.n 54 1 rfl) h52) rfl rfl (x_buildSlice (cs := [_]) (rows := [[_]]) slT28 slZ28_1 rfl rfl rfl (.cons .s .nil) rfl rfl rfl rfl rfl) ?_
     rintro _ _ ⟨g8, ng8, rfl, rfl⟩
     refine lv (.on rfl rfl (.n 54 2 rfl) h52) rfl rfl (q_call_ro rfl .f fnas_fn Tryd.call13 (.cons (.t (.n 55 1 rfl)) (.cons (.t .here) .nil)) rfl (.cons .refl (.cons (.own (xs := ([⟨#[97]⟩] : List ByteArray).map encS) (.head _) rfl rfl) .nil)) (f13_spec [⟨#[97]⟩] [⟨#[97]⟩]) (by simp [AV.scal])) ?_
     refine lv (.plain rfl) rfl rfl (opv_pick_t rfl (Ev.eq (.t (.n 54 3 rfl))) h52 (Ev.eq (.t .here))) ?_
     refine lv (.plain rfl) rfl rfl (opv_move rfl (Ev.eq (.t .here))) ?_
     refine lsplit (.n 57 2 rfl) (fun h57 => ?_) (fun h57 => ?_)
     ·
      have q57 := h57
      try simp only [zs, List.length_map, encTries_len] at q57
      refine lv (.on rfl rfl .here h57) rfl rfl (opv_move rfl (Ev.eq (.t (.n 6 35 rfl)))) ?_
      refine lv (.on rfl rfl (.n 59 1 rfl) h57) rfl rfl (opv_eql_i rfl (Ev.eq (.t .here)) (Ev.eq .i) rfl) ?_
      refine lv (.plain rfl) rfl rfl (opv_pick_t rfl (Ev.eq (.t (.n 59 2 rfl))) h57 (Ev.eq (.t .here))) ?_
      refine lv (.plain rfl) rfl rfl (opv_assign rfl (Ev.eq (.t .here))) ?_
      refine awpL_nil ?_
      refine awp_ret ?_
      refine ret_now (.one (rv_t .here)) (Cast.all _ _) ?_
      exact ⟨rfl, rfl⟩
     ·
      have q57 := h57
      try simp only [zs, List.length_map, encTries_len] at q57
      refine lo (.off rfl rfl .here h57) rfl rfl ?_
      refine lo (.off rfl rfl (.n 59 1 rfl) h57) rfl rfl ?_
      refine lv (.plain rfl) rfl rfl (opv_pick_f rfl (Ev.eq (.t (.n 59 2 rfl))) h57 (Ev.eq .b)) ?_
      refine lv (.plain rfl) rfl rfl (opv_assign rfl (Ev.eq (.t .here))) ?_
      refine awpL_nil ?_
      refine awp_ret ?_
      refine ret_now (.one (rv_t .here)) (Cast.all _ _) ?_
      exfalso
      have hlk := live_kids
      simp_all [encTries_len]
    ·
     have q52 := h52
     try simp only [zs, List.length_map, encTries_len] at q52
     refine lo (.off rfl rfl .here h52) rfl rfl ?_
     refine lo (.off rfl rfl (.n 54 1 rfl) h52) rfl rfl ?_
     refine lo (.off rfl rfl (.n 54 2 rfl) h52) rfl rfl ?_
     refine lv (.plain rfl) rfl rfl (opv_pick_f rfl (Ev.eq (.t (.n 54 3 rfl))) h52 (Ev.eq .b)) ?_
     refine lv (.plain rfl) rfl rfl (opv_move rfl (Ev.eq (.t .here))) ?_
     refine lo (.off rfl rfl .here rfl) rfl rfl ?_
     refine lo (.off rfl rfl (.n 59 1 rfl) rfl) rfl rfl ?_
     refine lv (.plain rfl) rfl rfl (opv_pick_f rfl (Ev.eq (.t (.n 59 2 rfl))) rfl (Ev.eq .b)) ?_
     refine lv (.plain rfl) rfl rfl (opv_assign rfl (Ev.eq (.t .here))) ?_
     refine awpL_nil ?_
     refine awp_ret ?_
     refine ret_now (.one (rv_t .here)) (Cast.all _ _) ?_
     exfalso
     have hlk := live_kids
     simp_all [encTries_len]
   ·
    have q48 := h48
    try simp only [zs, List.length_map, encTries_len] at q48
    refine lo (.off rfl rfl .here h48) rfl rfl ?_
    refine lo (.off rfl rfl (.n 50 1 rfl) h48) rfl rfl ?_
    refine lv (.plain rfl) rfl rfl (opv_pick_f rfl (Ev.eq (.t (.n 50 2 rfl))) h48 (Ev.eq .b)) ?_
    refine lv (.plain rfl) rfl rfl (opv_move rfl (Ev.eq (.t .here))) ?_
    refine lo (.off rfl rfl .here rfl) rfl rfl ?_
    refine lo (.off rfl rfl (.n 54 1 rfl) rfl) rfl rfl ?_
    refine lo (.off rfl rfl (.n 54 2 rfl) rfl) rfl rfl ?_
    refine lv (.plain rfl) rfl rfl (opv_pick_f rfl (Ev.eq (.t (.n 54 3 rfl))) rfl (Ev.eq .b)) ?_
    refine lv (.plain rfl) rfl rfl (opv_move rfl (Ev.eq (.t .here))) ?_
    refine lo (.off rfl rfl .here rfl) rfl rfl ?_
    refine lo (.off rfl rfl (.n 59 1 rfl) rfl) rfl rfl ?_
    refine lv (.plain rfl) rfl rfl (opv_pick_f rfl (Ev.eq (.t (.n 59 2 rfl))) rfl (Ev.eq .b)) ?_
    refine lv (.plain rfl) rfl rfl (opv_assign rfl (Ev.eq (.t .here))) ?_
    refine awpL_nil ?_
    refine awp_ret ?_
    refine ret_now (.one (rv_t .here)) (Cast.all _ _) ?_
    exfalso
    have hlk := live_kids
    simp_all [encTries_len]
  ·
   have q43 := h43
   try simp only [zs, List.length_map, encTries_len] at q43
   refine lo (.off rfl rfl .here h43) rfl rfl ?_
   refine lo (.off rfl rfl (.n 45 1 rfl) h43) rfl rfl ?_
   refine lo (.off rfl rfl (.n 45 2 rfl) h43) rfl rfl ?_
   refine lv (.plain rfl) rfl rfl (opv_pick_f rfl (Ev.eq (.t (.n 45 3 rfl))) h43 (Ev.eq .b)) ?_
   refine lv (.plain rfl) rfl rfl (opv_move rfl (Ev.eq (.t .here))) ?_
   refine lo (.off rfl rfl .here rfl) rfl rfl ?_
   refine lo (.off rfl rfl (.n 50 1 rfl) rfl) rfl rfl ?_
   refine lv (.plain rfl) rfl rfl (opv_pick_f rfl (Ev.eq (.t (.n 50 2 rfl))) rfl (Ev.eq .b)) ?_
   refine lv (.plain rfl) rfl rfl (opv_move rfl (Ev.eq (.t .here))) ?_
   refine lo (.off rfl rfl .here rfl) rfl rfl ?_
   refine lo (.off rfl rfl (.n 54 1 rfl) rfl) rfl rfl ?_
   refine lo (.off rfl rfl (.n 54 2 rfl) rfl) rfl rfl ?_
   refine lv (.plain rfl) rfl rfl (opv_pick_f rfl (Ev.eq (.t (.n 54 3 rfl))) rfl (Ev.eq .b)) ?_
   refine lv (.plain rfl) rfl rfl (opv_move rfl (Ev.eq (.t .here))) ?_
   refine lo (.off rfl rfl .here rfl) rfl rfl ?_
   refine lo (.off rfl rfl (.n 59 1 rfl) rfl) rfl rfl ?_
   refine lv (.plain rfl) rfl rfl (opv_pick_f rfl (Ev.eq (.t (.n 59 2 rfl))) rfl (Ev.eq .b)) ?_
   refine lv (.plain rfl) rfl rfl (opv_assign rfl (Ev.eq (.t .here))) ?_
   refine awpL_nil ?_
   refine awp_ret ?_
   refine ret_now (.one (rv_t .here)) (Cast.all _ _) ?_
   exfalso
   have hlk := live_kids
   simp_all [encTries_len]
end Go.Proofs.YtjnkbmodcddbkaaDoor
