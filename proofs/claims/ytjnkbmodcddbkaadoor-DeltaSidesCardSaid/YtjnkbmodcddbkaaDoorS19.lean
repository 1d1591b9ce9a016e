/- What changes from a tree to another one. -/
import Derived.Test.YtjnkbmodcddbkaaDoorTy
import Derived.Test.YtjnkbmodcddbkaaDoorS13
import Derived.Test.YtjnkbmodcddbkaaDoorS18
set_option linter.unusedVariables false
set_option linter.unusedSimpArgs false
namespace Go.Proofs.YtjnkbmodcddbkaaDoor
open Go Go.RowKit
structure Chg where
  path : ByteArray
  had : List Row
  now : List Row
def encChg (x : Chg) : List D := [.s x.path, dRows x.had, dRows x.now]
def chg1 (s : Side) : List Chg := if s.a = s.b then [] else [⟨s.path, s.a, s.b⟩]
def chgs (l : List Side) : List Chg := l.flatMap chg1
theorem chgs_app (l : List Side) (s : Side) : chgs (l ++ [s]) = chgs l ++ (if s.a = s.b then [] else [⟨s.path, s.a, s.b⟩]) := by
  unfold chgs
  rw [List.flatMap_append]
  simp [chg1]
theorem chgs_len : ∀ (l : List Side), (chgs l).length ≤ l.length
  | [] => by simp [chgs]
  | s :: r => by
    have := chgs_len r
    unfold chgs at this ⊢
    rw [List.flatMap_cons, List.length_append, List.length_cons]
    have h2 : (chg1 s).length ≤ 1 := by unfold chg1; split <;> simp
    omega
/-- What the program's Changes tells. -/
def chgP (a b : Trie) : List Chg := if (rightB a && rightB b) = true then chgs (sidesF ((entriesR a).length + (entriesR b).length + 1) (entriesR a) (entriesR b) []) else []
theorem f25_spec (ta tb : Trie) (hca : ta.cnt ≤ 100000) (hcb : tb.cnt ≤ 100000) : FSpec Tryd.prog 25 [aTrie ta, aTrie tb] (.d (.sl ((chgP ta tb).map encChg))) := by
  have hla := entriesR_len ta hca
  have hlb := entriesR_len tb hcb
  obtain ⟨la, ra, ka⟩ := ta
  obtain ⟨lb, rb, kb⟩ := tb
  show FSpec _ _ [.agg [.d (.s la), .d (dRows ra), .d (.sl (encTries ka))], .agg [.d (.s lb), .d (dRows rb), .d (.sl (encTries kb))]] _
  refine acalls_of Tryd.func25 rfl Tryd.ntmps25 Tryd.results25 (by simp) ?_
  refine awp_seq ?_
  refine awp_region ?_
  refine l_box (.plain rfl) rfl rfl rfl (.t .here) rfl rfl (fun g1 ng1 => ?_)
  refine l_box (.plain rfl) rfl rfl rfl (.t (.n 1 2 rfl)) rfl rfl (fun g2 ng2 => ?_)
  refine lv (.plain rfl) rfl rfl (opv_assign rfl (Ev.eq .n)) ?_
  refine awpL_nil ?_
  refine awp_seq ?_
  refine awp_seq ?_
  refine awp_region ?_
  refine lv (.plain rfl) rfl rfl (q_loadn (agT25) rfl (Ev.eq (.t (.n 2 2 rfl))) (.there .here) rfl) ?_
  refine lv (.plain rfl) rfl rfl (q_loadn (agT25) rfl (Ev.eq (.t (.n 3 2 rfl))) .here rfl) ?_
  refine l_xd (.plain rfl) rfl rfl (x_buildSlice (cs := [_, _, _, _, _, _]) (rows := [[_, _, _], [_, _, _]]) slT23 slZ23_2 rfl rfl rfl (.cons (.t (.n 9 1 rfl)) (.cons (.t .here) .nil)) rfl rfl rfl rfl rfl) ?_
  rintro _ _ ⟨g3, ng3, rfl, rfl⟩
  refine lv (.plain rfl) rfl rfl (q_call_ro rfl .f fnas_fn Tryd.call32 (.cons (.t .here) .nil) rfl (.cons (.own (xs := encTries [(Trie.mk la ra ka), (Trie.mk lb rb kb)]) (.head _) rfl rfl) .nil) (f32_spec [(Trie.mk la ra ka), (Trie.mk lb rb kb)]) (by simp [AV.scal])) ?_
  refine lv (.plain rfl) rfl rfl (opv_not rfl (Ev.eq (.t .here)) rfl) ?_
  refine awpL_nil ?_
  refine psplit (.n 12 1 rfl) (fun h12 => ?_) (fun h12 => ?_)
  ·
   have q12 := h12
   try simp only [zs, List.length_map] at q12
   refine pcond_f (.t .here) (congrArg not h12) ?_
   refine awp_skip ?_
   refine awp_seq ?_
   have hall : ([(Trie.mk la ra ka), (Trie.mk lb rb kb)] : List Trie).any (fun t => !rightB t) = false := by simpa using q12
   have hra : rightB (Trie.mk la ra ka) = true := by simp at hall; exact hall.1
   have hrb : rightB (Trie.mk lb rb kb) = true := by simp at hall; exact hall.2
   refine awp_region ?_
   refine l_alloc zT57 (.plain rfl) rfl rfl rfl (fun g4 ng4 => ?_)
   refine awpL_nil ?_
   refine awp_seq ?_
   refine awp_seq ?_
   refine awp_region ?_
   refine lv (.plain rfl) rfl rfl (q_loadn (agT25) rfl (Ev.eq (.t (.n 2 8 rfl))) (.there (.there (.there .here))) rfl) ?_
   refine lv (.plain rfl) rfl rfl (q_loadn (agT25) rfl (Ev.eq (.t (.n 3 8 rfl))) (.there (.there .here)) rfl) ?_
   refine l_xd (.plain rfl) rfl rfl (x_buildSlice (cs := [_, _, _, _, _, _]) (rows := [[_, _, _], [_, _, _]]) slT23 slZ23_2 rfl rfl rfl (.cons (.t (.n 14 1 rfl)) (.cons (.t .here) .nil)) rfl rfl rfl rfl rfl) ?_
   rintro _ _ ⟨g5, ng5, rfl, rfl⟩
   refine lfrz_p (hz := [_]) (List.Perm.refl _) (.cons (.n 2 11 rfl) .refl (.cons (.n 3 10 rfl) .refl (.cons (.n 5 3 rfl) .refl (.cons .here (.own (xs := encTries [(Trie.mk la ra ka), (Trie.mk lb rb kb)]) (.head _) rfl rfl) .nil)))) ?_
   refine lv (.plain rfl) rfl rfl (q_call rfl .f Tryd.call33 (.cons (.t (.n 16 3 rfl)) .nil) rfl (f33_spec [(Trie.mk la ra ka), (Trie.mk lb rb kb)])) ?_
   refine awpL_nil ?_
   refine awp_block ?_
   have hcn3 : ∀ t, t ∈ [(Trie.mk la ra ka), (Trie.mk lb rb kb)] → t.cnt ≤ 1000000000 := by intro t ht; simp at ht; rcases ht with rfl | rfl <;> omega
   have hr3 : ∀ t, t ∈ [(Trie.mk la ra ka), (Trie.mk lb rb kb)] → rightB t = true := by intro t ht; simp at ht; rcases ht with rfl | rfl <;> assumption
   refine pweak (.cons (.n 5 3 rfl) (.cons .here .nil)) ?_
   refine awp_range (.t (.n 17 1 rfl)) fnas_d Tryd.call72 (f72_it [(Trie.mk la ra ka), (Trie.mk lb rb kb)] (by simp) hcn3 hr3 ((entriesR (Trie.mk la ra ka)).length + (entriesR (Trie.mk lb rb kb)).length + 1) (by show (entriesR (Trie.mk la ra ka)).length + (entriesR (Trie.mk lb rb kb)).length + ([] : List Ent).length < _; simp only [List.length_nil]; omega)) rfl (fun (a : Acc) => (g4, .var 57 [accV a]) :: accH 60 3 a) (fun j a => a.rows = cellsOf encChg (chgs ((sidesF ((entriesR (Trie.mk la ra ka)).length + (entriesR (Trie.mk lb rb kb)).length + 1) (entriesR (Trie.mk la ra ka)) (entriesR (Trie.mk lb rb kb)) []).take j))) (Acc.none) (.cons_cons _ (List.nil_sublist _)) (rfl) ?_ ?_
   ·
    rintro j x acc L' dd RR hx hacc
    obtain ⟨⟨sp, sa, sb, sc⟩, hsd, rfl⟩ := map_get (l := (sidesF ((entriesR (Trie.mk la ra ka)).length + (entriesR (Trie.mk lb rb kb)).length + 1) (entriesR (Trie.mk la ra ka)) (entriesR (Trie.mk lb rb kb)) [])) hx
    dsimp only [aSide]
    have hcl := chgs_len ((sidesF ((entriesR (Trie.mk la ra ka)).length + (entriesR (Trie.mk lb rb kb)).length + 1) (entriesR (Trie.mk la ra ka)) (entriesR (Trie.mk lb rb kb)) []).take j)
    have hsl := sidesF_len ((entriesR (Trie.mk la ra ka)).length + (entriesR (Trie.mk lb rb kb)).length + 1) (entriesR (Trie.mk la ra ka)) (entriesR (Trie.mk lb rb kb)) []
    rw [List.length_take] at hcl
    refine awp_region ?_
    refine l_alloc zT72 (.plain rfl) rfl rfl rfl (fun g6 ng6 => ?_)
    refine l_storen Tryd.sizeOf72 (.plain rfl) rfl rfl (.t .here) (.t (.n 18 1 rfl)) rfl rfl rfl .here ?_
    refine awpL_nil ?_
    refine ⟨rfl, 1, _, _, rfl, fun R' => ?_⟩
    dsimp only [List.set_cons_succ, List.set_cons_zero]
    refine awp_block ?_
    refine awp_seq ?_
    refine g_draw mixed kb_nil (by kernel_rfl) (fuel := 8) rfl rfl ?_
    refine g_v (listed' := bs 8 1) 0 rfl (by kernel_rfl) rfl (fun _ => .plain rfl) rfl (fun _ hK => p_field (fldT72_1) rfl (Ev.eq (.t .here)) (off' := 1) rfl) kb_nil ?_
    refine g_v (listed' := bs 8 3) 1 rfl (by kernel_rfl) rfl (fun _ => .plain rfl) rfl (fun _ hK => p_index_arr (off' := 1) Tryd.underlying70 Tryd.sizeOf22 rfl (Ev.eq (.t .here)) (Ev.eq .i) (by decide) (by decide) rfl) kb_nil ?_
    refine g_v (listed' := bs 8 11) 3 rfl (by kernel_rfl) rfl (fun _ => .plain rfl) rfl (fun _ hK => p_field (fldT72_1) rfl (Ev.eq (.t (.n 6 2 rfl))) (off' := 1) rfl) kb_nil ?_
    refine g_v (listed' := bs 8 27) 4 rfl (by kernel_rfl) rfl (fun _ => .plain rfl) rfl (fun _ hK => p_index_arr (off' := 2) Tryd.underlying70 Tryd.sizeOf22 rfl (Ev.eq (.t .here)) (Ev.eq .i) (by decide) (by decide) rfl) kb_nil ?_
    refine g_twod (li := bs 8 31) (lj := bs 8 59) 2 5 (by kernel_rfl) rfl rfl rfl rfl rfl rfl (.plain rfl) (.plain rfl) (opx_v (q_load1 (scT22) rfl (Ev.eq (.t (.n 20 2 rfl))) .here (.there .here))) (opx_v (q_load1 (scT22) rfl (Ev.eq (.t .here)) .here (.there (.there .here)))) ?_ ?_
    ·
     rintro _ _ ⟨rfl, rfl⟩
     refine ⟨kb_nil, ?_⟩
     refine g_v (listed' := bs 8 95) 6 rfl (by kernel_rfl) rfl (fun _ => .plain rfl) rfl (fun _ hK => opv_assign rfl (Ev.eq (.t .here))) kb_nil ?_
     refine g_xd (listed' := bs 8 127) 5 (by kernel_rfl) rfl rfl (.plain rfl) rfl (opx_v (q_load1 (scT22) rfl (Ev.eq (.t (.n 23 2 rfl))) .here (.there (.there .here)))) ?_
     rintro _ _ ⟨rfl, rfl⟩
     refine ⟨kb_nil, ?_⟩
     refine g_v (listed' := bs 8 255) 7 rfl (by kernel_rfl) rfl (fun _ => .plain rfl) rfl (fun _ hK => opv_assign rfl (Ev.eq (.t .here))) kb_nil ?_
     refine g_end (by kernel_rfl) ?_
     refine awp_seq ?_
     refine awp_region ?_
     refine lv (.plain rfl) rfl rfl (opv_move rfl (Ev.eq (.t (.n 7 2 rfl)))) ?_
     refine lv (.plain rfl) rfl rfl (opv_move rfl (Ev.eq (.t (.n 8 1 rfl)))) ?_
     refine lv (.plain rfl) rfl rfl (q_call rfl .f Tryd.call59 (.cons (.t (.n 25 1 rfl)) (.cons (.t .here) .nil)) rfl (f59_spec sa sb)) ?_
     refine lv (.plain rfl) rfl rfl (opv_not rfl (Ev.eq (.t .here)) rfl) ?_
     refine awpL_nil ?_
     refine psplit (.n 27 1 rfl) (fun h27 => ?_) (fun h27 => ?_)
     ·
      have q27 := h27
      try simp only [zs, List.length_map] at q27
      refine pcond_f (.t .here) (congrArg not h27) ?_
      refine awp_skip ?_
      refine ⟨rfl, acc, (by show acc.rows = _; rw [take_snoc hsd, chgs_app, if_pos (by simpa using q27), List.append_nil]; exact hacc), weak_both .nil (.cons _ (List.Sublist.refl _))⟩
     ·
      have q27 := h27
      try simp only [zs, List.length_map] at q27
      refine pcond_t (.t .here) (congrArg not h27) ?_
      refine awp_region ?_
      refine lv (.plain rfl) rfl rfl (q_load1 (scT57) rfl (Ev.eq (.t (.n 5 14 rfl))) (.there (.there (.there .here))) .here) ?_
      refine lv (.plain rfl) rfl rfl (p_field (fldT72_0) rfl (Ev.eq (.t (.n 6 13 rfl))) (off' := 0) rfl) ?_
      refine lv (.plain rfl) rfl rfl (q_load1 (scT9) rfl (Ev.eq (.t .here)) .here .here) ?_
      refine lv (.plain rfl) rfl rfl (opv_move rfl (Ev.eq (.t (.n 7 9 rfl)))) ?_
      refine lv (.plain rfl) rfl rfl (opv_move rfl (Ev.eq (.t (.n 8 8 rfl)))) ?_
      refine lv (.plain rfl) rfl rfl (p_build (bldT60) rfl (.cons (.t (.n 31 2 rfl)) (.cons (.t (.n 32 1 rfl)) (.cons (.t .here) .nil))) (by simp [AV.cs, AV.one]) (cs := [_, _, _]) rfl) ?_
      refine l_xd (.plain rfl) rfl rfl (x_buildSlice (cs := [_, _, _]) (rows := [[_, _, _]]) slT57 slZ57_1 rfl rfl rfl (.cons (.t .here) .nil) rfl rfl rfl rfl rfl) ?_
      rintro _ _ ⟨g7, ng7, rfl, rfl⟩
      refine l_xd (.plain rfl) rfl rfl (x_append (acc := acc) (rows := [_]) (hf := [_, _, _, _, _]) apT57 rfl (.t (.n 29 6 rfl)) (.t .here) rfl (.head _) rfl rfl (by rw [hacc, cellsOf_len]; simp; omega)) ?_
      rintro _ _ ⟨acc8, hacc8, rfl, rfl⟩
      dsimp only [List.cons_append, List.nil_append]
      refine l_store1 Tryd.sizeOf57 (.plain rfl) rfl rfl (.t (.n 5 22 rfl)) (.t .here) (accV_one _) .here (.there (.there (.there (.there .here)))) ?_
      refine awpL_nil ?_
      refine ⟨rfl, acc8, (by show acc8.rows = _; rw [take_snoc hsd, chgs_app, hacc8, hacc, if_neg (by simpa using q27), cellsOf_append]; rfl), weak_both .nil (.cons _ (.cons _ (List.Sublist.refl _)))⟩
    ·
     rintro _ _ ⟨rfl, rfl⟩
     refine ⟨kb_nil, ?_⟩
     refine g_xd (listed' := bs 8 63) 2 (by kernel_rfl) rfl rfl (.plain rfl) rfl (opx_v (q_load1 (scT22) rfl (Ev.eq (.t (.n 20 3 rfl))) .here (.there .here))) ?_
     rintro _ _ ⟨rfl, rfl⟩
     refine ⟨kb_nil, ?_⟩
     refine g_v (listed' := bs 8 127) 6 rfl (by kernel_rfl) rfl (fun _ => .plain rfl) rfl (fun _ hK => opv_assign rfl (Ev.eq (.t .here))) kb_nil ?_
     refine g_v (listed' := bs 8 255) 7 rfl (by kernel_rfl) rfl (fun _ => .plain rfl) rfl (fun _ hK => opv_assign rfl (Ev.eq (.t (.n 24 2 rfl)))) kb_nil ?_
     refine g_end (by kernel_rfl) ?_
     refine awp_seq ?_
     refine awp_region ?_
     refine lv (.plain rfl) rfl rfl (opv_move rfl (Ev.eq (.t (.n 7 1 rfl)))) ?_
     refine lv (.plain rfl) rfl rfl (opv_move rfl (Ev.eq (.t (.n 8 1 rfl)))) ?_
     refine lv (.plain rfl) rfl rfl (q_call rfl .f Tryd.call59 (.cons (.t (.n 25 1 rfl)) (.cons (.t .here) .nil)) rfl (f59_spec sa sb)) ?_
     refine lv (.plain rfl) rfl rfl (opv_not rfl (Ev.eq (.t .here)) rfl) ?_
     refine awpL_nil ?_
     refine psplit (.n 27 1 rfl) (fun h27 => ?_) (fun h27 => ?_)
     ·
      have q27 := h27
      try simp only [zs, List.length_map] at q27
      refine pcond_f (.t .here) (congrArg not h27) ?_
      refine awp_skip ?_
      refine ⟨rfl, acc, (by show acc.rows = _; rw [take_snoc hsd, chgs_app, if_pos (by simpa using q27), List.append_nil]; exact hacc), weak_both .nil (.cons _ (List.Sublist.refl _))⟩
     ·
      have q27 := h27
      try simp only [zs, List.length_map] at q27
      refine pcond_t (.t .here) (congrArg not h27) ?_
      refine awp_region ?_
      refine lv (.plain rfl) rfl rfl (q_load1 (scT57) rfl (Ev.eq (.t (.n 5 14 rfl))) (.there (.there (.there .here))) .here) ?_
      refine lv (.plain rfl) rfl rfl (p_field (fldT72_0) rfl (Ev.eq (.t (.n 6 13 rfl))) (off' := 0) rfl) ?_
      refine lv (.plain rfl) rfl rfl (q_load1 (scT9) rfl (Ev.eq (.t .here)) .here .here) ?_
      refine lv (.plain rfl) rfl rfl (opv_move rfl (Ev.eq (.t (.n 7 8 rfl)))) ?_
      refine lv (.plain rfl) rfl rfl (opv_move rfl (Ev.eq (.t (.n 8 8 rfl)))) ?_
      refine lv (.plain rfl) rfl rfl (p_build (bldT60) rfl (.cons (.t (.n 31 2 rfl)) (.cons (.t (.n 32 1 rfl)) (.cons (.t .here) .nil))) (by simp [AV.cs, AV.one]) (cs := [_, _, _]) rfl) ?_
      refine l_xd (.plain rfl) rfl rfl (x_buildSlice (cs := [_, _, _]) (rows := [[_, _, _]]) slT57 slZ57_1 rfl rfl rfl (.cons (.t .here) .nil) rfl rfl rfl rfl rfl) ?_
      rintro _ _ ⟨g9, ng9, rfl, rfl⟩
      refine l_xd (.plain rfl) rfl rfl (x_append (acc := acc) (rows := [_]) (hf := [_, _, _, _, _]) apT57 rfl (.t (.n 29 6 rfl)) (.t .here) rfl (.head _) rfl rfl (by rw [hacc, cellsOf_len]; simp; omega)) ?_
      rintro _ _ ⟨acc10, hacc10, rfl, rfl⟩
      dsimp only [List.cons_append, List.nil_append]
      refine l_store1 Tryd.sizeOf57 (.plain rfl) rfl rfl (.t (.n 5 22 rfl)) (.t .here) (accV_one _) .here (.there (.there (.there (.there .here)))) ?_
      refine awpL_nil ?_
      refine ⟨rfl, acc10, (by show acc10.rows = _; rw [take_snoc hsd, chgs_app, hacc10, hacc, if_neg (by simpa using q27), cellsOf_append]; rfl), weak_both .nil (.cons _ (.cons _ (List.Sublist.refl _)))⟩
   ·
    rintro dd acc hacc
    rw [List.length_map] at hacc
    have hacc : acc.rows = cellsOf encChg (chgs (sidesF ((entriesR (Trie.mk la ra ka)).length + (entriesR (Trie.mk lb rb kb)).length + 1) (entriesR (Trie.mk la ra ka)) (entriesR (Trie.mk lb rb kb)) [])) := by have h1 := hacc; rw [show (sidesF _ (eL [(Trie.mk la ra ka), (Trie.mk lb rb kb)] 0) (eL [(Trie.mk la ra ka), (Trie.mk lb rb kb)] 1) (eL [(Trie.mk la ra ka), (Trie.mk lb rb kb)] 2)) = (sidesF ((entriesR (Trie.mk la ra ka)).length + (entriesR (Trie.mk lb rb kb)).length + 1) (entriesR (Trie.mk la ra ka)) (entriesR (Trie.mk lb rb kb)) []) from rfl, List.take_length] at h1; exact h1
    refine awp_seq ?_
    refine awp_region ?_
    refine lv (.plain rfl) rfl rfl (q_load1 (scT57) rfl (Ev.eq (.t .here)) (.there .here) .here) ?_
    refine lv (.plain rfl) rfl rfl (opv_assign rfl (Ev.eq (.t .here))) ?_
    refine awpL_nil ?_
    refine awp_ret ?_
    refine ret_und1 (.one (rv_t .here)) (Cast.frz0 (frz_acc (e := 60) (sz := 3) (xs := (chgs (sidesF ((entriesR (Trie.mk la ra ka)).length + (entriesR (Trie.mk lb rb kb)).length + 1) (entriesR (Trie.mk la ra ka)) (entriesR (Trie.mk lb rb kb)) [])).map encChg) (fun q hq => (List.mem_cons_of_mem _ hq)) (by rw [hacc]; rfl))) ?_
    rw [show chgP (Trie.mk la ra ka) (Trie.mk lb rb kb) = chgs (sidesF ((entriesR (Trie.mk la ra ka)).length + (entriesR (Trie.mk lb rb kb)).length + 1) (entriesR (Trie.mk la ra ka)) (entriesR (Trie.mk lb rb kb)) []) from if_pos (by rw [hra, hrb]; rfl)]
    exact ⟨rfl, rfl⟩
  ·
   have q12 := h12
   try simp only [zs, List.length_map] at q12
   refine pcond_t (.t .here) (congrArg not h12) ?_
   refine awp_seq ?_
   refine awp_region ?_
   refine lv (.plain rfl) rfl rfl (opv_assign rfl (Ev.eq .n)) ?_
   refine awpL_nil ?_
   refine awp_ret ?_
   refine ret_now (.one (rv_t .here)) (Cast.frz0 .nil) ?_
   rw [show chgP (Trie.mk la ra ka) (Trie.mk lb rb kb) = [] from if_neg (by clear hca hcb hla hlb; cases h1 : rightB (Trie.mk la ra ka) <;> cases h2 : rightB (Trie.mk lb rb kb) <;> simp_all)]
   exact ⟨rfl, rfl⟩
end Go.Proofs.YtjnkbmodcddbkaaDoor
