/- Copies, pieces of nodes. -/
import Derived.Test.YtjnkbmodcddbkaaDoorTy
import Derived.Test.YtjnkbmodcddbkaaDoorS6
set_option linter.unusedVariables false
set_option linter.unusedSimpArgs false
namespace Go.Proofs.YtjnkbmodcddbkaaDoor
open Go Go.RowKit
theorem f31_spec (n : Int) : FSpec Tryd.prog 31 [.d (.i .i64 n)] (.d (dRows [⟨0, 9, ⟨1, n, ⟨#[]⟩⟩⟩])) := by
  refine acalls_of Tryd.func31 rfl Tryd.ntmps31 Tryd.results31 (by simp) ?_
  refine awp_seq ?_
  refine awp_region ?_
  refine lv (.plain rfl) rfl rfl (opv_assign rfl (Ev.eq .n)) ?_
  refine awpL_nil ?_
  refine awp_seq ?_
  refine awp_region ?_
  refine lv (.plain rfl) rfl rfl (opv_move rfl (Ev.eq (.t (.n 0 1 rfl)))) ?_
  refine lv (.plain rfl) rfl rfl (p_build (bldT47) rfl (.cons .i (.cons (.t .here) .nil)) (by simp [AV.cs, AV.one]) (cs := [_, _, _]) rfl) ?_
  refine lv (.plain rfl) rfl rfl (p_build (bldT49) rfl (.cons .i (.cons (.t .here) .nil)) (by simp [AV.cs, AV.one]) (cs := [_, _, _, _, _]) rfl) ?_
  refine l_xd (.plain rfl) rfl rfl (x_buildSlice (cs := [_, _, _, _, _]) (rows := [[_, _, _, _, _]]) slT22 slZ22_1 rfl rfl rfl (.cons (.t .here) .nil) rfl rfl rfl rfl rfl) ?_
  rintro _ _ ⟨g1, ng1, rfl, rfl⟩
  refine lv (.plain rfl) rfl rfl (opv_assign rfl (Ev.eq (.t .here))) ?_
  refine awpL_nil ?_
  refine awp_ret ?_
  refine ret_now (.one (rv_t .here)) (Cast.frz0 (.own (xs := [⟨0, 9, ⟨1, n, ⟨#[]⟩⟩⟩].map encRow) (.head _) rfl rfl)) ?_
  exact ⟨rfl, rfl⟩
theorem f55_spec (l : List Row) (hl : l.length ≤ 1000000000) : FSpec Tryd.prog 55 [.d (.sl (l.map encRow))] (.d (.sl (l.map encRow))) := by
  refine acalls_of Tryd.func55 rfl Tryd.ntmps55 Tryd.results55 (by simp) ?_
  refine awp_seq ?_
  refine awp_region ?_
  refine lv (.plain rfl) rfl rfl (opv_assign rfl (Ev.eq .n)) ?_
  refine awpL_nil ?_
  refine awp_seq ?_
  refine awp_seq ?_
  refine awp_region ?_
  refine lv (.plain rfl) rfl rfl (opv_move rfl (Ev.eq (.t (.n 0 1 rfl)))) ?_
  refine l_xd (.plain rfl) rfl rfl (x_eqnil Tryd.underlying22 rfl (.t .here) .n) ?_
  rintro _ _ ⟨b1, rfl, rfl, hb1⟩
  refine awpL_nil ?_
  refine psplit .here (fun h4 => ?_) (fun h4 => ?_)
  ·
   have q4 := h4
   try simp only [zs, List.length_map] at q4
   refine pcond_t (.t .here) h4 ?_
   refine awp_seq ?_
   refine awp_region ?_
   refine lv (.plain rfl) rfl rfl (opv_assign rfl (Ev.eq .n)) ?_
   refine awpL_nil ?_
   refine awp_ret ?_
   obtain rfl : l = [] := by simpa using hb1 h4
   refine ret_now (.one (rv_t .here)) (Cast.frz0 .nil) ?_
   exact ⟨rfl, rfl⟩
  ·
   have q4 := h4
   try simp only [zs, List.length_map] at q4
   refine pcond_f (.t .here) h4 ?_
   refine awp_skip ?_
   refine awp_seq ?_
   refine awp_region ?_
   refine l_xd (.plain rfl) rfl rfl (x_buildSlice0 slT22 rfl) ?_
   rintro _ _ ⟨g2, ng2, rfl, rfl⟩
   refine lv (.plain rfl) rfl rfl (opv_move rfl (Ev.eq (.t (.n 0 4 rfl)))) ?_
   refine l_xd (.plain rfl) rfl rfl (x_append_d (acc := (Acc.at g2 0 [])) (hf := []) apT22 rfl (.t (.n 5 1 rfl)) (.t .here) rfl (by intro r hr; obtain ⟨e, _, rfl⟩ := List.mem_map.1 hr; rfl) (by simp [Acc.rows]; omega)) ?_
   rintro _ _ ⟨acc3, hacc3, rfl, rfl⟩
   dsimp only [List.cons_append, List.nil_append]
   refine lv (.plain rfl) rfl rfl (opv_assign rfl (Ev.eq (.t .here))) ?_
   refine awpL_nil ?_
   refine awp_ret ?_
   have hfin : acc3.rows = (l.map encRow).map (·.map AV.d) := by rw [hacc3]; rfl
   refine ret_now (.one (rv_t .here)) (Cast.frz0 (frz_acc (e := 49) (sz := 5) (fun q hq => hq) hfin)) ?_
   exact ⟨rfl, rfl⟩
theorem f66_spec (l : List Ent) (hl : l.length ≤ 1000000000) : FSpec Tryd.prog 66 [.d (.sl (l.map encEnt))] (.d (.sl (l.map encEnt))) := by
  refine acalls_of Tryd.func66 rfl Tryd.ntmps66 Tryd.results66 (by simp) ?_
  refine awp_seq ?_
  refine awp_region ?_
  refine lv (.plain rfl) rfl rfl (opv_assign rfl (Ev.eq .n)) ?_
  refine awpL_nil ?_
  refine awp_seq ?_
  refine awp_seq ?_
  refine awp_region ?_
  refine lv (.plain rfl) rfl rfl (opv_move rfl (Ev.eq (.t (.n 0 1 rfl)))) ?_
  refine l_xd (.plain rfl) rfl rfl (x_eqnil Tryd.underlying38 rfl (.t .here) .n) ?_
  rintro _ _ ⟨b1, rfl, rfl, hb1⟩
  refine awpL_nil ?_
  refine psplit .here (fun h4 => ?_) (fun h4 => ?_)
  ·
   have q4 := h4
   try simp only [zs, List.length_map] at q4
   refine pcond_t (.t .here) h4 ?_
   refine awp_seq ?_
   refine awp_region ?_
   refine lv (.plain rfl) rfl rfl (opv_assign rfl (Ev.eq .n)) ?_
   refine awpL_nil ?_
   refine awp_ret ?_
   obtain rfl : l = [] := by simpa using hb1 h4
   refine ret_now (.one (rv_t .here)) (Cast.frz0 .nil) ?_
   exact ⟨rfl, rfl⟩
  ·
   have q4 := h4
   try simp only [zs, List.length_map] at q4
   refine pcond_f (.t .here) h4 ?_
   refine awp_skip ?_
   refine awp_seq ?_
   refine awp_region ?_
   refine l_xd (.plain rfl) rfl rfl (x_buildSlice0 slT38 rfl) ?_
   rintro _ _ ⟨g2, ng2, rfl, rfl⟩
   refine lv (.plain rfl) rfl rfl (opv_move rfl (Ev.eq (.t (.n 0 4 rfl)))) ?_
   refine l_xd (.plain rfl) rfl rfl (x_append_d (acc := (Acc.at g2 0 [])) (hf := []) apT38 rfl (.t (.n 5 1 rfl)) (.t .here) rfl (by intro r hr; obtain ⟨e, _, rfl⟩ := List.mem_map.1 hr; rfl) (by simp [Acc.rows]; omega)) ?_
   rintro _ _ ⟨acc3, hacc3, rfl, rfl⟩
   dsimp only [List.cons_append, List.nil_append]
   refine lv (.plain rfl) rfl rfl (opv_assign rfl (Ev.eq (.t .here))) ?_
   refine awpL_nil ?_
   refine awp_ret ?_
   have hfin : acc3.rows = (l.map encEnt).map (·.map AV.d) := by rw [hacc3]; rfl
   refine ret_now (.one (rv_t .here)) (Cast.frz0 (frz_acc (e := 43) (sz := 2) (fun q hq => hq) hfin)) ?_
   exact ⟨rfl, rfl⟩
theorem f104_own (l : List Trie) (hl : l.length ≤ 1000000000) : ACalls Tryd.prog 104 [.d (.sl (encTries l))] [] (fun r h' => ∃ acc, acc.rows = cellsOf encTrie l ∧ r = accV acc ∧ h' = accH 25 3 acc) := by
  refine acalls_of Tryd.func104 rfl Tryd.ntmps104 Tryd.results104 (by simp) ?_
  refine awp_seq ?_
  refine awp_region ?_
  refine lv (.plain rfl) rfl rfl (opv_assign rfl (Ev.eq .n)) ?_
  refine awpL_nil ?_
  refine awp_seq ?_
  refine awp_seq ?_
  refine awp_region ?_
  refine lv (.plain rfl) rfl rfl (opv_move rfl (Ev.eq (.t (.n 0 1 rfl)))) ?_
  refine l_xd (.plain rfl) rfl rfl (x_eqnil Tryd.underlying23 rfl (.t .here) .n) ?_
  rintro _ _ ⟨b1, rfl, rfl, hb1⟩
  refine awpL_nil ?_
  refine psplit .here (fun h4 => ?_) (fun h4 => ?_)
  ·
   have q4 := h4
   try simp only [zs, List.length_map] at q4
   refine pcond_t (.t .here) h4 ?_
   refine awp_seq ?_
   refine awp_region ?_
   refine lv (.plain rfl) rfl rfl (opv_assign rfl (Ev.eq .n)) ?_
   refine awpL_nil ?_
   refine awp_ret ?_
   refine ret_now (.one (rv_t .here)) (Cast.refl _ _) ?_
   exact ⟨.none, by rw [show l = [] by simpa [encTries_eq] using hb1 h4]; rfl, rfl, rfl⟩
  ·
   have q4 := h4
   try simp only [zs, List.length_map] at q4
   refine pcond_f (.t .here) h4 ?_
   refine awp_skip ?_
   refine awp_seq ?_
   refine awp_region ?_
   refine l_xd (.plain rfl) rfl rfl (x_buildSlice0 slT23 rfl) ?_
   rintro _ _ ⟨g2, ng2, rfl, rfl⟩
   refine lv (.plain rfl) rfl rfl (opv_move rfl (Ev.eq (.t (.n 0 4 rfl)))) ?_
   refine l_xd (.plain rfl) rfl rfl (x_append_d (acc := (Acc.at g2 0 [])) (hf := []) apT23 rfl (.t (.n 5 1 rfl)) (.t .here) rfl (by intro r hr; rw [encTries_eq] at hr; obtain ⟨e, _, rfl⟩ := List.mem_map.1 hr; exact encTrie_len e) (by simp [Acc.rows]; omega)) ?_
   rintro _ _ ⟨acc3, hacc3, rfl, rfl⟩
   dsimp only [List.cons_append, List.nil_append]
   refine lv (.plain rfl) rfl rfl (opv_assign rfl (Ev.eq (.t .here))) ?_
   refine awpL_nil ?_
   refine awp_ret ?_
   refine ret_now (.one (rv_t .here)) (Cast.refl _ _) ?_
   exact ⟨acc3, by rw [hacc3, encTries_eq]; rfl, rfl, rfl⟩
theorem f87_own (l : ByteArray) (r : List Row) (ks : List Trie) (hl : ks.length ≤ 1000000000) : ACalls Tryd.prog 87 [.agg [.d (.s l), .d (dRows r), .d (.sl (encTries ks))]] [] (fun q h' => ∃ acc, acc.rows = cellsOf encTrie ks ∧ q = .agg [.d (.s l), .d (dRows r), accV acc] ∧ h' = accH 25 3 acc) := by
  refine acalls_of Tryd.func87 rfl Tryd.ntmps87 Tryd.results87 (by simp) ?_
  refine awp_seq ?_
  refine awp_region ?_
  refine l_box (.plain rfl) rfl rfl rfl (.t .here) rfl rfl (fun g1 ng1 => ?_)
  refine l_alloc zT25 (.plain rfl) rfl rfl rfl (fun g2 ng2 => ?_)
  refine awpL_nil ?_
  refine awp_seq ?_
  refine awp_region ?_
  refine lv (.plain rfl) rfl rfl (p_field (fldT25_2) rfl (Ev.eq (.t (.n 1 1 rfl))) (off' := 2) rfl) ?_
  refine lv (.plain rfl) rfl rfl (q_load1 (scT23) rfl (Ev.eq (.t .here)) (.there .here) (.there (.there .here))) ?_
  refine l_xd (.plain rfl) rfl rfl (x_calla (hf := [_, _]) rfl .f Tryd.call104 (.cons (.t .here) .nil) rfl rfl (f104_own _ hl)) ?_
  rintro _ _ ⟨_, ⟨acc3, hacc3, rfl, rfl⟩, rfl⟩
  dsimp only [List.cons_append, List.nil_append]
  refine lv (.plain rfl) rfl rfl (p_field (fldT25_2) rfl (Ev.eq (.t (.n 1 4 rfl))) (off' := 2) rfl) ?_
  refine l_store1 Tryd.sizeOf23 (.plain rfl) rfl rfl (.t .here) (.t (.n 5 1 rfl)) (accV_one _) (.there (.there .here)) (.there .here) ?_
  refine awpL_nil ?_
  refine awp_seq ?_
  refine awp_region ?_
  refine lv (.plain rfl) rfl rfl (q_loadn (agT25) rfl (Ev.eq (.t (.n 1 5 rfl))) (.there .here) rfl) ?_
  refine l_storen Tryd.sizeOf25 (.plain rfl) rfl rfl (.t (.n 2 5 rfl)) (.t .here) (by simp only [List.all_cons, List.all_nil, accV_one, Bool.and_true]; rfl) rfl rfl .here ?_
  refine awpL_nil ?_
  refine awp_ret ?_
  refine ret_now (.one (rv_c (agT25) (.n 2 5 rfl) .here rfl)) (Cast.drop _ (.cons _ (.cons _ (List.Sublist.refl _)))) ?_
  exact ⟨acc3, hacc3, rfl, rfl⟩
theorem f90_spec (l : ByteArray) (r : List Row) (ks : List Trie) (n : Nat) (hn : n ≤ l.size) : FSpec Tryd.prog 90 [aTrie (.mk l r ks), .d (.i .i64 (n : Int))] (aTrie (splitT (.mk l r ks) n)) := by
  simp only [aTrie, splitT, Trie.label, Trie.rows, Trie.kids]
  refine acalls_of Tryd.func90 rfl Tryd.ntmps90 Tryd.results90 (by simp) ?_
  refine awp_seq ?_
  refine awp_region ?_
  refine l_box (.plain rfl) rfl rfl rfl (.t .here) rfl rfl (fun g1 ng1 => ?_)
  refine l_alloc zT25 (.plain rfl) rfl rfl rfl (fun g2 ng2 => ?_)
  refine awpL_nil ?_
  refine awp_seq ?_
  refine awp_region ?_
  refine lv (.plain rfl) rfl rfl (p_field (fldT25_0) rfl (Ev.eq (.t (.n 2 1 rfl))) (off' := 0) rfl) ?_
  refine lv (.plain rfl) rfl rfl (q_load1 (scT9) rfl (Ev.eq (.t .here)) (.there .here) .here) ?_
  refine lv (.plain rfl) rfl rfl (opv_move rfl (Ev.eq (.t (.n 1 5 rfl)))) ?_
  refine lv (.plain rfl) rfl rfl (opv_slice_s Tryd.underlying9 rfl (Ev.eq (.t (.n 7 1 rfl))) rfl ⟨_, (Ev.eq (.t .here))⟩ (by omega) (by omega) (by omega) rfl) ?_
  refine lv (.plain rfl) rfl rfl (p_build (bldT25) rfl (.cons (.t .here) .nil) (by simp [AV.cs, AV.one]) (cs := [_, _, _]) rfl) ?_
  refine l_alloc zT25 (.plain rfl) rfl rfl rfl (fun g3 ng3 => ?_)
  refine l_storen Tryd.sizeOf25 (.plain rfl) rfl rfl (.t .here) (.t (.n 10 1 rfl)) rfl rfl rfl .here ?_
  refine awpL_nil ?_
  refine awp_seq ?_
  refine awp_region ?_
  refine lv (.plain rfl) rfl rfl (p_field (fldT25_0) rfl (Ev.eq (.t (.n 2 7 rfl))) (off' := 0) rfl) ?_
  refine lv (.plain rfl) rfl rfl (q_load1 (scT9) rfl (Ev.eq (.t .here)) (.there (.there .here)) .here) ?_
  refine lv (.plain rfl) rfl rfl (opv_move rfl (Ev.eq (.t (.n 1 11 rfl)))) ?_
  refine lv (.plain rfl) rfl rfl (opv_slice_s Tryd.underlying9 rfl (Ev.eq (.t (.n 12 1 rfl))) ⟨_, (Ev.eq (.t .here))⟩ rfl (by omega) (by omega) (by omega) rfl) ?_
  refine lv (.plain rfl) rfl rfl (p_field (fldT25_0) rfl (Ev.eq (.t (.n 2 11 rfl))) (off' := 0) rfl) ?_
  refine l_store1 Tryd.sizeOf9 (.plain rfl) rfl rfl (.t .here) (.t (.n 14 1 rfl)) rfl .here (.there (.there .here)) ?_
  refine awpL_nil ?_
  refine awp_seq ?_
  refine awp_region ?_
  refine lv (.plain rfl) rfl rfl (q_loadn (agT25) rfl (Ev.eq (.t (.n 2 12 rfl))) (.there (.there .here)) rfl) ?_
  refine l_xd (.plain rfl) rfl rfl (x_buildSlice (cs := [_, _, _]) (rows := [[_, _, _]]) slT23 slZ23_1 rfl rfl rfl (.cons (.t .here) .nil) rfl rfl rfl rfl rfl) ?_
  rintro _ _ ⟨g4, ng4, rfl, rfl⟩
  refine lv (.plain rfl) rfl rfl (p_field (fldT25_2) rfl (Ev.eq (.t (.n 5 7 rfl))) (off' := 2) rfl) ?_
  refine l_store1 Tryd.sizeOf23 (.plain rfl) rfl rfl (.t .here) (.t (.n 17 1 rfl)) rfl (.there (.there .here)) (.there .here) ?_
  refine awpL_nil ?_
  refine awp_seq ?_
  refine awp_region ?_
  refine lv (.plain rfl) rfl rfl (q_loadn (agT25) rfl (Ev.eq (.t (.n 5 8 rfl))) (.there .here) rfl) ?_
  refine l_storen Tryd.sizeOf25 (.plain rfl) rfl rfl (.t (.n 4 15 rfl)) (.t .here) rfl rfl rfl (.there (.there .here)) ?_
  refine awpL_nil ?_
  refine awp_ret ?_
  refine ret_now (.one (rv_c (agT25) (.n 4 15 rfl) (.there (.there .here)) rfl)) (Cast.frz0 (.agg (.cons .refl (.cons .nil (.cons (.own (xs := encTries [.mk (l.extract n l.size) r ks]) (.head _) rfl rfl) .nil))))) ?_
  exact ⟨rfl, rfl⟩
theorem f91_spec (l : ByteArray) (r : List Row) (ks : List Trie) (hk : ∀ k, k ∈ ks → k.kids.length ≤ 1000000000 ∧ l.size + k.label.size ≤ 1000000000) : FSpec Tryd.prog 91 [aTrie (.mk l r ks)] (.tup [aTrie (joinedT (.mk l r ks)).1, .d (.b (joinedT (.mk l r ks)).2)]) := by
  simp only [aTrie, Trie.label, Trie.rows, Trie.kids]
  refine acalls_of Tryd.func91 rfl Tryd.ntmps91 Tryd.results91 (by simp) ?_
  refine awp_seq ?_
  refine awp_region ?_
  refine l_box (.plain rfl) rfl rfl rfl (.t .here) rfl rfl (fun g1 ng1 => ?_)
  refine l_alloc zT25 (.plain rfl) rfl rfl rfl (fun g2 ng2 => ?_)
  refine lv (.plain rfl) rfl rfl (opv_assign rfl (Ev.eq .b)) ?_
  refine awpL_nil ?_
  refine awp_seq ?_
  refine awp_block ?_
  refine awp_seq ?_
  refine awp_region ?_
  refine lv (.plain rfl) rfl rfl (p_field (fldT25_1) rfl (Ev.eq (.t (.n 1 2 rfl))) (off' := 1) rfl) ?_
  refine lv (.plain rfl) rfl rfl (q_load1 (scT22) rfl (Ev.eq (.t .here)) (.there .here) (.there .here)) ?_
  refine lv (.plain rfl) rfl rfl (opv_len_sl Tryd.underlying22 rfl (Ev.eq (.t .here)) rfl) ?_
  refine lv (.plain rfl) rfl rfl (opv_gtr rfl (Ev.eq (.t .here)) (Ev.eq .i) rfl) ?_
  refine lv (.plain rfl) rfl rfl (opv_move rfl (Ev.eq (.t .here))) ?_
  refine lsplit (.n 9 1 rfl) (fun h9 => ?_) (fun h9 => ?_)
  ·
   have q9 := h9
   try simp only [zs, List.length_map, encTries_len, Int.natCast_pos, List.length_pos_iff] at q9
   refine lo (.off rfl rfl .here h9) rfl rfl ?_
   refine lo (.off rfl rfl (.n 10 1 rfl) h9) rfl rfl ?_
   refine lo (.off rfl rfl (.n 10 2 rfl) h9) rfl rfl ?_
   refine lo (.off rfl rfl (.n 10 3 rfl) h9) rfl rfl ?_
   refine lv (.plain rfl) rfl rfl (opv_pick_t rfl (Ev.eq (.t (.n 10 4 rfl))) h9 (Ev.eq .b)) ?_
   refine lv (.plain rfl) rfl rfl (opv_assign rfl (Ev.eq (.t .here))) ?_
   refine awpL_nil ?_
   refine pcond_t (.t .here) rfl ?_
   refine awp_seq ?_
   refine awp_region ?_
   refine lv (.plain rfl) rfl rfl (q_loadn (agT25) rfl (Ev.eq (.t (.n 1 13 rfl))) (.there .here) rfl) ?_
   refine l_storen Tryd.sizeOf25 (.plain rfl) rfl rfl (.t (.n 2 13 rfl)) (.t .here) rfl rfl rfl .here ?_
   refine lv (.plain rfl) rfl rfl (opv_assign rfl (Ev.eq .b)) ?_
   refine awpL_nil ?_
   refine awp_ret ?_
   refine ret_now (.two (rv_c (agT25) (.n 2 14 rfl) .here rfl) (rv_t .here)) (Cast.frz0 .refl) ?_
   refine ⟨?_, rfl⟩
   simp only [joinedT]
   rw [if_pos (.inl q9)]
   rfl
  ·
   have q9 := h9
   try simp only [zs, List.length_map, encTries_len, Int.natCast_pos, List.length_pos_iff] at q9
   refine lv (.on rfl rfl .here h9) rfl rfl (p_field (fldT25_2) rfl (Ev.eq (.t (.n 1 7 rfl))) (off' := 2) rfl) ?_
   refine lv (.on rfl rfl (.n 10 1 rfl) h9) rfl rfl (q_load1 (scT23) rfl (Ev.eq (.t .here)) (.there .here) (.there (.there .here))) ?_
   refine lv (.on rfl rfl (.n 10 2 rfl) h9) rfl rfl (opv_len_sl Tryd.underlying23 rfl (Ev.eq (.t .here)) rfl) ?_
   refine lv (.on rfl rfl (.n 10 3 rfl) h9) rfl rfl (opv_gtr rfl (Ev.eq (.t .here)) (Ev.eq .i) rfl) ?_
   refine lv (.plain rfl) rfl rfl (opv_pick_f rfl (Ev.eq (.t (.n 10 4 rfl))) h9 (Ev.eq (.t .here))) ?_
   refine lv (.plain rfl) rfl rfl (opv_assign rfl (Ev.eq (.t .here))) ?_
   refine awpL_nil ?_
   refine psplit (.n 14 2 rfl) (fun h14 => ?_) (fun h14 => ?_)
   ·
    have q14 := h14
    try simp only [zs, List.length_map, encTries_len, Int.natCast_pos, List.length_pos_iff] at q14
    refine pcond_t (.t .here) h14 ?_
    refine awp_seq ?_
    refine awp_region ?_
    refine lv (.plain rfl) rfl rfl (q_loadn (agT25) rfl (Ev.eq (.t (.n 1 13 rfl))) (.there .here) rfl) ?_
    refine l_storen Tryd.sizeOf25 (.plain rfl) rfl rfl (.t (.n 2 13 rfl)) (.t .here) rfl rfl rfl .here ?_
    refine lv (.plain rfl) rfl rfl (opv_assign rfl (Ev.eq .b)) ?_
    refine awpL_nil ?_
    refine awp_ret ?_
    refine ret_now (.two (rv_c (agT25) (.n 2 14 rfl) .here rfl) (rv_t .here)) (Cast.frz0 .refl) ?_
    refine ⟨?_, rfl⟩
    simp only [joinedT]
    rw [if_pos (.inr (by omega))]
    rfl
   ·
    have q14 := h14
    try simp only [zs, List.length_map, encTries_len, Int.natCast_pos, List.length_pos_iff] at q14
    refine pcond_f (.t .here) h14 ?_
    refine awp_seq ?_
    refine awp_region ?_
    refine lv (.plain rfl) rfl rfl (p_field (fldT25_2) rfl (Ev.eq (.t (.n 1 13 rfl))) (off' := 2) rfl) ?_
    refine lv (.plain rfl) rfl rfl (q_load1 (scT23) rfl (Ev.eq (.t .here)) (.there .here) (.there (.there .here))) ?_
    refine lv (.plain rfl) rfl rfl (opv_len_sl Tryd.underlying23 rfl (Ev.eq (.t .here)) rfl) ?_
    refine lv (.plain rfl) rfl rfl (opv_eql_i rfl (Ev.eq (.t .here)) (Ev.eq .i) rfl) ?_
    refine lv (.plain rfl) rfl rfl (opv_assign rfl (Ev.eq (.t .here))) ?_
    refine awpL_nil ?_
    refine psplit (.n 21 1 rfl) (fun h21 => ?_) (fun h21 => ?_)
    ·
     have q21 := h21
     try simp only [zs, List.length_map, encTries_len, Int.natCast_pos, List.length_pos_iff] at q21
     refine pcond_t (.t .here) h21 ?_
     refine awp_seq ?_
     refine awp_region ?_
     refine lv (.plain rfl) rfl rfl (p_build (bldT25) rfl .nil (by simp [AV.cs, AV.one]) (cs := [_, _, _]) rfl) ?_
     refine l_storen Tryd.sizeOf25 (.plain rfl) rfl rfl (.t (.n 2 18 rfl)) (.t .here) rfl rfl rfl .here ?_
     refine lv (.plain rfl) rfl rfl (opv_assign rfl (Ev.eq .b)) ?_
     refine awpL_nil ?_
     refine awp_ret ?_
     refine ret_now (.two (rv_c (agT25) (.n 2 19 rfl) .here rfl) (rv_t .here)) (Cast.frz0 (.tup (.cons (.agg (.cons .refl (.cons .nil (.cons .nil .nil)))) (.cons .refl .nil)))) ?_
     refine ⟨?_, rfl⟩
     simp only [joinedT]
     obtain rfl : ks = [] := List.eq_nil_of_length_eq_zero (by omega)
     rw [if_neg (by simp_all)]
     rfl
    ·
     have q21 := h21
     try simp only [zs, List.length_map, encTries_len, Int.natCast_pos, List.length_pos_iff] at q21
     refine pcond_f (.t .here) h21 ?_
     refine awp_skip ?_
     refine awp_seq ?_
     refine awp_region ?_
     refine lv (.plain rfl) rfl rfl (p_field (fldT25_2) rfl (Ev.eq (.t (.n 1 18 rfl))) (off' := 2) rfl) ?_
     refine lv (.plain rfl) rfl rfl (q_load1 (scT23) rfl (Ev.eq (.t .here)) (.there .here) (.there (.there .here))) ?_
     obtain ⟨kd, hk0⟩ := some_at (l := ks) (i := 0) (by omega)
     obtain ⟨kl, kr, kk⟩ := kd
     have hkb := hk _ (List.mem_of_getElem? hk0)
     simp only [Trie.kids, Trie.label] at hkb
     have hk0' : (encTries ks)[((0 : Int)).toNat]? = some (encTrie (.mk kl kr kk)) := encTries_at hk0
     refine lv (.plain rfl) rfl rfl (p_index (slT23) rfl (Ev.eq (.t .here)) (Ev.eq .i) (by omega) (by first | assumption | exact map_at (by assumption) | exact encTries_at (by assumption)) rfl) ?_
     refine lv (.plain rfl) rfl rfl (p_loadnf (agT25) rfl (Ev.eq (.t .here)) (Nat.le_of_ble_eq_true rfl) rfl) ?_
     refine l_xd (.plain rfl) rfl rfl (x_calla (hf := [_, _]) rfl .f Tryd.call87 (.cons (.t .here) .nil) rfl rfl (f87_own kl kr kk (by simp_all))) ?_
     rintro _ _ ⟨_, ⟨acc6, hacc6, rfl, rfl⟩, rfl⟩
     dsimp only [List.cons_append, List.nil_append]
     refine l_alloc zT25 (.plain rfl) rfl rfl rfl (fun g7 ng7 => ?_)
     refine l_storen Tryd.sizeOf25 (.plain rfl) rfl rfl (.t .here) (.t (.n 27 1 rfl)) (by simp only [List.all_cons, List.all_nil, accV_one, Bool.and_true]; rfl) rfl rfl .here ?_
     refine awpL_nil ?_
     refine awp_seq ?_
     refine awp_region ?_
     refine lv (.plain rfl) rfl rfl (p_field (fldT25_0) rfl (Ev.eq (.t (.n 1 24 rfl))) (off' := 0) rfl) ?_
     refine lv (.plain rfl) rfl rfl (q_load1 (scT9) rfl (Ev.eq (.t .here)) (.there (.there .here)) .here) ?_
     refine lv (.plain rfl) rfl rfl (p_field (fldT25_0) rfl (Ev.eq (.t (.n 4 2 rfl))) (off' := 0) rfl) ?_
     refine lv (.plain rfl) rfl rfl (q_load1 (scT9) rfl (Ev.eq (.t .here)) .here .here) ?_
     refine lv (.plain rfl) rfl rfl (opv_add_s rfl (Ev.eq (.t (.n 29 2 rfl))) (Ev.eq (.t .here)) (by omega) rfl) ?_
     refine lv (.plain rfl) rfl rfl (p_field (fldT25_0) rfl (Ev.eq (.t (.n 4 5 rfl))) (off' := 0) rfl) ?_
     refine l_store1 Tryd.sizeOf9 (.plain rfl) rfl rfl (.t .here) (.t (.n 32 1 rfl)) rfl .here .here ?_
     refine awpL_nil ?_
     refine awp_seq ?_
     refine awp_region ?_
     refine lv (.plain rfl) rfl rfl (q_loadn (agT25) rfl (Ev.eq (.t (.n 4 6 rfl))) .here rfl) ?_
     refine l_storen Tryd.sizeOf25 (.plain rfl) rfl rfl (.t (.n 2 30 rfl)) (.t .here) (by simp only [List.all_cons, List.all_nil, accV_one, Bool.and_true]; rfl) rfl rfl (.there .here) ?_
     refine lv (.plain rfl) rfl rfl (opv_assign rfl (Ev.eq .b)) ?_
     refine awpL_nil ?_
     refine awp_ret ?_
     refine ret_now (.two (rv_c (agT25) (.n 2 31 rfl) (.there .here) rfl) (rv_t .here)) (Cast.frz0 (.tup (.cons (.agg (.cons .refl (.cons .refl (.cons (frz_acc (e := 25) (sz := 3) (xs := encTries kk) (fun q hq => (List.mem_cons_of_mem _ (List.mem_cons_of_mem _ (List.mem_cons_of_mem _ hq)))) (by rw [hacc6, encTries_eq]; rfl)) .nil)))) (.cons .refl .nil)))) ?_
     refine ⟨?_, rfl⟩
     simp only [joinedT]
     obtain ⟨k0, rfl⟩ : ∃ k0, ks = [k0] := by rcases ks with _ | ⟨k0, _ | ⟨k1, ks⟩⟩; (exfalso; simp at q21); exact ⟨k0, rfl⟩; (exfalso; simp at q14; omega)
     obtain rfl : k0 = .mk kl kr kk := by simpa using hk0
     rw [if_neg (by simp_all)]
     rfl
theorem f89_spec (a b : ByteArray) (ha : a.size ≤ 1000000000) : FSpec Tryd.prog 89 [.d (.s a), .d (.s b)] (.d (.i .i64 (shR a b : Nat))) := by
  refine acalls_of Tryd.func89 rfl Tryd.ntmps89 Tryd.results89 (by simp) ?_
  refine awp_seq ?_
  refine awp_region ?_
  refine lv (.plain rfl) rfl rfl (opv_assign rfl (Ev.eq .i)) ?_
  refine awpL_nil ?_
  refine awp_seq ?_
  refine awp_region ?_
  refine lv (.plain rfl) rfl rfl (opv_assign rfl (Ev.eq .i)) ?_
  refine awpL_nil ?_
  refine awp_seq ?_
  refine awp_block ?_
  refine ploop (fun (n : Nat) => ⟨28, [(0, .d (.s a)), (1, .d (.s b)), (5, .d (.i .i64 (n : Int)))], [], []⟩) (fun n => n ≤ a.size ∧ n ≤ b.size ∧ shF a b (a.size - n) n = shR a b) (fun n => a.size - n) (0) (weak_both (.ce (.n 0 2 rfl) (by first | rfl | (simp; done) | (simp; omega)) (.ce (.n 1 3 rfl) (by first | rfl | (simp; done) | (simp; omega)) (.ce .here (by first | rfl | (simp; done) | (simp; omega)) .nil))) (List.Sublist.refl _)) (⟨by omega, by omega, rfl⟩) ?_
  rintro n ⟨hn, hn2, hEQ⟩
  refine awp_seq ?_
  refine awp_seq ?_
  refine g_draw mixed kb_nil (by kernel_rfl) (fuel := 19) rfl rfl ?_
  refine g_v (listed' := bs 19 1) 0 rfl (by kernel_rfl) rfl (fun _ => .plain rfl) rfl (fun _ hK => opv_move rfl (Ev.eq (.t (.n 5 2 rfl)))) kb_nil ?_
  refine g_v (listed' := bs 19 3) 1 rfl (by kernel_rfl) rfl (fun _ => .plain rfl) rfl (fun _ hK => opv_move rfl (Ev.eq (.t (.n 0 1 rfl)))) kb_nil ?_
  refine g_v (listed' := bs 19 7) 2 rfl (by kernel_rfl) rfl (fun _ => .plain rfl) rfl (fun _ hK => opv_len_s Tryd.underlying9 rfl (Ev.eq (.t .here)) rfl) kb_nil ?_
  refine g_v (listed' := bs 19 15) 3 rfl (by kernel_rfl) rfl (fun _ => .plain rfl) rfl (fun _ hK => opv_lss rfl (Ev.eq (.t (.n 6 2 rfl))) (Ev.eq (.t .here)) rfl) kb_nil ?_
  refine g_v (listed' := bs 19 31) 4 rfl (by kernel_rfl) rfl (fun _ => .plain rfl) rfl (fun _ hK => opv_move rfl (Ev.eq (.t .here))) kb_nil ?_
  refine gsplit (.n 9 1 rfl) (fun h9 => ?_) (fun h9 => ?_)
  ·
   have q9 := h9
   try simp only [zs, List.length_map] at q9
   refine g_v (listed' := bs 19 63) 5 rfl (by kernel_rfl) rfl (fun _ => .on rfl rfl .here h9) rfl (fun _ hK => opv_move rfl (Ev.eq (.t (.n 5 7 rfl)))) kb_nil ?_
   refine g_v (listed' := bs 19 127) 6 rfl (by kernel_rfl) rfl (fun _ => .on rfl rfl (.n 10 1 rfl) h9) rfl (fun _ hK => opv_move rfl (Ev.eq (.t (.n 1 7 rfl)))) kb_nil ?_
   refine g_v (listed' := bs 19 255) 7 rfl (by kernel_rfl) rfl (fun _ => .on rfl rfl (.n 10 2 rfl) h9) rfl (fun _ hK => opv_len_s Tryd.underlying9 rfl (Ev.eq (.t .here)) rfl) kb_nil ?_
   refine g_v (listed' := bs 19 511) 8 rfl (by kernel_rfl) rfl (fun _ => .on rfl rfl (.n 10 3 rfl) h9) rfl (fun _ hK => opv_lss rfl (Ev.eq (.t (.n 11 2 rfl))) (Ev.eq (.t .here)) rfl) kb_nil ?_
   refine g_v (listed' := bs 19 1023) 9 rfl (by kernel_rfl) rfl (fun _ => .plain rfl) rfl (fun _ hK => opv_pick_t rfl (Ev.eq (.t (.n 10 4 rfl))) h9 (Ev.eq (.t .here))) kb_nil ?_
   refine g_v (listed' := bs 19 2047) 10 rfl (by kernel_rfl) rfl (fun _ => .plain rfl) rfl (fun _ hK => opv_move rfl (Ev.eq (.t .here))) kb_nil ?_
   refine gsplit (.n 14 2 rfl) (fun h14 => ?_) (fun h14 => ?_)
   ·
    have q14 := h14
    try simp only [zs, List.length_map] at q14
    refine g_v (listed' := bs 19 4095) 11 rfl (by kernel_rfl) rfl (fun _ => .on rfl rfl .here h14) rfl (fun _ hK => opv_move rfl (Ev.eq (.t (.n 0 11 rfl)))) kb_nil ?_
    refine g_v (listed' := bs 19 8191) 12 rfl (by kernel_rfl) rfl (fun _ => .on rfl rfl (.n 16 1 rfl) h14) rfl (fun _ hK => opv_move rfl (Ev.eq (.t (.n 5 14 rfl)))) kb_nil ?_
    refine g_v (listed' := bs 19 16383) 13 rfl (by kernel_rfl) rfl (fun _ => .on rfl rfl (.n 16 2 rfl) h14) rfl (fun _ hK => opv_index_s Tryd.underlying9 rfl (Ev.eq (.t (.n 17 1 rfl))) (Ev.eq (.t .here)) (by omega) (by omega) rfl) kb_nil ?_
    refine g_v (listed' := bs 19 32767) 14 rfl (by kernel_rfl) rfl (fun _ => .on rfl rfl (.n 16 3 rfl) h14) rfl (fun _ hK => opv_move rfl (Ev.eq (.t (.n 1 15 rfl)))) kb_nil ?_
    refine g_v (listed' := bs 19 65535) 15 rfl (by kernel_rfl) rfl (fun _ => .on rfl rfl (.n 16 4 rfl) h14) rfl (fun _ hK => opv_move rfl (Ev.eq (.t (.n 5 17 rfl)))) kb_nil ?_
    refine g_v (listed' := bs 19 131071) 16 rfl (by kernel_rfl) rfl (fun _ => .on rfl rfl (.n 16 5 rfl) h14) rfl (fun _ hK => opv_index_s Tryd.underlying9 rfl (Ev.eq (.t (.n 20 1 rfl))) (Ev.eq (.t .here)) (by omega) (by omega) rfl) kb_nil ?_
    refine g_v (listed' := bs 19 262143) 17 rfl (by kernel_rfl) rfl (fun _ => .on rfl rfl (.n 16 6 rfl) h14) rfl (fun _ hK => opv_eql_i rfl (Ev.eq (.t (.n 19 3 rfl))) (Ev.eq (.t .here)) rfl) kb_nil ?_
    refine g_v (listed' := bs 19 524287) 18 rfl (by kernel_rfl) rfl (fun _ => .plain rfl) rfl (fun _ hK => opv_pick_t rfl (Ev.eq (.t (.n 16 7 rfl))) h14 (Ev.eq (.t .here))) kb_nil ?_
    refine g_end (by kernel_rfl) ?_
    refine psplit (.n 23 1 rfl) (fun h23 => ?_) (fun h23 => ?_)
    ·
     have q23 := h23
     try simp only [zs, List.length_map] at q23
     refine pcond_t (.t .here) h23 ?_
     refine awp_skip ?_
     refine awp_block ?_
     refine awp_region ?_
     refine lv (.plain rfl) rfl rfl (opv_move rfl (Ev.eq (.t (.n 5 21 rfl)))) ?_
     refine lv (.plain rfl) rfl rfl (opv_add rfl (Ev.eq (.t .here)) (Ev.eq .i) (wr64 (by omega) (by omega)) rfl) ?_
     refine lv (.plain rfl) rfl rfl (opv_assign rfl (Ev.eq (.t .here))) ?_
     refine awpL_nil ?_
     refine ⟨n + 1, by omega, ⟨by omega, by omega, by rw [show a.size - n = (a.size - (n + 1)) + 1 by omega, shF, if_pos ⟨by omega, by omega, by assumption⟩] at hEQ; exact hEQ⟩, weak_both (.ce (.n 0 22 rfl) (by first | rfl | (simp; done) | (simp; omega)) (.ce (.n 1 23 rfl) (by first | rfl | (simp; done) | (simp; omega)) (.ce .here (by first | rfl | (simp; done) | (simp; omega)) .nil))) (List.Sublist.refl _)⟩
    ·
     have q23 := h23
     try simp only [zs, List.length_map] at q23
     refine pcond_f (.t .here) h23 ?_
     refine awp_exit ?_
     refine awp_seq ?_
     refine awp_region ?_
     refine lv (.plain rfl) rfl rfl (opv_move rfl (Ev.eq (.t (.n 5 21 rfl)))) ?_
     refine lv (.plain rfl) rfl rfl (opv_assign rfl (Ev.eq (.t .here))) ?_
     refine awpL_nil ?_
     refine awp_ret ?_
     refine ret_now (.one (rv_t .here)) (Cast.all _ _) ?_
     have e : shR a b = n := by rw [← hEQ]; rcases Nat.eq_zero_or_pos (a.size - n) with h0 | h0; (rw [h0, shF]); rw [show a.size - n = (a.size - n - 1) + 1 by omega, shF, if_neg (by omega)]
     rw [e]
     exact ⟨rfl, rfl⟩
   ·
    have q14 := h14
    try simp only [zs, List.length_map] at q14
    refine g_o (listed' := bs 19 4095) 11 rfl (by kernel_rfl) rfl (fun _ => .off rfl rfl .here h14) rfl kb_nil ?_
    refine g_o (listed' := bs 19 8191) 12 rfl (by kernel_rfl) rfl (fun _ => .off rfl rfl (.n 16 1 rfl) h14) rfl kb_nil ?_
    refine g_o (listed' := bs 19 16383) 13 rfl (by kernel_rfl) rfl (fun _ => .off rfl rfl (.n 16 2 rfl) h14) rfl kb_nil ?_
    refine g_o (listed' := bs 19 32767) 14 rfl (by kernel_rfl) rfl (fun _ => .off rfl rfl (.n 16 3 rfl) h14) rfl kb_nil ?_
    refine g_o (listed' := bs 19 65535) 15 rfl (by kernel_rfl) rfl (fun _ => .off rfl rfl (.n 16 4 rfl) h14) rfl kb_nil ?_
    refine g_o (listed' := bs 19 131071) 16 rfl (by kernel_rfl) rfl (fun _ => .off rfl rfl (.n 16 5 rfl) h14) rfl kb_nil ?_
    refine g_o (listed' := bs 19 262143) 17 rfl (by kernel_rfl) rfl (fun _ => .off rfl rfl (.n 16 6 rfl) h14) rfl kb_nil ?_
    refine g_v (listed' := bs 19 524287) 18 rfl (by kernel_rfl) rfl (fun _ => .plain rfl) rfl (fun _ hK => opv_pick_f rfl (Ev.eq (.t (.n 16 7 rfl))) h14 (Ev.eq .b)) kb_nil ?_
    refine g_end (by kernel_rfl) ?_
    refine pcond_f (.t .here) rfl ?_
    refine awp_exit ?_
    refine awp_seq ?_
    refine awp_region ?_
    refine lv (.plain rfl) rfl rfl (opv_move rfl (Ev.eq (.t (.n 5 21 rfl)))) ?_
    refine lv (.plain rfl) rfl rfl (opv_assign rfl (Ev.eq (.t .here))) ?_
    refine awpL_nil ?_
    refine awp_ret ?_
    refine ret_now (.one (rv_t .here)) (Cast.all _ _) ?_
    have e : shR a b = n := by rw [← hEQ]; rcases Nat.eq_zero_or_pos (a.size - n) with h0 | h0; (rw [h0, shF]); rw [show a.size - n = (a.size - n - 1) + 1 by omega, shF, if_neg (by omega)]
    rw [e]
    exact ⟨rfl, rfl⟩
  ·
   have q9 := h9
   try simp only [zs, List.length_map] at q9
   refine g_o (listed' := bs 19 63) 5 rfl (by kernel_rfl) rfl (fun _ => .off rfl rfl .here h9) rfl kb_nil ?_
   refine g_o (listed' := bs 19 127) 6 rfl (by kernel_rfl) rfl (fun _ => .off rfl rfl (.n 10 1 rfl) h9) rfl kb_nil ?_
   refine g_o (listed' := bs 19 255) 7 rfl (by kernel_rfl) rfl (fun _ => .off rfl rfl (.n 10 2 rfl) h9) rfl kb_nil ?_
   refine g_o (listed' := bs 19 511) 8 rfl (by kernel_rfl) rfl (fun _ => .off rfl rfl (.n 10 3 rfl) h9) rfl kb_nil ?_
   refine g_v (listed' := bs 19 1023) 9 rfl (by kernel_rfl) rfl (fun _ => .plain rfl) rfl (fun _ hK => opv_pick_f rfl (Ev.eq (.t (.n 10 4 rfl))) h9 (Ev.eq .b)) kb_nil ?_
   refine g_v (listed' := bs 19 2047) 10 rfl (by kernel_rfl) rfl (fun _ => .plain rfl) rfl (fun _ hK => opv_move rfl (Ev.eq (.t .here))) kb_nil ?_
   refine g_o (listed' := bs 19 4095) 11 rfl (by kernel_rfl) rfl (fun _ => .off rfl rfl .here rfl) rfl kb_nil ?_
   refine g_o (listed' := bs 19 8191) 12 rfl (by kernel_rfl) rfl (fun _ => .off rfl rfl (.n 16 1 rfl) rfl) rfl kb_nil ?_
   refine g_o (listed' := bs 19 16383) 13 rfl (by kernel_rfl) rfl (fun _ => .off rfl rfl (.n 16 2 rfl) rfl) rfl kb_nil ?_
   refine g_o (listed' := bs 19 32767) 14 rfl (by kernel_rfl) rfl (fun _ => .off rfl rfl (.n 16 3 rfl) rfl) rfl kb_nil ?_
   refine g_o (listed' := bs 19 65535) 15 rfl (by kernel_rfl) rfl (fun _ => .off rfl rfl (.n 16 4 rfl) rfl) rfl kb_nil ?_
   refine g_o (listed' := bs 19 131071) 16 rfl (by kernel_rfl) rfl (fun _ => .off rfl rfl (.n 16 5 rfl) rfl) rfl kb_nil ?_
   refine g_o (listed' := bs 19 262143) 17 rfl (by kernel_rfl) rfl (fun _ => .off rfl rfl (.n 16 6 rfl) rfl) rfl kb_nil ?_
   refine g_v (listed' := bs 19 524287) 18 rfl (by kernel_rfl) rfl (fun _ => .plain rfl) rfl (fun _ hK => opv_pick_f rfl (Ev.eq (.t (.n 16 7 rfl))) rfl (Ev.eq .b)) kb_nil ?_
   refine g_end (by kernel_rfl) ?_
   refine pcond_f (.t .here) rfl ?_
   refine awp_exit ?_
   refine awp_seq ?_
   refine awp_region ?_
   refine lv (.plain rfl) rfl rfl (opv_move rfl (Ev.eq (.t (.n 5 21 rfl)))) ?_
   refine lv (.plain rfl) rfl rfl (opv_assign rfl (Ev.eq (.t .here))) ?_
   refine awpL_nil ?_
   refine awp_ret ?_
   refine ret_now (.one (rv_t .here)) (Cast.all _ _) ?_
   have e : shR a b = n := by rw [← hEQ]; rcases Nat.eq_zero_or_pos (a.size - n) with h0 | h0; (rw [h0, shF]); rw [show a.size - n = (a.size - n - 1) + 1 by omega, shF, if_neg (by omega)]
   rw [e]
   exact ⟨rfl, rfl⟩
end Go.Proofs.YtjnkbmodcddbkaaDoor
