/- The reference's entries. -/
import Derived.Test.YtjnkbmodcddbkaaDoorTy
import Derived.Test.YtjnkbmodcddbkaaDoorS4
set_option linter.unusedVariables false
set_option linter.unusedSimpArgs false
namespace Go.Proofs.YtjnkbmodcddbkaaDoor
open Go Go.RowKit
theorem f75_spec : ∀ (t : Trie) (p : ByteArray), t.cnt ≤ 1000000000 → p.size + t.reach ≤ 1000000000 → FSpec Tryd.prog 75 [aTrie t, .d (.s p)] (.d (dEnts (t.ents p))) := by
  intro t
  induction t using Trie.ind with
  | h l r ks ih =>
  intro p hc hp
  simp only [aTrie, Trie.label, Trie.rows, Trie.kids]
  refine acalls_of Tryd.func75 rfl Tryd.ntmps75 Tryd.results75 (by simp) ?_
  have hlc := len_cnt ks
  simp only [Trie.cnt] at hc
  simp only [Trie.reach] at hp
  refine awp_seq ?_
  refine awp_region ?_
  refine l_box (.plain rfl) rfl rfl rfl (.t .here) rfl rfl (fun g1 ng1 => ?_)
  refine lv (.plain rfl) rfl rfl (opv_assign rfl (Ev.eq .n)) ?_
  refine awpL_nil ?_
  refine awp_seq ?_
  refine awp_region ?_
  refine lv (.plain rfl) rfl rfl (opv_move rfl (Ev.eq (.t (.n 1 3 rfl)))) ?_
  refine lv (.plain rfl) rfl rfl (p_field (fldT25_0) rfl (Ev.eq (.t (.n 2 2 rfl))) (off' := 0) rfl) ?_
  refine lv (.plain rfl) rfl rfl (q_load1 (scT9) rfl (Ev.eq (.t .here)) .here .here) ?_
  refine lv (.plain rfl) rfl rfl (opv_add_s rfl (Ev.eq (.t (.n 8 2 rfl))) (Ev.eq (.t .here)) (by omega) rfl) ?_
  refine lv (.plain rfl) rfl rfl (opv_assign rfl (Ev.eq (.t .here))) ?_
  refine awpL_nil ?_
  refine awp_seq ?_
  refine awp_region ?_
  refine lv (.plain rfl) rfl rfl (opv_assign rfl (Ev.eq .n)) ?_
  refine awpL_nil ?_
  refine awp_seq ?_
  refine awp_seq ?_
  refine awp_region ?_
  refine lv (.plain rfl) rfl rfl (p_field (fldT25_1) rfl (Ev.eq (.t (.n 2 7 rfl))) (off' := 1) rfl) ?_
  refine lv (.plain rfl) rfl rfl (q_load1 (scT22) rfl (Ev.eq (.t .here)) .here (.there .here)) ?_
  refine lv (.plain rfl) rfl rfl (opv_len_sl Tryd.underlying22 rfl (Ev.eq (.t .here)) rfl) ?_
  refine lv (.plain rfl) rfl rfl (opv_gtr rfl (Ev.eq (.t .here)) (Ev.eq .i) rfl) ?_
  refine awpL_nil ?_
  refine psplit .here (fun h15 => ?_) (fun h15 => ?_)
  ·
   have q15 := h15
   try simp only [zs, List.length_map, encTries_len, Int.natCast_pos, List.length_pos_iff] at q15
   refine pcond_t (.t .here) h15 ?_
   refine awp_region ?_
   refine lv (.plain rfl) rfl rfl (opv_move rfl (Ev.eq (.t (.n 6 4 rfl)))) ?_
   refine lv (.plain rfl) rfl rfl (opv_move rfl (Ev.eq (.t (.n 5 6 rfl)))) ?_
   refine lv (.plain rfl) rfl rfl (p_field (fldT25_1) rfl (Ev.eq (.t (.n 2 13 rfl))) (off' := 1) rfl) ?_
   refine lv (.plain rfl) rfl rfl (q_load1 (scT22) rfl (Ev.eq (.t .here)) .here (.there .here)) ?_
   refine lv (.plain rfl) rfl rfl (p_build (bldT43) rfl (.cons (.t (.n 17 2 rfl)) (.cons (.t .here) .nil)) (by simp [AV.cs, AV.one]) (cs := [_, _]) rfl) ?_
   refine l_xd (.plain rfl) rfl rfl (x_buildSlice (cs := [_, _]) (rows := [[_, _]]) slT38 slZ38_1 rfl rfl rfl (.cons (.t .here) .nil) rfl rfl rfl rfl rfl) ?_
   rintro _ _ ⟨g4, ng4, rfl, rfl⟩
   refine l_xd (.plain rfl) rfl rfl (x_append (acc := Acc.none) (rows := [_]) (hf := [_, _]) apT38 rfl (.t (.n 16 5 rfl)) (.t .here) rfl (.head _) rfl rfl (by simp [Acc.rows])) ?_
   rintro _ _ ⟨acc5, hacc5, rfl, rfl⟩
   dsimp only [List.cons_append, List.nil_append]
   refine lv (.plain rfl) rfl rfl (opv_assign rfl (Ev.eq (.t .here))) ?_
   refine awpL_nil ?_
   refine awp_seq ?_
   refine awp_seq ?_
   refine awp_region ?_
   refine lv (.plain rfl) rfl rfl (opv_assign rfl (Ev.eq .i)) ?_
   refine awpL_nil ?_
   refine awp_block ?_
   refine ploop (fun (a : Nat × Acc) => ⟨40, [(2, .ptr g1 0), (5, .d (.s (p ++ l))), (6, accV a.2), (7, .d (.i .i64 (a.1 : Int)))], (g1, .var 25 [.d (.s l), .d (dRows r), .d (.sl (encTries ks))]) :: accH 43 2 a.2, []⟩) (fun a => a.1 ≤ ks.length ∧ a.2.rows = cellsOf encEnt ((if r = [] then [] else [⟨p ++ l, r⟩]) ++ entsL (ks.take a.1) (p ++ l))) (fun a => ks.length - a.1) ((0, acc5)) (weak_both (.ce (.n 2 20 rfl) (by first | rfl | (simp; done) | (simp; omega)) (.ce (.n 5 14 rfl) (by first | rfl | (simp; done) | (simp; omega)) (.ce (.n 6 1 rfl) (by first | rfl | (simp; done) | (simp; omega)) (.ce .here (by first | rfl | (simp; done) | (simp; omega)) .nil)))) (.cons _ (List.Sublist.refl _))) (⟨by dsimp only; omega, by dsimp only; rw [hacc5, if_neg (by simpa using q15)]; rfl⟩) ?_
   rintro ⟨i, acc⟩ ⟨hi, hacc⟩
   dsimp only at hi hacc
   refine awp_seq ?_
   refine awp_seq ?_
   refine awp_region ?_
   refine lv (.plain rfl) rfl rfl (opv_move rfl (Ev.eq (.t (.n 7 3 rfl)))) ?_
   refine lv (.plain rfl) rfl rfl (p_field (fldT25_2) rfl (Ev.eq (.t (.n 2 1 rfl))) (off' := 2) rfl) ?_
   refine lv (.plain rfl) rfl rfl (q_load1 (scT23) rfl (Ev.eq (.t .here)) .here (.there (.there .here))) ?_
   refine lv (.plain rfl) rfl rfl (opv_len_sl Tryd.underlying23 rfl (Ev.eq (.t .here)) rfl) ?_
   refine lv (.plain rfl) rfl rfl (opv_lss rfl (Ev.eq (.t (.n 23 3 rfl))) (Ev.eq (.t .here)) rfl) ?_
   refine awpL_nil ?_
   refine psplit .here (fun h27 => ?_) (fun h27 => ?_)
   ·
    have q27 := h27
    try simp only [zs, List.length_map, encTries_len, Int.natCast_pos, List.length_pos_iff] at q27
    refine pcond_t (.t .here) h27 ?_
    refine awp_skip ?_
    refine awp_seq ?_
    refine awp_block ?_
    refine awp_region ?_
    refine lv (.plain rfl) rfl rfl (opv_move rfl (Ev.eq (.t (.n 6 7 rfl)))) ?_
    refine lv (.plain rfl) rfl rfl (p_field (fldT25_2) rfl (Ev.eq (.t (.n 2 6 rfl))) (off' := 2) rfl) ?_
    refine lv (.plain rfl) rfl rfl (q_load1 (scT23) rfl (Ev.eq (.t .here)) .here (.there (.there .here))) ?_
    refine lv (.plain rfl) rfl rfl (opv_move rfl (Ev.eq (.t (.n 7 11 rfl)))) ?_
    obtain ⟨kd, hk⟩ := some_at (l := ks) (i := i) (by omega)
    obtain ⟨kl, kr, kk⟩ := kd
    have hc1 := cnt_mem (List.mem_of_getElem? hk)
    have hr1 := reach_mem (List.mem_of_getElem? hk)
    refine lv (.plain rfl) rfl rfl (p_index (slT23) rfl (Ev.eq (.t (.n 32 1 rfl))) (Ev.eq (.t .here)) (by omega) (by first | assumption | exact map_at (by assumption) | exact encTries_at (by assumption)) rfl) ?_
    refine lv (.plain rfl) rfl rfl (p_loadnf (agT25) rfl (Ev.eq (.t .here)) (Nat.le_of_ble_eq_true rfl) rfl) ?_
    refine lv (.plain rfl) rfl rfl (opv_move rfl (Ev.eq (.t (.n 5 12 rfl)))) ?_
    refine lv (.plain rfl) rfl rfl (q_call rfl .f Tryd.call75 (.cons (.t (.n 35 1 rfl)) (.cons (.t .here) .nil)) rfl (ih (.mk kl kr kk) (List.mem_of_getElem? hk) (p ++ l) (by omega) (by rw [ByteArray.size_append]; omega))) ?_
    refine l_xd (.plain rfl) rfl rfl (x_append_d (acc := acc) (hf := [_]) apT38 rfl (.t (.n 30 7 rfl)) (.t .here) rfl (by intro q hq; obtain ⟨e, _, rfl⟩ := List.mem_map.1 hq; rfl) (by rw [hacc]; simp only [cellsOf_len, List.length_map, List.length_append]; have h1 := entsL_len (ks.take i) (p ++ l); have h2 := cntL_take ks i; have h3 := ents_len (.mk kl kr kk) (p ++ l); have h4 := cnt_mem (List.mem_of_getElem? hk); split <;> simp <;> omega)) ?_
    rintro _ _ ⟨acc7, hacc7, rfl, rfl⟩
    dsimp only [List.cons_append, List.nil_append]
    refine lv (.plain rfl) rfl rfl (opv_assign rfl (Ev.eq (.t .here))) ?_
    refine awpL_nil ?_
    refine awp_region ?_
    refine lv (.plain rfl) rfl rfl (opv_move rfl (Ev.eq (.t (.n 7 18 rfl)))) ?_
    refine lv (.plain rfl) rfl rfl (opv_add rfl (Ev.eq (.t .here)) (Ev.eq .i) (wr64 (by omega) (by omega)) rfl) ?_
    refine lv (.plain rfl) rfl rfl (opv_assign rfl (Ev.eq (.t .here))) ?_
    refine awpL_nil ?_
    refine ⟨(i + 1, acc7), by dsimp only; omega, ⟨by dsimp only; omega, by dsimp only; rw [hacc7, hacc, entsL_take hk, ← List.append_assoc, cellsOf_append _ (Trie.ents _ _)]; rfl⟩, weak_both (.ce (.n 2 18 rfl) (by first | rfl | (simp; done) | (simp; omega)) (.ce (.n 5 19 rfl) (by first | rfl | (simp; done) | (simp; omega)) (.ce (.n 6 3 rfl) (by first | rfl | (simp; done) | (simp; omega)) (.ce .here (by first | rfl | (simp; done) | (simp; omega)) .nil)))) (List.Sublist.refl _)⟩
   ·
    have q27 := h27
    try simp only [zs, List.length_map, encTries_len, Int.natCast_pos, List.length_pos_iff] at q27
    refine pcond_f (.t .here) h27 ?_
    refine awp_exit ?_
    refine awp_seq ?_
    refine awp_region ?_
    refine lv (.plain rfl) rfl rfl (opv_move rfl (Ev.eq (.t (.n 6 7 rfl)))) ?_
    refine lv (.plain rfl) rfl rfl (opv_assign rfl (Ev.eq (.t .here))) ?_
    refine awpL_nil ?_
    refine awp_ret ?_
    obtain rfl : i = ks.length := by omega
    rw [List.take_length] at hacc
    have hfin : acc.rows = ((Trie.ents (.mk l r ks) p).map encEnt).map (·.map AV.d) := by rw [Trie.ents]; exact hacc
    refine ret_now (.one (rv_t .here)) (Cast.frz0 (frz_acc (e := 43) (sz := 2) (fun q hq => List.mem_cons_of_mem _ hq) hfin)) ?_
    exact ⟨rfl, rfl⟩
  ·
   have q15 := h15
   try simp only [zs, List.length_map, encTries_len, Int.natCast_pos, List.length_pos_iff] at q15
   refine pcond_f (.t .here) h15 ?_
   refine awp_skip ?_
   refine awp_seq ?_
   refine awp_seq ?_
   refine awp_region ?_
   refine lv (.plain rfl) rfl rfl (opv_assign rfl (Ev.eq .i)) ?_
   refine awpL_nil ?_
   refine awp_block ?_
   refine ploop (fun (a : Nat × Acc) => ⟨40, [(2, .ptr g1 0), (5, .d (.s (p ++ l))), (6, accV a.2), (7, .d (.i .i64 (a.1 : Int)))], (g1, .var 25 [.d (.s l), .d (dRows r), .d (.sl (encTries ks))]) :: accH 43 2 a.2, []⟩) (fun a => a.1 ≤ ks.length ∧ a.2.rows = cellsOf encEnt ((if r = [] then [] else [⟨p ++ l, r⟩]) ++ entsL (ks.take a.1) (p ++ l))) (fun a => ks.length - a.1) ((0, Acc.none)) (weak_both (.ce (.n 2 12 rfl) (by first | rfl | (simp; done) | (simp; omega)) (.ce (.n 5 6 rfl) (by first | rfl | (simp; done) | (simp; omega)) (.ce (.n 6 5 rfl) (by first | rfl | (simp; done) | (simp; omega)) (.ce .here (by first | rfl | (simp; done) | (simp; omega)) .nil)))) (List.Sublist.refl _)) (⟨by dsimp only; omega, by dsimp only; rw [if_pos (by simpa using q15)]; rfl⟩) ?_
   rintro ⟨i, acc⟩ ⟨hi, hacc⟩
   dsimp only at hi hacc
   refine awp_seq ?_
   refine awp_seq ?_
   refine awp_region ?_
   refine lv (.plain rfl) rfl rfl (opv_move rfl (Ev.eq (.t (.n 7 3 rfl)))) ?_
   refine lv (.plain rfl) rfl rfl (p_field (fldT25_2) rfl (Ev.eq (.t (.n 2 1 rfl))) (off' := 2) rfl) ?_
   refine lv (.plain rfl) rfl rfl (q_load1 (scT23) rfl (Ev.eq (.t .here)) .here (.there (.there .here))) ?_
   refine lv (.plain rfl) rfl rfl (opv_len_sl Tryd.underlying23 rfl (Ev.eq (.t .here)) rfl) ?_
   refine lv (.plain rfl) rfl rfl (opv_lss rfl (Ev.eq (.t (.n 23 3 rfl))) (Ev.eq (.t .here)) rfl) ?_
   refine awpL_nil ?_
   refine psplit .here (fun h27 => ?_) (fun h27 => ?_)
   ·
    have q27 := h27
    try simp only [zs, List.length_map, encTries_len, Int.natCast_pos, List.length_pos_iff] at q27
    refine pcond_t (.t .here) h27 ?_
    refine awp_skip ?_
    refine awp_seq ?_
    refine awp_block ?_
    refine awp_region ?_
    refine lv (.plain rfl) rfl rfl (opv_move rfl (Ev.eq (.t (.n 6 7 rfl)))) ?_
    refine lv (.plain rfl) rfl rfl (p_field (fldT25_2) rfl (Ev.eq (.t (.n 2 6 rfl))) (off' := 2) rfl) ?_
    refine lv (.plain rfl) rfl rfl (q_load1 (scT23) rfl (Ev.eq (.t .here)) .here (.there (.there .here))) ?_
    refine lv (.plain rfl) rfl rfl (opv_move rfl (Ev.eq (.t (.n 7 11 rfl)))) ?_
    obtain ⟨kd, hk⟩ := some_at (l := ks) (i := i) (by omega)
    obtain ⟨kl, kr, kk⟩ := kd
    have hc1 := cnt_mem (List.mem_of_getElem? hk)
    have hr1 := reach_mem (List.mem_of_getElem? hk)
    refine lv (.plain rfl) rfl rfl (p_index (slT23) rfl (Ev.eq (.t (.n 32 1 rfl))) (Ev.eq (.t .here)) (by omega) (by first | assumption | exact map_at (by assumption) | exact encTries_at (by assumption)) rfl) ?_
    refine lv (.plain rfl) rfl rfl (p_loadnf (agT25) rfl (Ev.eq (.t .here)) (Nat.le_of_ble_eq_true rfl) rfl) ?_
    refine lv (.plain rfl) rfl rfl (opv_move rfl (Ev.eq (.t (.n 5 12 rfl)))) ?_
    refine lv (.plain rfl) rfl rfl (q_call rfl .f Tryd.call75 (.cons (.t (.n 35 1 rfl)) (.cons (.t .here) .nil)) rfl (ih (.mk kl kr kk) (List.mem_of_getElem? hk) (p ++ l) (by omega) (by rw [ByteArray.size_append]; omega))) ?_
    refine l_xd (.plain rfl) rfl rfl (x_append_d (acc := acc) (hf := [_]) apT38 rfl (.t (.n 30 7 rfl)) (.t .here) rfl (by intro q hq; obtain ⟨e, _, rfl⟩ := List.mem_map.1 hq; rfl) (by rw [hacc]; simp only [cellsOf_len, List.length_map, List.length_append]; have h1 := entsL_len (ks.take i) (p ++ l); have h2 := cntL_take ks i; have h3 := ents_len (.mk kl kr kk) (p ++ l); have h4 := cnt_mem (List.mem_of_getElem? hk); split <;> simp <;> omega)) ?_
    rintro _ _ ⟨acc10, hacc10, rfl, rfl⟩
    dsimp only [List.cons_append, List.nil_append]
    refine lv (.plain rfl) rfl rfl (opv_assign rfl (Ev.eq (.t .here))) ?_
    refine awpL_nil ?_
    refine awp_region ?_
    refine lv (.plain rfl) rfl rfl (opv_move rfl (Ev.eq (.t (.n 7 18 rfl)))) ?_
    refine lv (.plain rfl) rfl rfl (opv_add rfl (Ev.eq (.t .here)) (Ev.eq .i) (wr64 (by omega) (by omega)) rfl) ?_
    refine lv (.plain rfl) rfl rfl (opv_assign rfl (Ev.eq (.t .here))) ?_
    refine awpL_nil ?_
    refine ⟨(i + 1, acc10), by dsimp only; omega, ⟨by dsimp only; omega, by dsimp only; rw [hacc10, hacc, entsL_take hk, ← List.append_assoc, cellsOf_append _ (Trie.ents _ _)]; rfl⟩, weak_both (.ce (.n 2 18 rfl) (by first | rfl | (simp; done) | (simp; omega)) (.ce (.n 5 19 rfl) (by first | rfl | (simp; done) | (simp; omega)) (.ce (.n 6 3 rfl) (by first | rfl | (simp; done) | (simp; omega)) (.ce .here (by first | rfl | (simp; done) | (simp; omega)) .nil)))) (List.Sublist.refl _)⟩
   ·
    have q27 := h27
    try simp only [zs, List.length_map, encTries_len, Int.natCast_pos, List.length_pos_iff] at q27
    refine pcond_f (.t .here) h27 ?_
    refine awp_exit ?_
    refine awp_seq ?_
    refine awp_region ?_
    refine lv (.plain rfl) rfl rfl (opv_move rfl (Ev.eq (.t (.n 6 7 rfl)))) ?_
    refine lv (.plain rfl) rfl rfl (opv_assign rfl (Ev.eq (.t .here))) ?_
    refine awpL_nil ?_
    refine awp_ret ?_
    obtain rfl : i = ks.length := by omega
    rw [List.take_length] at hacc
    have hfin : acc.rows = ((Trie.ents (.mk l r ks) p).map encEnt).map (·.map AV.d) := by rw [Trie.ents]; exact hacc
    refine ret_now (.one (rv_t .here)) (Cast.frz0 (frz_acc (e := 43) (sz := 2) (fun q hq => List.mem_cons_of_mem _ hq) hfin)) ?_
    exact ⟨rfl, rfl⟩
theorem f37_spec (t : Trie) (hc : t.cnt ≤ 1000000000) : FSpec Tryd.prog 37 [aTrie t] (.d (dEnts (entriesR t))) := by
  obtain ⟨l, r, ks⟩ := t
  simp only [aTrie, Trie.label, Trie.rows, Trie.kids]
  refine acalls_of Tryd.func37 rfl Tryd.ntmps37 Tryd.results37 (by simp) ?_
  refine awp_seq ?_
  refine awp_region ?_
  refine l_box (.plain rfl) rfl rfl rfl (.t .here) rfl rfl (fun g1 ng1 => ?_)
  refine lv (.plain rfl) rfl rfl (opv_assign rfl (Ev.eq .n)) ?_
  refine awpL_nil ?_
  refine awp_seq ?_
  refine awp_seq ?_
  refine awp_region ?_
  refine lv (.plain rfl) rfl rfl (q_loadn (agT25) rfl (Ev.eq (.t (.n 1 1 rfl))) .here rfl) ?_
  refine lv (.plain rfl) rfl rfl (q_call rfl .f Tryd.call35 (.cons (.t .here) .nil) rfl (f35_spec (.mk l r ks))) ?_
  refine lv (.plain rfl) rfl rfl (opv_not rfl (Ev.eq (.t .here)) rfl) ?_
  refine awpL_nil ?_
  refine psplit (.n 4 1 rfl) (fun h4 => ?_) (fun h4 => ?_)
  ·
   have q4 := h4
   try simp only [zs, List.length_map] at q4
   refine pcond_f (.t .here) (congrArg not h4) ?_
   refine awp_skip ?_
   refine awp_seq ?_
   refine awp_region ?_
   refine lv (.plain rfl) rfl rfl (q_loadn (agT25) rfl (Ev.eq (.t (.n 1 4 rfl))) .here rfl) ?_
   refine lv (.plain rfl) rfl rfl (q_call rfl .f Tryd.call75 (.cons (.t .here) (.cons .s .nil)) rfl (f75_spec (.mk l r ks) ⟨#[]⟩ hc (by have := rightB_reach (t := .mk l r ks) (by simp_all); show 0 + _ ≤ _; omega))) ?_
   refine lv (.plain rfl) rfl rfl (opv_assign rfl (Ev.eq (.t .here))) ?_
   refine awpL_nil ?_
   refine awp_ret ?_
   have hE : entriesR (.mk l r ks) = if rightB (.mk l r ks) = true then Trie.ents (.mk l r ks) ⟨#[]⟩ else [] := rfl
   rw [show rightB (.mk l r ks) = true by simp_all] at hE
   refine ret_now (.one (rv_t .here)) (Cast.all _ _) ?_
   rw [hE]
   exact ⟨rfl, rfl⟩
  ·
   have q4 := h4
   try simp only [zs, List.length_map] at q4
   refine pcond_t (.t .here) (congrArg not h4) ?_
   refine awp_seq ?_
   refine awp_region ?_
   refine lv (.plain rfl) rfl rfl (opv_assign rfl (Ev.eq .n)) ?_
   refine awpL_nil ?_
   refine awp_ret ?_
   have hE : entriesR (.mk l r ks) = if rightB (.mk l r ks) = true then Trie.ents (.mk l r ks) ⟨#[]⟩ else [] := rfl
   rw [show rightB (.mk l r ks) = false by simp_all] at hE
   refine ret_now (.one (rv_t .here)) (Cast.frz0 .nil) ?_
   rw [hE]
   exact ⟨rfl, rfl⟩
theorem f38_spec (t : Trie) (p : ByteArray) (hc : t.cnt ≤ 1000000000) : FSpec Tryd.prog 38 [aTrie t, .d (.s p)] (.d (dRows (getL (entriesR t) p))) := by
  refine acalls_of Tryd.func38 rfl Tryd.ntmps38 Tryd.results38 (by simp) ?_
  have hlen : (entriesR t).length ≤ 1000000000 := by unfold entriesR; split; (have := ents_len t ⟨#[]⟩; omega); simp
  refine awp_seq ?_
  refine awp_region ?_
  refine l_box (.plain rfl) rfl rfl rfl (.t .here) rfl rfl (fun g1 ng1 => ?_)
  refine lv (.plain rfl) rfl rfl (opv_assign rfl (Ev.eq .n)) ?_
  refine awpL_nil ?_
  refine awp_seq ?_
  refine awp_region ?_
  refine lv (.plain rfl) rfl rfl (q_loadn (agT25) rfl (Ev.eq (.t (.n 2 1 rfl))) .here rfl) ?_
  refine lv (.plain rfl) rfl rfl (q_call rfl .f Tryd.call37 (.cons (.t .here) .nil) rfl (f37_spec t hc)) ?_
  refine lv (.plain rfl) rfl rfl (opv_assign rfl (Ev.eq (.t .here))) ?_
  refine awpL_nil ?_
  refine awp_seq ?_
  refine awp_seq ?_
  refine awp_region ?_
  refine lv (.plain rfl) rfl rfl (opv_assign rfl (Ev.eq .i)) ?_
  refine awpL_nil ?_
  refine awp_block ?_
  refine ploop (fun (i : Nat) => ⟨27, [(1, .d (.s p)), (5, .d (dEnts (entriesR t))), (6, .d (.i .i64 (i : Int)))], [], []⟩) (fun i => i ≤ (entriesR t).length ∧ getL ((entriesR t).drop i) p = getL (entriesR t) p) (fun i => (entriesR t).length - i) (0) (weak_both (.ce (.n 1 7 rfl) (by first | rfl | (simp; done) | (simp; omega)) (.ce (.n 5 1 rfl) (by first | rfl | (simp; done) | (simp; omega)) (.ce .here (by first | rfl | (simp; done) | (simp; omega)) .nil))) (.cons _ (List.Sublist.refl _))) (⟨by omega, rfl⟩) ?_
  rintro i ⟨hi, hEQ⟩
  refine awp_seq ?_
  refine awp_seq ?_
  refine awp_region ?_
  refine lv (.plain rfl) rfl rfl (opv_move rfl (Ev.eq (.t (.n 6 2 rfl)))) ?_
  refine lv (.plain rfl) rfl rfl (opv_move rfl (Ev.eq (.t (.n 5 2 rfl)))) ?_
  refine lv (.plain rfl) rfl rfl (opv_len_sl Tryd.underlying38 rfl (Ev.eq (.t .here)) rfl) ?_
  refine lv (.plain rfl) rfl rfl (opv_lss rfl (Ev.eq (.t (.n 9 2 rfl))) (Ev.eq (.t .here)) rfl) ?_
  refine awpL_nil ?_
  refine psplit .here (fun h12 => ?_) (fun h12 => ?_)
  ·
   have q12 := h12
   try simp only [zs, List.length_map] at q12
   refine pcond_t (.t .here) h12 ?_
   refine awp_skip ?_
   refine awp_seq ?_
   refine awp_block ?_
   refine awp_seq ?_
   refine awp_region ?_
   refine lv (.plain rfl) rfl rfl (opv_move rfl (Ev.eq (.t (.n 5 5 rfl)))) ?_
   refine lv (.plain rfl) rfl rfl (opv_move rfl (Ev.eq (.t (.n 6 7 rfl)))) ?_
   obtain ⟨en, hk⟩ := some_at (l := entriesR t) (i := i) (by omega)
   refine lv (.plain rfl) rfl rfl (p_index (slT38) rfl (Ev.eq (.t (.n 15 1 rfl))) (Ev.eq (.t .here)) (by omega) (by first | assumption | exact map_at (by assumption) | exact encTries_at (by assumption)) rfl) ?_
   refine lv (.plain rfl) rfl rfl (p_fieldf (fldT43_0) rfl (Ev.eq (.t .here)) rfl) ?_
   refine lv (.plain rfl) rfl rfl (p_load1f (scT9) rfl (Ev.eq (.t .here))) ?_
   refine lv (.plain rfl) rfl rfl (opv_move rfl (Ev.eq (.t (.n 1 9 rfl)))) ?_
   refine lv (.plain rfl) rfl rfl (opv_eql_s rfl (Ev.eq (.t (.n 19 1 rfl))) (Ev.eq (.t .here)) rfl) ?_
   refine awpL_nil ?_
   refine psplit .here (fun h21 => ?_) (fun h21 => ?_)
   ·
    have q21 := h21
    try simp only [zs, List.length_map] at q21
    refine pcond_t (.t .here) h21 ?_
    refine awp_seq ?_
    refine awp_region ?_
    refine lv (.plain rfl) rfl rfl (opv_move rfl (Ev.eq (.t (.n 5 12 rfl)))) ?_
    refine lv (.plain rfl) rfl rfl (opv_move rfl (Ev.eq (.t (.n 6 14 rfl)))) ?_
    refine lv (.plain rfl) rfl rfl (p_index (slT38) rfl (Ev.eq (.t (.n 22 1 rfl))) (Ev.eq (.t .here)) (by omega) (by first | assumption | exact map_at (by assumption) | exact encTries_at (by assumption)) rfl) ?_
    refine lv (.plain rfl) rfl rfl (p_fieldf (fldT43_1) rfl (Ev.eq (.t .here)) rfl) ?_
    refine lv (.plain rfl) rfl rfl (p_load1f (scT22) rfl (Ev.eq (.t .here))) ?_
    refine lv (.plain rfl) rfl rfl (opv_assign rfl (Ev.eq (.t .here))) ?_
    refine awpL_nil ?_
    refine awp_ret ?_
    refine ret_now (.one (rv_t .here)) (Cast.all _ _) ?_
    rw [drop_cons hk, getL, if_pos (by simp_all [bl_inj])] at hEQ
    rw [← hEQ]
    exact ⟨rfl, rfl⟩
   ·
    have q21 := h21
    try simp only [zs, List.length_map] at q21
    refine pcond_f (.t .here) h21 ?_
    refine awp_skip ?_
    refine awp_region ?_
    refine lv (.plain rfl) rfl rfl (opv_move rfl (Ev.eq (.t (.n 6 13 rfl)))) ?_
    refine lv (.plain rfl) rfl rfl (opv_add rfl (Ev.eq (.t .here)) (Ev.eq .i) (wr64 (by omega) (by omega)) rfl) ?_
    refine lv (.plain rfl) rfl rfl (opv_assign rfl (Ev.eq (.t .here))) ?_
    refine awpL_nil ?_
    refine ⟨i + 1, by omega, ⟨by omega, by rw [drop_cons hk, getL, if_neg (by simp_all [bl_inj])] at hEQ; exact hEQ⟩, weak_both (.ce (.n 1 14 rfl) (by first | rfl | (simp; done) | (simp; omega)) (.ce (.n 5 15 rfl) (by first | rfl | (simp; done) | (simp; omega)) (.ce .here (by first | rfl | (simp; done) | (simp; omega)) .nil))) (List.Sublist.refl _)⟩
  ·
   have q12 := h12
   try simp only [zs, List.length_map] at q12
   refine pcond_f (.t .here) h12 ?_
   refine awp_exit ?_
   refine awp_seq ?_
   refine awp_region ?_
   refine lv (.plain rfl) rfl rfl (opv_assign rfl (Ev.eq .n)) ?_
   refine awpL_nil ?_
   refine awp_ret ?_
   refine ret_now (.one (rv_t .here)) (Cast.frz0 .nil) ?_
   obtain rfl : i = (entriesR t).length := by omega
   rw [List.drop_length, getL] at hEQ
   rw [← hEQ]
   exact ⟨rfl, rfl⟩
theorem drop_end {α : Type} {l : List α} {k : Nat} (h : l.length ≤ k) : l.drop k = [] := List.drop_eq_nil_of_le h
theorem f36_spec (out : List ByteArray) (es : List Ent) (hb : out.length + es.length ≤ 1000000000) : FSpec Tryd.prog 36 [.d (dStrs out), .d (dEnts es)] (.d (dStrs (pathsF out es))) := by
  refine acalls_of Tryd.func36 rfl Tryd.ntmps36 Tryd.results36 (by simp) ?_
  refine awp_seq ?_
  refine awp_region ?_
  refine lv (.plain rfl) rfl rfl (opv_assign rfl (Ev.eq .n)) ?_
  refine awpL_nil ?_
  refine awp_seq ?_
  refine awp_seq ?_
  refine awp_region ?_
  refine lv (.plain rfl) rfl rfl (opv_assign rfl (Ev.eq .i)) ?_
  refine awpL_nil ?_
  refine awp_block ?_
  refine ploop (fun (a : Nat × List ByteArray) => ⟨72, [(0, .d (dStrs a.2)), (1, .d (dEnts es)), (5, .d (.i .i64 (a.1 : Int)))], [], []⟩) (fun a => a.1 ≤ es.length ∧ pathsF a.2 (es.drop a.1) = pathsF out es ∧ a.2.length ≤ out.length + a.1) (fun a => es.length - a.1) ((0, out)) (weak_both (.ce (.n 0 2 rfl) (by first | rfl | (simp; done) | (simp; omega)) (.ce (.n 1 3 rfl) (by first | rfl | (simp; done) | (simp; omega)) (.ce .here (by first | rfl | (simp; done) | (simp; omega)) .nil))) (List.Sublist.refl _)) (⟨by dsimp only; omega, rfl, by dsimp only; omega⟩) ?_
  rintro ⟨i, o⟩ ⟨hi, hEQ, hol⟩
  dsimp only at hi hEQ hol
  refine awp_seq ?_
  refine awp_seq ?_
  refine awp_region ?_
  refine lv (.plain rfl) rfl rfl (opv_move rfl (Ev.eq (.t (.n 5 2 rfl)))) ?_
  refine lv (.plain rfl) rfl rfl (opv_move rfl (Ev.eq (.t (.n 1 2 rfl)))) ?_
  refine lv (.plain rfl) rfl rfl (opv_len_sl Tryd.underlying38 rfl (Ev.eq (.t .here)) rfl) ?_
  refine lv (.plain rfl) rfl rfl (opv_lss rfl (Ev.eq (.t (.n 9 2 rfl))) (Ev.eq (.t .here)) rfl) ?_
  refine awpL_nil ?_
  refine psplit .here (fun h12 => ?_) (fun h12 => ?_)
  ·
   have q12 := h12
   try simp only [zs, List.length_map, bl_inj] at q12
   refine pcond_t (.t .here) h12 ?_
   refine awp_skip ?_
   refine awp_seq ?_
   refine awp_block ?_
   refine awp_seq ?_
   refine awp_region ?_
   refine lv (.plain rfl) rfl rfl (opv_assign rfl (Ev.eq .n)) ?_
   refine awpL_nil ?_
   refine awp_seq ?_
   refine awp_region ?_
   refine lv (.plain rfl) rfl rfl (opv_assign rfl (Ev.eq .b)) ?_
   refine awpL_nil ?_
   refine awp_seq ?_
   refine awp_seq ?_
   refine awp_region ?_
   refine lv (.plain rfl) rfl rfl (opv_assign rfl (Ev.eq .i)) ?_
   refine awpL_nil ?_
   refine awp_block ?_
   obtain ⟨en, hk⟩ := some_at (l := es) (i := i) (by omega)
   refine ploop (fun (a : Nat × Bool × List ByteArray × Acc) => ⟨72, [(0, .d (dStrs o)), (1, .d (dEnts es)), (5, .d (.i .i64 (i : Int))), (6, accV a.2.2.2), (7, .d (.b a.2.1)), (8, .d (.i .i64 (a.1 : Int)))], accH 9 1 a.2.2.2, []⟩) (fun a => a.1 ≤ o.length ∧ a.2.2.1 ++ insGo en.path (o.drop a.1) a.2.1 = insGo en.path o false ∧ a.2.2.2.rows = cellsOf encS a.2.2.1) (fun a => o.length - a.1) ((0, false, [], Acc.none)) (weak_both (.ce (.n 0 7 rfl) (by first | rfl | (simp; done) | (simp; omega)) (.ce (.n 1 8 rfl) (by first | rfl | (simp; done) | (simp; omega)) (.ce (.n 5 9 rfl) (by first | rfl | (simp; done) | (simp; omega)) (.ce (.n 6 2 rfl) (by first | rfl | (simp; done) | (simp; omega)) (.ce (.n 7 1 rfl) (by first | rfl | (simp; done) | (simp; omega)) (.ce .here (by first | rfl | (simp; done) | (simp; omega)) .nil)))))) (List.Sublist.refl _)) (⟨by dsimp only; omega, rfl, rfl⟩) ?_
   rintro ⟨k, put, pre, acc⟩ ⟨hk2, hI, hacc⟩
   dsimp only at hk2 hI hacc
   have hpl : pre.length ≤ o.length + 1 := by have h1 := congrArg List.length hI; have h2 := (insGo_len en.path o false).1; simp at h1 h2; omega
   refine awp_seq ?_
   refine awp_seq ?_
   refine awp_region ?_
   refine lv (.plain rfl) rfl rfl (opv_move rfl (Ev.eq (.t (.n 8 5 rfl)))) ?_
   refine lv (.plain rfl) rfl rfl (opv_move rfl (Ev.eq (.t (.n 0 1 rfl)))) ?_
   refine lv (.plain rfl) rfl rfl (opv_len_sl Tryd.underlying28 rfl (Ev.eq (.t .here)) rfl) ?_
   refine lv (.plain rfl) rfl rfl (opv_lss rfl (Ev.eq (.t (.n 15 2 rfl))) (Ev.eq (.t .here)) rfl) ?_
   refine awpL_nil ?_
   refine psplit .here (fun h18 => ?_) (fun h18 => ?_)
   ·
    have q18 := h18
    try simp only [zs, List.length_map, bl_inj] at q18
    refine pcond_t (.t .here) h18 ?_
    refine awp_skip ?_
    refine awp_seq ?_
    refine awp_block ?_
    refine awp_seq ?_
    refine awp_seq ?_
    refine g_draw mixed kb_nil (by kernel_rfl) (fuel := 14) rfl rfl ?_
    refine g_v (listed' := bs 14 1) 0 rfl (by kernel_rfl) rfl (fun _ => .plain rfl) rfl (fun _ hK => opv_move rfl (Ev.eq (.t (.n 7 8 rfl)))) kb_nil ?_
    refine g_v (listed' := bs 14 3) 1 rfl (by kernel_rfl) rfl (fun _ => .plain rfl) rfl (fun _ hK => opv_not rfl (Ev.eq (.t .here)) rfl) kb_nil ?_
    refine g_v (listed' := bs 14 7) 2 rfl (by kernel_rfl) rfl (fun _ => .plain rfl) rfl (fun _ hK => opv_move rfl (Ev.eq (.t .here))) kb_nil ?_
    refine gsplit (.n 7 11 rfl) (fun h7 => ?_) (fun h7 => ?_)
    ·
     have q7 := h7
     try simp only [zs, List.length_map, bl_inj] at q7
     refine g_o (listed' := bs 14 15) 3 rfl (by kernel_rfl) rfl (fun _ => .off rfl rfl .here (congrArg not h7)) rfl kb_nil ?_
     refine g_o (listed' := bs 14 31) 4 rfl (by kernel_rfl) rfl (fun _ => .off rfl rfl (.n 23 1 rfl) (congrArg not h7)) rfl kb_nil ?_
     refine g_o (listed' := bs 14 63) 5 rfl (by kernel_rfl) rfl (fun _ => .off rfl rfl (.n 23 2 rfl) (congrArg not h7)) rfl kb_nil ?_
     refine g_o (listed' := bs 14 127) 6 rfl (by kernel_rfl) rfl (fun _ => .off rfl rfl (.n 23 3 rfl) (congrArg not h7)) rfl kb_nil ?_
     refine g_o (listed' := bs 14 255) 7 rfl (by kernel_rfl) rfl (fun _ => .off rfl rfl (.n 23 4 rfl) (congrArg not h7)) rfl kb_nil ?_
     refine g_o (listed' := bs 14 511) 8 rfl (by kernel_rfl) rfl (fun _ => .off rfl rfl (.n 23 5 rfl) (congrArg not h7)) rfl kb_nil ?_
     refine g_o (listed' := bs 14 1023) 9 rfl (by kernel_rfl) rfl (fun _ => .off rfl rfl (.n 23 6 rfl) (congrArg not h7)) rfl kb_nil ?_
     refine g_o (listed' := bs 14 2047) 10 rfl (by kernel_rfl) rfl (fun _ => .off rfl rfl (.n 23 7 rfl) (congrArg not h7)) rfl kb_nil ?_
     refine g_o (listed' := bs 14 4095) 11 rfl (by kernel_rfl) rfl (fun _ => .off rfl rfl (.n 23 8 rfl) (congrArg not h7)) rfl kb_nil ?_
     refine g_o (listed' := bs 14 8191) 12 rfl (by kernel_rfl) rfl (fun _ => .off rfl rfl (.n 23 9 rfl) (congrArg not h7)) rfl kb_nil ?_
     refine g_v (listed' := bs 14 16383) 13 rfl (by kernel_rfl) rfl (fun _ => .plain rfl) rfl (fun _ hK => opv_pick_f rfl (Ev.eq (.t (.n 23 10 rfl))) (congrArg not h7) (Ev.eq .b)) kb_nil ?_
     refine g_end (by kernel_rfl) ?_
     refine pcond_f (.t .here) rfl ?_
     refine awp_skip ?_
     refine awp_seq ?_
     refine g_draw mixed kb_nil (by kernel_rfl) (fuel := 10) rfl rfl ?_
     refine g_v (listed' := bs 10 1) 0 rfl (by kernel_rfl) rfl (fun _ => .plain rfl) rfl (fun _ hK => opv_move rfl (Ev.eq (.t (.n 0 18 rfl)))) kb_nil ?_
     refine g_v (listed' := bs 10 3) 1 rfl (by kernel_rfl) rfl (fun _ => .plain rfl) rfl (fun _ hK => opv_move rfl (Ev.eq (.t (.n 8 24 rfl)))) kb_nil ?_
     try obtain ⟨x, hx⟩ := some_at (l := o) (i := k) (by omega)
     refine g_v (listed' := bs 10 7) 2 rfl (by kernel_rfl) rfl (fun _ => .plain rfl) rfl (fun _ hK => p_index (slT28) rfl (Ev.eq (.t (.n 43 1 rfl))) (Ev.eq (.t .here)) (by omega) (by first | assumption | exact map_at (by assumption) | exact encTries_at (by assumption)) rfl) kb_nil ?_
     refine g_v (listed' := bs 10 15) 3 rfl (by kernel_rfl) rfl (fun _ => .plain rfl) rfl (fun _ hK => p_load1f (scT9) rfl (Ev.eq (.t .here))) kb_nil ?_
     refine g_v (listed' := bs 10 31) 4 rfl (by kernel_rfl) rfl (fun _ => .plain rfl) rfl (fun _ hK => opv_move rfl (Ev.eq (.t (.n 1 23 rfl)))) kb_nil ?_
     refine g_v (listed' := bs 10 63) 5 rfl (by kernel_rfl) rfl (fun _ => .plain rfl) rfl (fun _ hK => opv_move rfl (Ev.eq (.t (.n 5 25 rfl)))) kb_nil ?_
     refine g_v (listed' := bs 10 127) 6 rfl (by kernel_rfl) rfl (fun _ => .plain rfl) rfl (fun _ hK => p_index (slT38) rfl (Ev.eq (.t (.n 47 1 rfl))) (Ev.eq (.t .here)) (by omega) (by first | assumption | exact map_at (by assumption) | exact encTries_at (by assumption)) rfl) kb_nil ?_
     refine g_v (listed' := bs 10 255) 7 rfl (by kernel_rfl) rfl (fun _ => .plain rfl) rfl (fun _ hK => p_fieldf (fldT43_0) rfl (Ev.eq (.t .here)) rfl) kb_nil ?_
     refine g_v (listed' := bs 10 511) 8 rfl (by kernel_rfl) rfl (fun _ => .plain rfl) rfl (fun _ hK => p_load1f (scT9) rfl (Ev.eq (.t .here))) kb_nil ?_
     refine g_v (listed' := bs 10 1023) 9 rfl (by kernel_rfl) rfl (fun _ => .plain rfl) rfl (fun _ hK => opv_neq_s rfl (Ev.eq (.t (.n 46 5 rfl))) (Ev.eq (.t .here)) rfl) kb_nil ?_
     refine g_end (by kernel_rfl) ?_
     refine psplit .here (fun h52 => ?_) (fun h52 => ?_)
     ·
      have q52 := h52
      try simp only [zs, List.length_map, bl_inj] at q52
      refine pcond_t (.t .here) h52 ?_
      refine awp_region ?_
      refine lv (.plain rfl) rfl rfl (opv_move rfl (Ev.eq (.t (.n 6 31 rfl)))) ?_
      refine lv (.plain rfl) rfl rfl (opv_move rfl (Ev.eq (.t (.n 0 29 rfl)))) ?_
      refine lv (.plain rfl) rfl rfl (opv_move rfl (Ev.eq (.t (.n 8 35 rfl)))) ?_
      refine lv (.plain rfl) rfl rfl (p_index (slT28) rfl (Ev.eq (.t (.n 54 1 rfl))) (Ev.eq (.t .here)) (by omega) (by first | assumption | exact map_at (by assumption) | exact encTries_at (by assumption)) rfl) ?_
      refine lv (.plain rfl) rfl rfl (p_load1f (scT9) rfl (Ev.eq (.t .here))) ?_
      refine l_xd (.plain rfl) rfl rfl (x_buildSlice (cs := [_]) (rows := [[_]]) slT28 slZ28_1 rfl rfl rfl (.cons (.t .here) .nil) rfl rfl rfl rfl rfl) ?_
      rintro _ _ ⟨g4, ng4, rfl, rfl⟩
      refine l_xd (.plain rfl) rfl rfl (x_append (acc := acc) (rows := [_]) (hf := [_]) apT28 rfl (.t (.n 53 5 rfl)) (.t .here) rfl (.head _) rfl rfl (by simp_all; omega)) ?_
      rintro _ _ ⟨acc5, hacc5, rfl, rfl⟩
      dsimp only [List.cons_append, List.nil_append]
      refine lv (.plain rfl) rfl rfl (opv_assign rfl (Ev.eq (.t .here))) ?_
      refine awpL_nil ?_
      refine awp_region ?_
      refine lv (.plain rfl) rfl rfl (opv_move rfl (Ev.eq (.t (.n 8 41 rfl)))) ?_
      refine lv (.plain rfl) rfl rfl (opv_add rfl (Ev.eq (.t .here)) (Ev.eq .i) (wr64 (by omega) (by omega)) rfl) ?_
      refine lv (.plain rfl) rfl rfl (opv_assign rfl (Ev.eq (.t .here))) ?_
      refine awpL_nil ?_
      refine ⟨(k + 1, put, pre ++ ([] ++ [x]), acc5), by dsimp only; omega, ⟨by dsimp only; omega, by dsimp only; rw [drop_cons hx, insGo] at hI; rw [← hI]; simp_all [geS, bl_inj], by dsimp only; simp_all [cellsOf, encS]⟩, weak_both (.ce (.n 0 39 rfl) (by first | rfl | (simp; done) | (simp; omega)) (.ce (.n 1 40 rfl) (by first | rfl | (simp; done) | (simp; omega)) (.ce (.n 5 41 rfl) (by first | rfl | (simp; done) | (simp; omega)) (.ce (.n 6 3 rfl) (by first | rfl | (simp; done) | (simp; omega)) (.ce (.n 7 43 rfl) (by first | rfl | (simp; done) | (simp; omega)) (.ce .here (by first | rfl | (simp; done) | (simp; omega)) .nil)))))) (.cons _ (List.Sublist.refl _))⟩
     ·
      have q52 := h52
      try simp only [zs, List.length_map, bl_inj] at q52
      refine pcond_f (.t .here) h52 ?_
      refine awp_skip ?_
      refine awp_region ?_
      refine lv (.plain rfl) rfl rfl (opv_move rfl (Ev.eq (.t (.n 8 33 rfl)))) ?_
      refine lv (.plain rfl) rfl rfl (opv_add rfl (Ev.eq (.t .here)) (Ev.eq .i) (wr64 (by omega) (by omega)) rfl) ?_
      refine lv (.plain rfl) rfl rfl (opv_assign rfl (Ev.eq (.t .here))) ?_
      refine awpL_nil ?_
      refine ⟨(k + 1, put, pre ++ ([] ++ []), acc), by dsimp only; omega, ⟨by dsimp only; omega, by dsimp only; rw [drop_cons hx, insGo] at hI; rw [← hI]; simp_all [geS, bl_inj], by dsimp only; simp_all [cellsOf, encS]⟩, weak_both (.ce (.n 0 31 rfl) (by first | rfl | (simp; done) | (simp; omega)) (.ce (.n 1 32 rfl) (by first | rfl | (simp; done) | (simp; omega)) (.ce (.n 5 33 rfl) (by first | rfl | (simp; done) | (simp; omega)) (.ce (.n 6 34 rfl) (by first | rfl | (simp; done) | (simp; omega)) (.ce (.n 7 35 rfl) (by first | rfl | (simp; done) | (simp; omega)) (.ce .here (by first | rfl | (simp; done) | (simp; omega)) .nil)))))) (List.Sublist.refl _)⟩
    ·
     have q7 := h7
     try simp only [zs, List.length_map, bl_inj] at q7
     refine g_v (listed' := bs 14 15) 3 rfl (by kernel_rfl) rfl (fun _ => .on rfl rfl .here (congrArg not h7)) rfl (fun _ hK => opv_move rfl (Ev.eq (.t (.n 0 7 rfl)))) kb_nil ?_
     refine g_v (listed' := bs 14 31) 4 rfl (by kernel_rfl) rfl (fun _ => .on rfl rfl (.n 23 1 rfl) (congrArg not h7)) rfl (fun _ hK => opv_move rfl (Ev.eq (.t (.n 8 13 rfl)))) kb_nil ?_
     obtain ⟨x, hx⟩ := some_at (l := o) (i := k) (by omega)
     refine g_v (listed' := bs 14 63) 5 rfl (by kernel_rfl) rfl (fun _ => .on rfl rfl (.n 23 2 rfl) (congrArg not h7)) rfl (fun _ hK => p_index (slT28) rfl (Ev.eq (.t (.n 24 1 rfl))) (Ev.eq (.t .here)) (by omega) (by first | assumption | exact map_at (by assumption) | exact encTries_at (by assumption)) rfl) kb_nil ?_
     refine g_v (listed' := bs 14 127) 6 rfl (by kernel_rfl) rfl (fun _ => .on rfl rfl (.n 23 3 rfl) (congrArg not h7)) rfl (fun _ hK => p_load1f (scT9) rfl (Ev.eq (.t .here))) kb_nil ?_
     refine g_v (listed' := bs 14 255) 7 rfl (by kernel_rfl) rfl (fun _ => .on rfl rfl (.n 23 4 rfl) (congrArg not h7)) rfl (fun _ hK => opv_move rfl (Ev.eq (.t (.n 1 12 rfl)))) kb_nil ?_
     refine g_v (listed' := bs 14 511) 8 rfl (by kernel_rfl) rfl (fun _ => .on rfl rfl (.n 23 5 rfl) (congrArg not h7)) rfl (fun _ hK => opv_move rfl (Ev.eq (.t (.n 5 14 rfl)))) kb_nil ?_
     refine g_v (listed' := bs 14 1023) 9 rfl (by kernel_rfl) rfl (fun _ => .on rfl rfl (.n 23 6 rfl) (congrArg not h7)) rfl (fun _ hK => p_index (slT38) rfl (Ev.eq (.t (.n 28 1 rfl))) (Ev.eq (.t .here)) (by omega) (by first | assumption | exact map_at (by assumption) | exact encTries_at (by assumption)) rfl) kb_nil ?_
     refine g_v (listed' := bs 14 2047) 10 rfl (by kernel_rfl) rfl (fun _ => .on rfl rfl (.n 23 7 rfl) (congrArg not h7)) rfl (fun _ hK => p_fieldf (fldT43_0) rfl (Ev.eq (.t .here)) rfl) kb_nil ?_
     refine g_v (listed' := bs 14 4095) 11 rfl (by kernel_rfl) rfl (fun _ => .on rfl rfl (.n 23 8 rfl) (congrArg not h7)) rfl (fun _ hK => p_load1f (scT9) rfl (Ev.eq (.t .here))) kb_nil ?_
     refine g_v (listed' := bs 14 8191) 12 rfl (by kernel_rfl) rfl (fun _ => .on rfl rfl (.n 23 9 rfl) (congrArg not h7)) rfl (fun _ hK => opv_geq_s rfl (Ev.eq (.t (.n 27 5 rfl))) (Ev.eq (.t .here)) rfl) kb_nil ?_
     refine g_v (listed' := bs 14 16383) 13 rfl (by kernel_rfl) rfl (fun _ => .plain rfl) rfl (fun _ hK => opv_pick_t rfl (Ev.eq (.t (.n 23 10 rfl))) (congrArg not h7) (Ev.eq (.t .here))) kb_nil ?_
     refine g_end (by kernel_rfl) ?_
     refine psplit (.n 33 1 rfl) (fun h33 => ?_) (fun h33 => ?_)
     ·
      have q33 := h33
      try simp only [zs, List.length_map, bl_inj] at q33
      refine pcond_t (.t .here) h33 ?_
      refine awp_seq ?_
      refine awp_region ?_
      refine lv (.plain rfl) rfl rfl (opv_move rfl (Ev.eq (.t (.n 6 21 rfl)))) ?_
      refine lv (.plain rfl) rfl rfl (opv_move rfl (Ev.eq (.t (.n 1 20 rfl)))) ?_
      refine lv (.plain rfl) rfl rfl (opv_move rfl (Ev.eq (.t (.n 5 22 rfl)))) ?_
      refine lv (.plain rfl) rfl rfl (p_index (slT38) rfl (Ev.eq (.t (.n 36 1 rfl))) (Ev.eq (.t .here)) (by omega) (by first | assumption | exact map_at (by assumption) | exact encTries_at (by assumption)) rfl) ?_
      refine lv (.plain rfl) rfl rfl (p_fieldf (fldT43_0) rfl (Ev.eq (.t .here)) rfl) ?_
      refine lv (.plain rfl) rfl rfl (p_load1f (scT9) rfl (Ev.eq (.t .here))) ?_
      refine l_xd (.plain rfl) rfl rfl (x_buildSlice (cs := [_]) (rows := [[_]]) slT28 slZ28_1 rfl rfl rfl (.cons (.t .here) .nil) rfl rfl rfl rfl rfl) ?_
      rintro _ _ ⟨g9, ng9, rfl, rfl⟩
      refine l_xd (.plain rfl) rfl rfl (x_append (acc := acc) (rows := [_]) (hf := [_]) apT28 rfl (.t (.n 35 6 rfl)) (.t .here) rfl (.head _) rfl rfl (by simp_all; omega)) ?_
      rintro _ _ ⟨acc10, hacc10, rfl, rfl⟩
      dsimp only [List.cons_append, List.nil_append]
      refine lv (.plain rfl) rfl rfl (opv_assign rfl (Ev.eq (.t .here))) ?_
      refine awpL_nil ?_
      refine awp_region ?_
      refine lv (.plain rfl) rfl rfl (opv_assign rfl (Ev.eq .b)) ?_
      refine awpL_nil ?_
      refine awp_seq ?_
      refine g_draw mixed kb_nil (by kernel_rfl) (fuel := 10) rfl rfl ?_
      refine g_v (listed' := bs 10 1) 0 rfl (by kernel_rfl) rfl (fun _ => .plain rfl) rfl (fun _ hK => opv_move rfl (Ev.eq (.t (.n 0 28 rfl)))) kb_nil ?_
      refine g_v (listed' := bs 10 3) 1 rfl (by kernel_rfl) rfl (fun _ => .plain rfl) rfl (fun _ hK => opv_move rfl (Ev.eq (.t (.n 8 34 rfl)))) kb_nil ?_
      try obtain ⟨x, hx⟩ := some_at (l := o) (i := k) (by omega)
      refine g_v (listed' := bs 10 7) 2 rfl (by kernel_rfl) rfl (fun _ => .plain rfl) rfl (fun _ hK => p_index (slT28) rfl (Ev.eq (.t (.n 43 1 rfl))) (Ev.eq (.t .here)) (by omega) (by first | assumption | exact map_at (by assumption) | exact encTries_at (by assumption)) rfl) kb_nil ?_
      refine g_v (listed' := bs 10 15) 3 rfl (by kernel_rfl) rfl (fun _ => .plain rfl) rfl (fun _ hK => p_load1f (scT9) rfl (Ev.eq (.t .here))) kb_nil ?_
      refine g_v (listed' := bs 10 31) 4 rfl (by kernel_rfl) rfl (fun _ => .plain rfl) rfl (fun _ hK => opv_move rfl (Ev.eq (.t (.n 1 33 rfl)))) kb_nil ?_
      refine g_v (listed' := bs 10 63) 5 rfl (by kernel_rfl) rfl (fun _ => .plain rfl) rfl (fun _ hK => opv_move rfl (Ev.eq (.t (.n 5 35 rfl)))) kb_nil ?_
      refine g_v (listed' := bs 10 127) 6 rfl (by kernel_rfl) rfl (fun _ => .plain rfl) rfl (fun _ hK => p_index (slT38) rfl (Ev.eq (.t (.n 47 1 rfl))) (Ev.eq (.t .here)) (by omega) (by first | assumption | exact map_at (by assumption) | exact encTries_at (by assumption)) rfl) kb_nil ?_
      refine g_v (listed' := bs 10 255) 7 rfl (by kernel_rfl) rfl (fun _ => .plain rfl) rfl (fun _ hK => p_fieldf (fldT43_0) rfl (Ev.eq (.t .here)) rfl) kb_nil ?_
      refine g_v (listed' := bs 10 511) 8 rfl (by kernel_rfl) rfl (fun _ => .plain rfl) rfl (fun _ hK => p_load1f (scT9) rfl (Ev.eq (.t .here))) kb_nil ?_
      refine g_v (listed' := bs 10 1023) 9 rfl (by kernel_rfl) rfl (fun _ => .plain rfl) rfl (fun _ hK => opv_neq_s rfl (Ev.eq (.t (.n 46 5 rfl))) (Ev.eq (.t .here)) rfl) kb_nil ?_
      refine g_end (by kernel_rfl) ?_
      refine psplit .here (fun h52 => ?_) (fun h52 => ?_)
      ·
       have q52 := h52
       try simp only [zs, List.length_map, bl_inj] at q52
       refine pcond_t (.t .here) h52 ?_
       refine awp_region ?_
       refine lv (.plain rfl) rfl rfl (opv_move rfl (Ev.eq (.t (.n 6 11 rfl)))) ?_
       refine lv (.plain rfl) rfl rfl (opv_move rfl (Ev.eq (.t (.n 0 39 rfl)))) ?_
       refine lv (.plain rfl) rfl rfl (opv_move rfl (Ev.eq (.t (.n 8 45 rfl)))) ?_
       refine lv (.plain rfl) rfl rfl (p_index (slT28) rfl (Ev.eq (.t (.n 54 1 rfl))) (Ev.eq (.t .here)) (by omega) (by first | assumption | exact map_at (by assumption) | exact encTries_at (by assumption)) rfl) ?_
       refine lv (.plain rfl) rfl rfl (p_load1f (scT9) rfl (Ev.eq (.t .here))) ?_
       refine l_xd (.plain rfl) rfl rfl (x_buildSlice (cs := [_]) (rows := [[_]]) slT28 slZ28_1 rfl rfl rfl (.cons (.t .here) .nil) rfl rfl rfl rfl rfl) ?_
       rintro _ _ ⟨g12, ng12, rfl, rfl⟩
       refine l_xd (.plain rfl) rfl rfl (x_append (acc := acc10) (rows := [_]) (hf := [_, _]) apT28 rfl (.t (.n 53 5 rfl)) (.t .here) rfl (.head _) rfl rfl (by simp_all; omega)) ?_
       rintro _ _ ⟨acc13, hacc13, rfl, rfl⟩
       dsimp only [List.cons_append, List.nil_append]
       refine lv (.plain rfl) rfl rfl (opv_assign rfl (Ev.eq (.t .here))) ?_
       refine awpL_nil ?_
       refine awp_region ?_
       refine lv (.plain rfl) rfl rfl (opv_move rfl (Ev.eq (.t (.n 8 51 rfl)))) ?_
       refine lv (.plain rfl) rfl rfl (opv_add rfl (Ev.eq (.t .here)) (Ev.eq .i) (wr64 (by omega) (by omega)) rfl) ?_
       refine lv (.plain rfl) rfl rfl (opv_assign rfl (Ev.eq (.t .here))) ?_
       refine awpL_nil ?_
       refine ⟨(k + 1, true, pre ++ ([en.path] ++ [x]), acc13), by dsimp only; omega, ⟨by dsimp only; omega, by dsimp only; rw [drop_cons hx, insGo] at hI; rw [← hI]; simp_all [geS, bl_inj], by dsimp only; simp_all [cellsOf, encS]⟩, weak_both (.ce (.n 0 49 rfl) (by first | rfl | (simp; done) | (simp; omega)) (.ce (.n 1 50 rfl) (by first | rfl | (simp; done) | (simp; omega)) (.ce (.n 5 51 rfl) (by first | rfl | (simp; done) | (simp; omega)) (.ce (.n 6 3 rfl) (by first | rfl | (simp; done) | (simp; omega)) (.ce (.n 7 21 rfl) (by first | rfl | (simp; done) | (simp; omega)) (.ce .here (by first | rfl | (simp; done) | (simp; omega)) .nil)))))) (.cons _ (.cons _ (List.Sublist.refl _)))⟩
      ·
       have q52 := h52
       try simp only [zs, List.length_map, bl_inj] at q52
       refine pcond_f (.t .here) h52 ?_
       refine awp_skip ?_
       refine awp_region ?_
       refine lv (.plain rfl) rfl rfl (opv_move rfl (Ev.eq (.t (.n 8 43 rfl)))) ?_
       refine lv (.plain rfl) rfl rfl (opv_add rfl (Ev.eq (.t .here)) (Ev.eq .i) (wr64 (by omega) (by omega)) rfl) ?_
       refine lv (.plain rfl) rfl rfl (opv_assign rfl (Ev.eq (.t .here))) ?_
       refine awpL_nil ?_
       refine ⟨(k + 1, true, pre ++ ([en.path] ++ []), acc10), by dsimp only; omega, ⟨by dsimp only; omega, by dsimp only; rw [drop_cons hx, insGo] at hI; rw [← hI]; simp_all [geS, bl_inj], by dsimp only; simp_all [cellsOf, encS]⟩, weak_both (.ce (.n 0 41 rfl) (by first | rfl | (simp; done) | (simp; omega)) (.ce (.n 1 42 rfl) (by first | rfl | (simp; done) | (simp; omega)) (.ce (.n 5 43 rfl) (by first | rfl | (simp; done) | (simp; omega)) (.ce (.n 6 14 rfl) (by first | rfl | (simp; done) | (simp; omega)) (.ce (.n 7 13 rfl) (by first | rfl | (simp; done) | (simp; omega)) (.ce .here (by first | rfl | (simp; done) | (simp; omega)) .nil)))))) (.cons _ (List.Sublist.refl _))⟩
     ·
      have q33 := h33
      try simp only [zs, List.length_map, bl_inj] at q33
      refine pcond_f (.t .here) h33 ?_
      refine awp_skip ?_
      refine awp_seq ?_
      refine g_draw mixed kb_nil (by kernel_rfl) (fuel := 10) rfl rfl ?_
      refine g_v (listed' := bs 10 1) 0 rfl (by kernel_rfl) rfl (fun _ => .plain rfl) rfl (fun _ hK => opv_move rfl (Ev.eq (.t (.n 0 18 rfl)))) kb_nil ?_
      refine g_v (listed' := bs 10 3) 1 rfl (by kernel_rfl) rfl (fun _ => .plain rfl) rfl (fun _ hK => opv_move rfl (Ev.eq (.t (.n 8 24 rfl)))) kb_nil ?_
      try obtain ⟨x, hx⟩ := some_at (l := o) (i := k) (by omega)
      refine g_v (listed' := bs 10 7) 2 rfl (by kernel_rfl) rfl (fun _ => .plain rfl) rfl (fun _ hK => p_index (slT28) rfl (Ev.eq (.t (.n 43 1 rfl))) (Ev.eq (.t .here)) (by omega) (by first | assumption | exact map_at (by assumption) | exact encTries_at (by assumption)) rfl) kb_nil ?_
      refine g_v (listed' := bs 10 15) 3 rfl (by kernel_rfl) rfl (fun _ => .plain rfl) rfl (fun _ hK => p_load1f (scT9) rfl (Ev.eq (.t .here))) kb_nil ?_
      refine g_v (listed' := bs 10 31) 4 rfl (by kernel_rfl) rfl (fun _ => .plain rfl) rfl (fun _ hK => opv_move rfl (Ev.eq (.t (.n 1 23 rfl)))) kb_nil ?_
      refine g_v (listed' := bs 10 63) 5 rfl (by kernel_rfl) rfl (fun _ => .plain rfl) rfl (fun _ hK => opv_move rfl (Ev.eq (.t (.n 5 25 rfl)))) kb_nil ?_
      refine g_v (listed' := bs 10 127) 6 rfl (by kernel_rfl) rfl (fun _ => .plain rfl) rfl (fun _ hK => p_index (slT38) rfl (Ev.eq (.t (.n 47 1 rfl))) (Ev.eq (.t .here)) (by omega) (by first | assumption | exact map_at (by assumption) | exact encTries_at (by assumption)) rfl) kb_nil ?_
      refine g_v (listed' := bs 10 255) 7 rfl (by kernel_rfl) rfl (fun _ => .plain rfl) rfl (fun _ hK => p_fieldf (fldT43_0) rfl (Ev.eq (.t .here)) rfl) kb_nil ?_
      refine g_v (listed' := bs 10 511) 8 rfl (by kernel_rfl) rfl (fun _ => .plain rfl) rfl (fun _ hK => p_load1f (scT9) rfl (Ev.eq (.t .here))) kb_nil ?_
      refine g_v (listed' := bs 10 1023) 9 rfl (by kernel_rfl) rfl (fun _ => .plain rfl) rfl (fun _ hK => opv_neq_s rfl (Ev.eq (.t (.n 46 5 rfl))) (Ev.eq (.t .here)) rfl) kb_nil ?_
      refine g_end (by kernel_rfl) ?_
      refine psplit .here (fun h52 => ?_) (fun h52 => ?_)
      ·
       have q52 := h52
       try simp only [zs, List.length_map, bl_inj] at q52
       refine pcond_t (.t .here) h52 ?_
       refine awp_region ?_
       refine lv (.plain rfl) rfl rfl (opv_move rfl (Ev.eq (.t (.n 6 31 rfl)))) ?_
       refine lv (.plain rfl) rfl rfl (opv_move rfl (Ev.eq (.t (.n 0 29 rfl)))) ?_
       refine lv (.plain rfl) rfl rfl (opv_move rfl (Ev.eq (.t (.n 8 35 rfl)))) ?_
       refine lv (.plain rfl) rfl rfl (p_index (slT28) rfl (Ev.eq (.t (.n 54 1 rfl))) (Ev.eq (.t .here)) (by omega) (by first | assumption | exact map_at (by assumption) | exact encTries_at (by assumption)) rfl) ?_
       refine lv (.plain rfl) rfl rfl (p_load1f (scT9) rfl (Ev.eq (.t .here))) ?_
       refine l_xd (.plain rfl) rfl rfl (x_buildSlice (cs := [_]) (rows := [[_]]) slT28 slZ28_1 rfl rfl rfl (.cons (.t .here) .nil) rfl rfl rfl rfl rfl) ?_
       rintro _ _ ⟨g17, ng17, rfl, rfl⟩
       refine l_xd (.plain rfl) rfl rfl (x_append (acc := acc) (rows := [_]) (hf := [_]) apT28 rfl (.t (.n 53 5 rfl)) (.t .here) rfl (.head _) rfl rfl (by simp_all; omega)) ?_
       rintro _ _ ⟨acc18, hacc18, rfl, rfl⟩
       dsimp only [List.cons_append, List.nil_append]
       refine lv (.plain rfl) rfl rfl (opv_assign rfl (Ev.eq (.t .here))) ?_
       refine awpL_nil ?_
       refine awp_region ?_
       refine lv (.plain rfl) rfl rfl (opv_move rfl (Ev.eq (.t (.n 8 41 rfl)))) ?_
       refine lv (.plain rfl) rfl rfl (opv_add rfl (Ev.eq (.t .here)) (Ev.eq .i) (wr64 (by omega) (by omega)) rfl) ?_
       refine lv (.plain rfl) rfl rfl (opv_assign rfl (Ev.eq (.t .here))) ?_
       refine awpL_nil ?_
       refine ⟨(k + 1, put, pre ++ ([] ++ [x]), acc18), by dsimp only; omega, ⟨by dsimp only; omega, by dsimp only; rw [drop_cons hx, insGo] at hI; rw [← hI]; simp_all [geS, bl_inj], by dsimp only; simp_all [cellsOf, encS]⟩, weak_both (.ce (.n 0 39 rfl) (by first | rfl | (simp; done) | (simp; omega)) (.ce (.n 1 40 rfl) (by first | rfl | (simp; done) | (simp; omega)) (.ce (.n 5 41 rfl) (by first | rfl | (simp; done) | (simp; omega)) (.ce (.n 6 3 rfl) (by first | rfl | (simp; done) | (simp; omega)) (.ce (.n 7 43 rfl) (by first | rfl | (simp; done) | (simp; omega)) (.ce .here (by first | rfl | (simp; done) | (simp; omega)) .nil)))))) (.cons _ (List.Sublist.refl _))⟩
      ·
       have q52 := h52
       try simp only [zs, List.length_map, bl_inj] at q52
       refine pcond_f (.t .here) h52 ?_
       refine awp_skip ?_
       refine awp_region ?_
       refine lv (.plain rfl) rfl rfl (opv_move rfl (Ev.eq (.t (.n 8 33 rfl)))) ?_
       refine lv (.plain rfl) rfl rfl (opv_add rfl (Ev.eq (.t .here)) (Ev.eq .i) (wr64 (by omega) (by omega)) rfl) ?_
       refine lv (.plain rfl) rfl rfl (opv_assign rfl (Ev.eq (.t .here))) ?_
       refine awpL_nil ?_
       refine ⟨(k + 1, put, pre ++ ([] ++ []), acc), by dsimp only; omega, ⟨by dsimp only; omega, by dsimp only; rw [drop_cons hx, insGo] at hI; rw [← hI]; simp_all [geS, bl_inj], by dsimp only; simp_all [cellsOf, encS]⟩, weak_both (.ce (.n 0 31 rfl) (by first | rfl | (simp; done) | (simp; omega)) (.ce (.n 1 32 rfl) (by first | rfl | (simp; done) | (simp; omega)) (.ce (.n 5 33 rfl) (by first | rfl | (simp; done) | (simp; omega)) (.ce (.n 6 34 rfl) (by first | rfl | (simp; done) | (simp; omega)) (.ce (.n 7 35 rfl) (by first | rfl | (simp; done) | (simp; omega)) (.ce .here (by first | rfl | (simp; done) | (simp; omega)) .nil)))))) (List.Sublist.refl _)⟩
   ·
    have q18 := h18
    try simp only [zs, List.length_map, bl_inj] at q18
    refine pcond_f (.t .here) h18 ?_
    refine awp_exit ?_
    refine awp_seq ?_
    refine awp_seq ?_
    refine awp_region ?_
    refine lv (.plain rfl) rfl rfl (opv_move rfl (Ev.eq (.t (.n 7 8 rfl)))) ?_
    refine lv (.plain rfl) rfl rfl (opv_not rfl (Ev.eq (.t .here)) rfl) ?_
    refine awpL_nil ?_
    refine psplit (.n 7 10 rfl) (fun h7 => ?_) (fun h7 => ?_)
    ·
     have q7 := h7
     try simp only [zs, List.length_map, bl_inj] at q7
     refine pcond_f (.t .here) (congrArg not h7) ?_
     refine awp_skip ?_
     refine awp_region ?_
     refine lv (.plain rfl) rfl rfl (opv_move rfl (Ev.eq (.t (.n 6 9 rfl)))) ?_
     refine lv (.plain rfl) rfl rfl (opv_assign rfl (Ev.eq (.t .here))) ?_
     refine awpL_nil ?_
     refine awp_region ?_
     refine lv (.plain rfl) rfl rfl (opv_move rfl (Ev.eq (.t (.n 5 10 rfl)))) ?_
     refine lv (.plain rfl) rfl rfl (opv_add rfl (Ev.eq (.t .here)) (Ev.eq .i) (wr64 (by omega) (by omega)) rfl) ?_
     refine lv (.plain rfl) rfl rfl (opv_assign rfl (Ev.eq (.t .here))) ?_
     refine awpL_nil ?_
     have hfin : acc.rows = ((insGo en.path o false).map encS).map (·.map AV.d) := by rw [← hI, drop_end (l := o) (k := k) (by omega), insGo]; simp_all [cellsOf, Acc.rows]; try rfl
     refine ⟨(i + 1, insGo en.path o false), by dsimp only; omega, ⟨by dsimp only; omega, by dsimp only; rw [← hEQ, drop_cons hk, pathsF], by dsimp only; have := (insGo_len en.path o false).1; simp at this; omega⟩, weak_f (keep := []) (hz := accH _ _ acc) (List.Sublist.refl _) (.cons (.n 0 3 rfl) (frz_acc (acc := acc) (e := 9) (sz := 1) (fun q hq => hq) (hfin)) (.cons (.n 1 12 rfl) (.of (by first | rfl | (simp; done) | (simp; omega))) (.cons .here (.of (by first | rfl | (simp; done) | (simp; omega))) .nil)))⟩
    ·
     have q7 := h7
     try simp only [zs, List.length_map, bl_inj] at q7
     refine pcond_t (.t .here) (congrArg not h7) ?_
     refine awp_region ?_
     refine lv (.plain rfl) rfl rfl (opv_move rfl (Ev.eq (.t (.n 6 9 rfl)))) ?_
     refine lv (.plain rfl) rfl rfl (opv_move rfl (Ev.eq (.t (.n 1 8 rfl)))) ?_
     refine lv (.plain rfl) rfl rfl (opv_move rfl (Ev.eq (.t (.n 5 10 rfl)))) ?_
     refine lv (.plain rfl) rfl rfl (p_index (slT38) rfl (Ev.eq (.t (.n 63 1 rfl))) (Ev.eq (.t .here)) (by omega) (by first | assumption | exact map_at (by assumption) | exact encTries_at (by assumption)) rfl) ?_
     refine lv (.plain rfl) rfl rfl (p_fieldf (fldT43_0) rfl (Ev.eq (.t .here)) rfl) ?_
     refine lv (.plain rfl) rfl rfl (p_load1f (scT9) rfl (Ev.eq (.t .here))) ?_
     refine l_xd (.plain rfl) rfl rfl (x_buildSlice (cs := [_]) (rows := [[_]]) slT28 slZ28_1 rfl rfl rfl (.cons (.t .here) .nil) rfl rfl rfl rfl rfl) ?_
     rintro _ _ ⟨g22, ng22, rfl, rfl⟩
     refine l_xd (.plain rfl) rfl rfl (x_append (acc := acc) (rows := [_]) (hf := [_]) apT28 rfl (.t (.n 62 6 rfl)) (.t .here) rfl (.head _) rfl rfl (by simp_all; omega)) ?_
     rintro _ _ ⟨acc23, hacc23, rfl, rfl⟩
     dsimp only [List.cons_append, List.nil_append]
     refine lv (.plain rfl) rfl rfl (opv_assign rfl (Ev.eq (.t .here))) ?_
     refine awpL_nil ?_
     refine awp_region ?_
     refine lv (.plain rfl) rfl rfl (opv_move rfl (Ev.eq (.t .here))) ?_
     refine lv (.plain rfl) rfl rfl (opv_assign rfl (Ev.eq (.t .here))) ?_
     refine awpL_nil ?_
     refine awp_region ?_
     refine lv (.plain rfl) rfl rfl (opv_move rfl (Ev.eq (.t (.n 5 19 rfl)))) ?_
     refine lv (.plain rfl) rfl rfl (opv_add rfl (Ev.eq (.t .here)) (Ev.eq .i) (wr64 (by omega) (by omega)) rfl) ?_
     refine lv (.plain rfl) rfl rfl (opv_assign rfl (Ev.eq (.t .here))) ?_
     refine awpL_nil ?_
     have hfin : acc23.rows = ((insGo en.path o false).map encS).map (·.map AV.d) := by rw [← hI, drop_end (l := o) (k := k) (by omega), insGo]; simp_all [cellsOf, Acc.rows]; try rfl
     refine ⟨(i + 1, insGo en.path o false), by dsimp only; omega, ⟨by dsimp only; omega, by dsimp only; rw [← hEQ, drop_cons hk, pathsF], by dsimp only; have := (insGo_len en.path o false).1; simp at this; omega⟩, weak_f (keep := []) (hz := accH _ _ acc23) (.cons _ (List.Sublist.refl _)) (.cons (.n 0 3 rfl) (frz_acc (acc := acc23) (e := 9) (sz := 1) (fun q hq => hq) (hfin)) (.cons (.n 1 21 rfl) (.of (by first | rfl | (simp; done) | (simp; omega))) (.cons .here (.of (by first | rfl | (simp; done) | (simp; omega))) .nil)))⟩
  ·
   have q12 := h12
   try simp only [zs, List.length_map, bl_inj] at q12
   refine pcond_f (.t .here) h12 ?_
   refine awp_exit ?_
   refine awp_seq ?_
   refine awp_region ?_
   refine lv (.plain rfl) rfl rfl (opv_move rfl (Ev.eq (.t (.n 0 4 rfl)))) ?_
   refine lv (.plain rfl) rfl rfl (opv_assign rfl (Ev.eq (.t .here))) ?_
   refine awpL_nil ?_
   refine awp_ret ?_
   obtain rfl : i = es.length := by omega
   rw [List.drop_length, pathsF] at hEQ
   refine ret_now (.one (rv_t .here)) (Cast.all _ _) ?_
   rw [← hEQ]
   exact ⟨rfl, rfl⟩
theorem f119_spec (e : Ent) (r : List Ent) (at' : Nat) (ha : at' ≤ 24) : FSpec Tryd.prog 119 [.d (dEnts (e :: r)), .d (.i .i64 (at' : Int))] (.d (.i .i64 (comR e r at' : Nat))) := by
  refine acalls_of Tryd.func119 rfl Tryd.ntmps119 Tryd.results119 (by simp) ?_
  refine wlen .here (fun hlen => ?_)
  simp only [List.length_map] at hlen
  refine awp_seq ?_
  refine awp_region ?_
  refine lv (.plain rfl) rfl rfl (opv_assign rfl (Ev.eq .i)) ?_
  refine awpL_nil ?_
  refine awp_seq ?_
  refine awp_region ?_
  refine lv (.plain rfl) rfl rfl (opv_move rfl (Ev.eq (.t (.n 1 2 rfl)))) ?_
  refine lv (.plain rfl) rfl rfl (opv_assign rfl (Ev.eq (.t .here))) ?_
  refine awpL_nil ?_
  refine awp_block ?_
  refine ploop (fun (n : Nat) => ⟨53, [(0, .d (dEnts (e :: r))), (5, .d (.i .i64 (n : Int)))], [], []⟩) (fun n => at' ≤ n ∧ n ≤ 24 ∧ comF e (e :: r) (24 - n) n = comR e r at') (fun n => 24 - n) (at') (weak_both (.ce (.n 0 3 rfl) (by first | rfl | (simp; done) | (simp; omega)) (.ce .here (by first | rfl | (simp; done) | (simp; omega)) .nil)) (List.Sublist.refl _)) (⟨by omega, by omega, rfl⟩) ?_
  rintro n ⟨hn1, hn2, hEQ⟩
  refine awp_block ?_
  refine awp_seq ?_
  refine awp_seq ?_
  refine awp_region ?_
  refine lv (.plain rfl) rfl rfl (opv_move rfl (Ev.eq (.t (.n 5 1 rfl)))) ?_
  refine lv (.plain rfl) rfl rfl (opv_move rfl (Ev.eq (.t (.n 0 1 rfl)))) ?_
  refine lv (.plain rfl) rfl rfl (p_index (slT38) rfl (Ev.eq (.t .here)) (Ev.eq .i) (by omega) (rfl : ((e :: r).map encEnt)[((0 : Int)).toNat]? = some (encEnt e)) rfl) ?_
  refine lv (.plain rfl) rfl rfl (p_fieldf (fldT43_0) rfl (Ev.eq (.t .here)) rfl) ?_
  refine lv (.plain rfl) rfl rfl (p_load1f (scT9) rfl (Ev.eq (.t .here))) ?_
  refine lv (.plain rfl) rfl rfl (opv_len_s Tryd.underlying9 rfl (Ev.eq (.t .here)) rfl) ?_
  refine lv (.plain rfl) rfl rfl (opv_geq rfl (Ev.eq (.t (.n 8 5 rfl))) (Ev.eq (.t .here)) rfl) ?_
  refine lv (.plain rfl) rfl rfl (opv_move rfl (Ev.eq (.t .here))) ?_
  refine lsplit (.n 14 1 rfl) (fun h14 => ?_) (fun h14 => ?_)
  ·
   have q14 := h14
   try simp only [zs, List.length_map] at q14
   refine lo (.off rfl rfl .here h14) rfl rfl ?_
   refine lo (.off rfl rfl (.n 15 1 rfl) h14) rfl rfl ?_
   refine lv (.plain rfl) rfl rfl (opv_pick_t rfl (Ev.eq (.t (.n 15 2 rfl))) h14 (Ev.eq .b)) ?_
   refine awpL_nil ?_
   refine pcond_t (.t .here) rfl ?_
   refine awp_seq ?_
   refine awp_region ?_
   refine lv (.plain rfl) rfl rfl (opv_move rfl (Ev.eq (.t (.n 5 12 rfl)))) ?_
   refine lv (.plain rfl) rfl rfl (opv_assign rfl (Ev.eq (.t .here))) ?_
   refine awpL_nil ?_
   refine awp_ret ?_
   refine ret_now (.one (rv_t .here)) (Cast.all _ _) ?_
   have hEQ2 : comR e r at' = n := by rw [← hEQ]; rcases Nat.eq_zero_or_pos (24 - n) with h0 | h0; (rw [h0, comF]); rw [show 24 - n = (24 - n - 1) + 1 by omega, comF, if_pos (by first | (simp only [stopAt, Bool.or_eq_true, decide_eq_true_eq]; left; omega) | (simp only [stopAt, Bool.or_eq_true]; right; exact List.any_eq_true.2 ⟨x, List.mem_of_getElem? hk, by simp_all [badAt] <;> omega⟩))]
   rw [hEQ2]
   exact ⟨rfl, rfl⟩
  ·
   have q14 := h14
   try simp only [zs, List.length_map] at q14
   refine lv (.on rfl rfl .here h14) rfl rfl (opv_move rfl (Ev.eq (.t (.n 5 9 rfl)))) ?_
   refine lv (.on rfl rfl (.n 15 1 rfl) h14) rfl rfl (opv_geq rfl (Ev.eq (.t .here)) (Ev.eq .i) rfl) ?_
   refine lv (.plain rfl) rfl rfl (opv_pick_f rfl (Ev.eq (.t (.n 15 2 rfl))) h14 (Ev.eq (.t .here))) ?_
   refine awpL_nil ?_
   refine psplit (.n 17 1 rfl) (fun h17 => ?_) (fun h17 => ?_)
   ·
    have q17 := h17
    try simp only [zs, List.length_map] at q17
    refine pcond_t (.t .here) h17 ?_
    refine awp_seq ?_
    refine awp_region ?_
    refine lv (.plain rfl) rfl rfl (opv_move rfl (Ev.eq (.t (.n 5 12 rfl)))) ?_
    refine lv (.plain rfl) rfl rfl (opv_assign rfl (Ev.eq (.t .here))) ?_
    refine awpL_nil ?_
    refine awp_ret ?_
    refine ret_now (.one (rv_t .here)) (Cast.all _ _) ?_
    have hEQ2 : comR e r at' = n := by rw [← hEQ]; rcases Nat.eq_zero_or_pos (24 - n) with h0 | h0; (rw [h0, comF]); rw [show 24 - n = (24 - n - 1) + 1 by omega, comF, if_pos (by first | (simp only [stopAt, Bool.or_eq_true, decide_eq_true_eq]; left; omega) | (simp only [stopAt, Bool.or_eq_true]; right; exact List.any_eq_true.2 ⟨x, List.mem_of_getElem? hk, by simp_all [badAt] <;> omega⟩))]
    rw [hEQ2]
    exact ⟨rfl, rfl⟩
   ·
    have q17 := h17
    try simp only [zs, List.length_map] at q17
    refine pcond_f (.t .here) h17 ?_
    refine awp_skip ?_
    refine awp_seq ?_
    refine awp_seq ?_
    refine awp_region ?_
    refine lv (.plain rfl) rfl rfl (opv_assign rfl (Ev.eq .i)) ?_
    refine awpL_nil ?_
    refine awp_block ?_
    refine ploop (fun (i : Nat) => ⟨53, [(0, .d (dEnts (e :: r))), (5, .d (.i .i64 (n : Int))), (6, .d (.i .i64 (i : Int)))], [], []⟩) (fun i => i ≤ (e :: r).length ∧ ((e :: r).take i).any (badAt n e) = false) (fun i => (e :: r).length - i) (0) (weak_both (.ce (.n 0 12 rfl) (by first | rfl | (simp; done) | (simp; omega)) (.ce (.n 5 13 rfl) (by first | rfl | (simp; done) | (simp; omega)) (.ce .here (by first | rfl | (simp; done) | (simp; omega)) .nil))) (List.Sublist.refl _)) (⟨by omega, rfl⟩) ?_
    rintro i ⟨hi, hI⟩
    refine awp_seq ?_
    refine awp_seq ?_
    refine awp_region ?_
    refine lv (.plain rfl) rfl rfl (opv_move rfl (Ev.eq (.t (.n 6 2 rfl)))) ?_
    refine lv (.plain rfl) rfl rfl (opv_move rfl (Ev.eq (.t (.n 0 1 rfl)))) ?_
    refine lv (.plain rfl) rfl rfl (opv_len_sl Tryd.underlying38 rfl (Ev.eq (.t .here)) rfl) ?_
    refine lv (.plain rfl) rfl rfl (opv_lss rfl (Ev.eq (.t (.n 20 2 rfl))) (Ev.eq (.t .here)) rfl) ?_
    refine awpL_nil ?_
    refine psplit .here (fun h23 => ?_) (fun h23 => ?_)
    ·
     have q23 := h23
     try simp only [zs, List.length_map] at q23
     refine pcond_t (.t .here) h23 ?_
     refine awp_skip ?_
     refine awp_seq ?_
     refine awp_block ?_
     refine awp_seq ?_
     refine g_draw mixed kb_nil (by kernel_rfl) (fuel := 24) rfl rfl ?_
     refine g_v (listed' := bs 24 1) 0 rfl (by kernel_rfl) rfl (fun _ => .plain rfl) rfl (fun _ hK => opv_move rfl (Ev.eq (.t (.n 5 5 rfl)))) kb_nil ?_
     refine g_v (listed' := bs 24 3) 1 rfl (by kernel_rfl) rfl (fun _ => .plain rfl) rfl (fun _ hK => opv_move rfl (Ev.eq (.t (.n 0 5 rfl)))) kb_nil ?_
     refine g_v (listed' := bs 24 7) 2 rfl (by kernel_rfl) rfl (fun _ => .plain rfl) rfl (fun _ hK => opv_move rfl (Ev.eq (.t (.n 6 8 rfl)))) kb_nil ?_
     obtain ⟨x, hk⟩ := some_at (l := e :: r) (i := i) (by omega)
     refine g_v (listed' := bs 24 15) 3 rfl (by kernel_rfl) rfl (fun _ => .plain rfl) rfl (fun _ hK => p_index (slT38) rfl (Ev.eq (.t (.n 27 1 rfl))) (Ev.eq (.t .here)) (by omega) (by first | assumption | exact map_at (by assumption) | exact encTries_at (by assumption)) rfl) kb_nil ?_
     refine g_v (listed' := bs 24 31) 4 rfl (by kernel_rfl) rfl (fun _ => .plain rfl) rfl (fun _ hK => p_fieldf (fldT43_0) rfl (Ev.eq (.t .here)) rfl) kb_nil ?_
     refine g_v (listed' := bs 24 63) 5 rfl (by kernel_rfl) rfl (fun _ => .plain rfl) rfl (fun _ hK => p_load1f (scT9) rfl (Ev.eq (.t .here))) kb_nil ?_
     refine g_v (listed' := bs 24 127) 6 rfl (by kernel_rfl) rfl (fun _ => .plain rfl) rfl (fun _ hK => opv_len_s Tryd.underlying9 rfl (Ev.eq (.t .here)) rfl) kb_nil ?_
     refine g_v (listed' := bs 24 255) 7 rfl (by kernel_rfl) rfl (fun _ => .plain rfl) rfl (fun _ hK => opv_geq rfl (Ev.eq (.t (.n 26 6 rfl))) (Ev.eq (.t .here)) rfl) kb_nil ?_
     refine g_v (listed' := bs 24 511) 8 rfl (by kernel_rfl) rfl (fun _ => .plain rfl) rfl (fun _ hK => opv_move rfl (Ev.eq (.t .here))) kb_nil ?_
     refine gsplit (.n 33 1 rfl) (fun h33 => ?_) (fun h33 => ?_)
     ·
      have q33 := h33
      try simp only [zs, List.length_map] at q33
      refine g_o (listed' := bs 24 1023) 9 rfl (by kernel_rfl) rfl (fun _ => .off rfl rfl .here h33) rfl kb_nil ?_
      refine g_o (listed' := bs 24 2047) 10 rfl (by kernel_rfl) rfl (fun _ => .off rfl rfl (.n 34 1 rfl) h33) rfl kb_nil ?_
      refine g_o (listed' := bs 24 4095) 11 rfl (by kernel_rfl) rfl (fun _ => .off rfl rfl (.n 34 2 rfl) h33) rfl kb_nil ?_
      refine g_o (listed' := bs 24 8191) 12 rfl (by kernel_rfl) rfl (fun _ => .off rfl rfl (.n 34 3 rfl) h33) rfl kb_nil ?_
      refine g_o (listed' := bs 24 16383) 13 rfl (by kernel_rfl) rfl (fun _ => .off rfl rfl (.n 34 4 rfl) h33) rfl kb_nil ?_
      refine g_o (listed' := bs 24 32767) 14 rfl (by kernel_rfl) rfl (fun _ => .off rfl rfl (.n 34 5 rfl) h33) rfl kb_nil ?_
      refine g_o (listed' := bs 24 65535) 15 rfl (by kernel_rfl) rfl (fun _ => .off rfl rfl (.n 34 6 rfl) h33) rfl kb_nil ?_
      refine g_o (listed' := bs 24 131071) 16 rfl (by kernel_rfl) rfl (fun _ => .off rfl rfl (.n 34 7 rfl) h33) rfl kb_nil ?_
      refine g_o (listed' := bs 24 262143) 17 rfl (by kernel_rfl) rfl (fun _ => .off rfl rfl (.n 34 8 rfl) h33) rfl kb_nil ?_
      refine g_o (listed' := bs 24 524287) 18 rfl (by kernel_rfl) rfl (fun _ => .off rfl rfl (.n 34 9 rfl) h33) rfl kb_nil ?_
      refine g_o (listed' := bs 24 1048575) 19 rfl (by kernel_rfl) rfl (fun _ => .off rfl rfl (.n 34 10 rfl) h33) rfl kb_nil ?_
      refine g_o (listed' := bs 24 2097151) 20 rfl (by kernel_rfl) rfl (fun _ => .off rfl rfl (.n 34 11 rfl) h33) rfl kb_nil ?_
      refine g_o (listed' := bs 24 4194303) 21 rfl (by kernel_rfl) rfl (fun _ => .off rfl rfl (.n 34 12 rfl) h33) rfl kb_nil ?_
      refine g_o (listed' := bs 24 8388607) 22 rfl (by kernel_rfl) rfl (fun _ => .off rfl rfl (.n 34 13 rfl) h33) rfl kb_nil ?_
      refine g_v (listed' := bs 24 16777215) 23 rfl (by kernel_rfl) rfl (fun _ => .plain rfl) rfl (fun _ hK => opv_pick_t rfl (Ev.eq (.t (.n 34 14 rfl))) h33 (Ev.eq .b)) kb_nil ?_
      refine g_end (by kernel_rfl) ?_
      refine pcond_t (.t .here) rfl ?_
      refine awp_seq ?_
      refine awp_region ?_
      refine lv (.plain rfl) rfl rfl (opv_move rfl (Ev.eq (.t (.n 5 29 rfl)))) ?_
      refine lv (.plain rfl) rfl rfl (opv_assign rfl (Ev.eq (.t .here))) ?_
      refine awpL_nil ?_
      refine awp_ret ?_
      refine ret_now (.one (rv_t .here)) (Cast.all _ _) ?_
      have hEQ2 : comR e r at' = n := by rw [← hEQ]; rcases Nat.eq_zero_or_pos (24 - n) with h0 | h0; (rw [h0, comF]); rw [show 24 - n = (24 - n - 1) + 1 by omega, comF, if_pos (by first | (simp only [stopAt, Bool.or_eq_true, decide_eq_true_eq]; left; omega) | (simp only [stopAt, Bool.or_eq_true]; right; exact List.any_eq_true.2 ⟨x, List.mem_of_getElem? hk, by simp_all [badAt] <;> omega⟩))]
      rw [hEQ2]
      exact ⟨rfl, rfl⟩
     ·
      have q33 := h33
      try simp only [zs, List.length_map] at q33
      refine g_v (listed' := bs 24 1023) 9 rfl (by kernel_rfl) rfl (fun _ => .on rfl rfl .here h33) rfl (fun _ hK => opv_move rfl (Ev.eq (.t (.n 0 13 rfl)))) kb_nil ?_
      refine g_v (listed' := bs 24 2047) 10 rfl (by kernel_rfl) rfl (fun _ => .on rfl rfl (.n 34 1 rfl) h33) rfl (fun _ hK => opv_move rfl (Ev.eq (.t (.n 6 16 rfl)))) kb_nil ?_
      refine g_v (listed' := bs 24 4095) 11 rfl (by kernel_rfl) rfl (fun _ => .on rfl rfl (.n 34 2 rfl) h33) rfl (fun _ hK => p_index (slT38) rfl (Ev.eq (.t (.n 35 1 rfl))) (Ev.eq (.t .here)) (by omega) (by first | assumption | exact map_at (by assumption) | exact encTries_at (by assumption)) rfl) kb_nil ?_
      refine g_v (listed' := bs 24 8191) 12 rfl (by kernel_rfl) rfl (fun _ => .on rfl rfl (.n 34 3 rfl) h33) rfl (fun _ hK => p_fieldf (fldT43_0) rfl (Ev.eq (.t .here)) rfl) kb_nil ?_
      refine g_v (listed' := bs 24 16383) 13 rfl (by kernel_rfl) rfl (fun _ => .on rfl rfl (.n 34 4 rfl) h33) rfl (fun _ hK => p_load1f (scT9) rfl (Ev.eq (.t .here))) kb_nil ?_
      refine g_v (listed' := bs 24 32767) 14 rfl (by kernel_rfl) rfl (fun _ => .on rfl rfl (.n 34 5 rfl) h33) rfl (fun _ hK => opv_move rfl (Ev.eq (.t (.n 5 19 rfl)))) kb_nil ?_
      refine g_v (listed' := bs 24 65535) 15 rfl (by kernel_rfl) rfl (fun _ => .on rfl rfl (.n 34 6 rfl) h33) rfl (fun _ hK => opv_index_s Tryd.underlying9 rfl (Ev.eq (.t (.n 39 1 rfl))) (Ev.eq (.t .here)) (by omega) (by omega) rfl) kb_nil ?_
      refine g_v (listed' := bs 24 131071) 16 rfl (by kernel_rfl) rfl (fun _ => .on rfl rfl (.n 34 7 rfl) h33) rfl (fun _ hK => opv_move rfl (Ev.eq (.t (.n 0 20 rfl)))) kb_nil ?_
      refine g_v (listed' := bs 24 262143) 17 rfl (by kernel_rfl) rfl (fun _ => .on rfl rfl (.n 34 8 rfl) h33) rfl (fun _ hK => p_index (slT38) rfl (Ev.eq (.t .here)) (Ev.eq .i) (by omega) (rfl : ((e :: r).map encEnt)[((0 : Int)).toNat]? = some (encEnt e)) rfl) kb_nil ?_
      refine g_v (listed' := bs 24 524287) 18 rfl (by kernel_rfl) rfl (fun _ => .on rfl rfl (.n 34 9 rfl) h33) rfl (fun _ hK => p_fieldf (fldT43_0) rfl (Ev.eq (.t .here)) rfl) kb_nil ?_
      refine g_v (listed' := bs 24 1048575) 19 rfl (by kernel_rfl) rfl (fun _ => .on rfl rfl (.n 34 10 rfl) h33) rfl (fun _ hK => p_load1f (scT9) rfl (Ev.eq (.t .here))) kb_nil ?_
      refine g_v (listed' := bs 24 2097151) 20 rfl (by kernel_rfl) rfl (fun _ => .on rfl rfl (.n 34 11 rfl) h33) rfl (fun _ hK => opv_move rfl (Ev.eq (.t (.n 5 25 rfl)))) kb_nil ?_
      refine g_v (listed' := bs 24 4194303) 21 rfl (by kernel_rfl) rfl (fun _ => .on rfl rfl (.n 34 12 rfl) h33) rfl (fun _ hK => opv_index_s Tryd.underlying9 rfl (Ev.eq (.t (.n 45 1 rfl))) (Ev.eq (.t .here)) (by omega) (by omega) rfl) kb_nil ?_
      refine g_v (listed' := bs 24 8388607) 22 rfl (by kernel_rfl) rfl (fun _ => .on rfl rfl (.n 34 13 rfl) h33) rfl (fun _ hK => opv_neq_i rfl (Ev.eq (.t (.n 41 6 rfl))) (Ev.eq (.t .here)) rfl) kb_nil ?_
      refine g_v (listed' := bs 24 16777215) 23 rfl (by kernel_rfl) rfl (fun _ => .plain rfl) rfl (fun _ hK => opv_pick_f rfl (Ev.eq (.t (.n 34 14 rfl))) h33 (Ev.eq (.t .here))) kb_nil ?_
      refine g_end (by kernel_rfl) ?_
      refine psplit (.n 48 1 rfl) (fun h48 => ?_) (fun h48 => ?_)
      ·
       have q48 := h48
       try simp only [zs, List.length_map] at q48
       refine pcond_t (.t .here) h48 ?_
       refine awp_seq ?_
       refine awp_region ?_
       refine lv (.plain rfl) rfl rfl (opv_move rfl (Ev.eq (.t (.n 5 29 rfl)))) ?_
       refine lv (.plain rfl) rfl rfl (opv_assign rfl (Ev.eq (.t .here))) ?_
       refine awpL_nil ?_
       refine awp_ret ?_
       refine ret_now (.one (rv_t .here)) (Cast.all _ _) ?_
       have hEQ2 : comR e r at' = n := by rw [← hEQ]; rcases Nat.eq_zero_or_pos (24 - n) with h0 | h0; (rw [h0, comF]); rw [show 24 - n = (24 - n - 1) + 1 by omega, comF, if_pos (by first | (simp only [stopAt, Bool.or_eq_true, decide_eq_true_eq]; left; omega) | (simp only [stopAt, Bool.or_eq_true]; right; exact List.any_eq_true.2 ⟨x, List.mem_of_getElem? hk, by simp_all [badAt] <;> omega⟩))]
       rw [hEQ2]
       exact ⟨rfl, rfl⟩
      ·
       have q48 := h48
       try simp only [zs, List.length_map] at q48
       refine pcond_f (.t .here) h48 ?_
       refine awp_skip ?_
       refine awp_region ?_
       refine lv (.plain rfl) rfl rfl (opv_move rfl (Ev.eq (.t (.n 6 30 rfl)))) ?_
       refine lv (.plain rfl) rfl rfl (opv_add rfl (Ev.eq (.t .here)) (Ev.eq .i) (wr64 (by omega) (by omega)) rfl) ?_
       refine lv (.plain rfl) rfl rfl (opv_assign rfl (Ev.eq (.t .here))) ?_
       refine awpL_nil ?_
       refine ⟨i + 1, by omega, ⟨by omega, by rw [List.take_add_one, hk, List.any_append, hI]; simp_all [badAt] <;> omega⟩, weak_both (.ce (.n 0 31 rfl) (by first | rfl | (simp; done) | (simp; omega)) (.ce (.n 5 32 rfl) (by first | rfl | (simp; done) | (simp; omega)) (.ce .here (by first | rfl | (simp; done) | (simp; omega)) .nil))) (List.Sublist.refl _)⟩
    ·
     have q23 := h23
     try simp only [zs, List.length_map] at q23
     refine pcond_f (.t .here) h23 ?_
     refine awp_exit ?_
     refine awp_region ?_
     refine lv (.plain rfl) rfl rfl (opv_move rfl (Ev.eq (.t (.n 5 5 rfl)))) ?_
     refine lv (.plain rfl) rfl rfl (opv_add rfl (Ev.eq (.t .here)) (Ev.eq .i) (wr64 (by omega) (by omega)) rfl) ?_
     refine lv (.plain rfl) rfl rfl (opv_assign rfl (Ev.eq (.t .here))) ?_
     refine awpL_nil ?_
     refine ⟨n + 1, by omega, ⟨by omega, by omega, by rw [← hEQ, show 24 - n = (24 - (n + 1)) + 1 by omega, comF, if_neg (by have hal : ((e :: r).any (badAt n e)) = false := (by rw [show i = (e :: r).length by omega, List.take_length] at hI; exact hI); simp only [stopAt, hal, Bool.or_false, decide_eq_true_eq]; omega)]⟩, weak_both (.ce (.n 0 7 rfl) (by first | rfl | (simp; done) | (simp; omega)) (.ce .here (by first | rfl | (simp; done) | (simp; omega)) .nil)) (List.Sublist.refl _)⟩
theorem runs_step {at' : Nat} {l : List Ent} {i k f : Nat} {e : Ent} (he : l[i]? = some e) (hik : i < k) (hk : k ≤ l.length) (hf : 0 < f) (hS : ∀ x, x ∈ (l.drop i).take (k - i) → sameB at' e x = true) (hstop : ∀ x, l[k]? = some x → sameB at' e x = false) :
    runs at' f (l.drop i) = (l.drop i).take (k - i) :: runs at' (f - 1) (l.drop k) := by
  obtain ⟨f, rfl⟩ : ∃ g, f = g + 1 := ⟨f - 1, by omega⟩
  have hd := drop_cons he
  have key := take_while (p := sameB at' e) (l := l.drop (i + 1)) (m := k - i - 1) (by rw [List.length_drop]; omega) (fun x hx => hS x (by rw [hd, show k - i = (k - i - 1) + 1 by omega, List.take_succ_cons]; exact List.mem_cons_of_mem _ hx)) (fun x hx => hstop x (by rw [List.getElem?_drop] at hx; rwa [show i + 1 + (k - i - 1) = k by omega] at hx))
  rw [hd, runs, key.1, key.2, List.drop_drop, show k - i = (k - i - 1) + 1 by omega, List.take_succ_cons, show i + 1 + (k - i - 1 + 1 - 1) = k by omega]
  rfl
theorem runs_len (at' : Nat) : ∀ (f : Nat) (l : List Ent), (runs at' f l).length ≤ f
  | 0, _ => by simp [runs]
  | _ + 1, [] => by simp [runs]
  | f + 1, e :: r => by have := runs_len at' f (r.dropWhile (sameB at' e)); simp only [runs, List.length_cons]; omega
theorem f76_of (l : List Ent) (at' : Nat) (F : List Ent → Trie) (hlm : l.length ≤ 1000000000) (hat : ∀ x, x ∈ l → at' < x.path.size) (hF : ∀ g, g ∈ runs at' l.length l → FSpec Tryd.prog 101 [.d (dEnts g), .d (.i .i64 (at' : Int))] (aTrie (F g))) : FSpec Tryd.prog 76 [.d (dEnts l), .d (.i .i64 (at' : Int))] (.d (.sl (encTries ((runs at' l.length l).map F)))) := by
  simp only [aTrie] at hF
  refine acalls_of Tryd.func76 rfl Tryd.ntmps76 Tryd.results76 (by simp) ?_
  refine wlen .here (fun hlen => ?_)
  simp only [List.length_map] at hlen
  refine awp_seq ?_
  refine awp_region ?_
  refine lv (.plain rfl) rfl rfl (opv_assign rfl (Ev.eq .n)) ?_
  refine awpL_nil ?_
  refine awp_seq ?_
  refine awp_region ?_
  refine lv (.plain rfl) rfl rfl (opv_assign rfl (Ev.eq .n)) ?_
  refine awpL_nil ?_
  refine awp_seq ?_
  refine awp_seq ?_
  refine awp_region ?_
  refine lv (.plain rfl) rfl rfl (opv_assign rfl (Ev.eq .i)) ?_
  refine awpL_nil ?_
  refine awp_block ?_
  refine ploop (fun (a : Nat × Nat × List (List Ent) × Acc) => ⟨47, [(0, .d (dEnts l)), (1, .d (.i .i64 (at' : Int))), (5, accV a.2.2.2), (6, .d (.i .i64 (a.1 : Int)))], accH 25 3 a.2.2.2, []⟩) (fun a => a.1 ≤ l.length ∧ l.length ≤ a.1 + a.2.1 ∧ a.2.2.1 ++ runs at' a.2.1 (l.drop a.1) = runs at' l.length l ∧ a.2.2.2.rows = cellsOf encTrie (a.2.2.1.map F)) (fun a => l.length - a.1) ((0, l.length, [], Acc.none)) (weak_both (.ce (.n 0 3 rfl) (by first | rfl | (simp; done) | (simp; omega)) (.ce (.n 1 4 rfl) (by first | rfl | (simp; done) | (simp; omega)) (.ce (.n 5 1 rfl) (by first | rfl | (simp; done) | (simp; omega)) (.ce .here (by first | rfl | (simp; done) | (simp; omega)) .nil)))) (List.Sublist.refl _)) (⟨by dsimp only; omega, by dsimp only; omega, rfl, rfl⟩) ?_
  rintro ⟨i, f, pre, acc⟩ ⟨hi, hf, hI, hacc⟩
  dsimp only at hi hf hI hacc
  refine awp_seq ?_
  refine awp_seq ?_
  refine awp_region ?_
  refine lv (.plain rfl) rfl rfl (opv_move rfl (Ev.eq (.t (.n 6 3 rfl)))) ?_
  refine lv (.plain rfl) rfl rfl (opv_move rfl (Ev.eq (.t (.n 0 1 rfl)))) ?_
  refine lv (.plain rfl) rfl rfl (opv_len_sl Tryd.underlying38 rfl (Ev.eq (.t .here)) rfl) ?_
  refine lv (.plain rfl) rfl rfl (opv_lss rfl (Ev.eq (.t (.n 8 2 rfl))) (Ev.eq (.t .here)) rfl) ?_
  refine awpL_nil ?_
  refine psplit .here (fun h11 => ?_) (fun h11 => ?_)
  ·
   have q11 := h11
   try simp only [zs, List.length_map] at q11
   refine pcond_t (.t .here) h11 ?_
   refine awp_skip ?_
   refine awp_block ?_
   refine awp_seq ?_
   refine awp_region ?_
   refine lv (.plain rfl) rfl rfl (opv_move rfl (Ev.eq (.t (.n 6 7 rfl)))) ?_
   refine lv (.plain rfl) rfl rfl (opv_assign rfl (Ev.eq (.t .here))) ?_
   refine awpL_nil ?_
   refine awp_seq ?_
   refine awp_block ?_
   obtain ⟨e, he⟩ := some_at (l := l) (i := i) (by omega)
   refine ploop (fun (k : Nat) => ⟨47, [(0, .d (dEnts l)), (1, .d (.i .i64 (at' : Int))), (5, accV acc), (6, .d (.i .i64 (i : Int))), (7, .d (.i .i64 (k : Int)))], accH 25 3 acc, []⟩) (fun k => i ≤ k ∧ k ≤ l.length ∧ ∀ x, x ∈ (l.drop i).take (k - i) → sameB at' e x = true) (fun k => l.length - k) (i) (weak_both (.ce (.n 0 6 rfl) (by first | rfl | (simp; done) | (simp; omega)) (.ce (.n 1 7 rfl) (by first | rfl | (simp; done) | (simp; omega)) (.ce (.n 5 8 rfl) (by first | rfl | (simp; done) | (simp; omega)) (.ce (.n 6 9 rfl) (by first | rfl | (simp; done) | (simp; omega)) (.ce .here (by first | rfl | (simp; done) | (simp; omega)) .nil))))) (List.Sublist.refl _)) (⟨by omega, by omega, by simp⟩) ?_
   rintro k ⟨hk1, hk2, hS⟩
   refine awp_seq ?_
   refine awp_seq ?_
   refine g_draw mixed kb_nil (by kernel_rfl) (fuel := 21) rfl rfl ?_
   refine g_v (listed' := bs 21 1) 0 rfl (by kernel_rfl) rfl (fun _ => .plain rfl) rfl (fun _ hK => opv_move rfl (Ev.eq (.t (.n 7 4 rfl)))) kb_nil ?_
   refine g_v (listed' := bs 21 3) 1 rfl (by kernel_rfl) rfl (fun _ => .plain rfl) rfl (fun _ hK => opv_move rfl (Ev.eq (.t (.n 0 1 rfl)))) kb_nil ?_
   refine g_v (listed' := bs 21 7) 2 rfl (by kernel_rfl) rfl (fun _ => .plain rfl) rfl (fun _ hK => opv_len_sl Tryd.underlying38 rfl (Ev.eq (.t .here)) rfl) kb_nil ?_
   refine g_v (listed' := bs 21 15) 3 rfl (by kernel_rfl) rfl (fun _ => .plain rfl) rfl (fun _ hK => opv_lss rfl (Ev.eq (.t (.n 13 2 rfl))) (Ev.eq (.t .here)) rfl) kb_nil ?_
   refine g_v (listed' := bs 21 31) 4 rfl (by kernel_rfl) rfl (fun _ => .plain rfl) rfl (fun _ hK => opv_move rfl (Ev.eq (.t .here))) kb_nil ?_
   refine gsplit (.n 16 1 rfl) (fun h16 => ?_) (fun h16 => ?_)
   ·
    have q16 := h16
    try simp only [zs, List.length_map] at q16
    obtain ⟨x, hx⟩ := some_at (l := l) (i := k) (by omega)
    refine g_v (listed' := bs 21 63) 5 rfl (by kernel_rfl) rfl (fun _ => .on rfl rfl .here h16) rfl (fun _ hK => opv_move rfl (Ev.eq (.t (.n 0 5 rfl)))) kb_nil ?_
    refine g_v (listed' := bs 21 127) 6 rfl (by kernel_rfl) rfl (fun _ => .on rfl rfl (.n 17 1 rfl) h16) rfl (fun _ hK => opv_move rfl (Ev.eq (.t (.n 7 10 rfl)))) kb_nil ?_
    refine g_v (listed' := bs 21 255) 7 rfl (by kernel_rfl) rfl (fun _ => .on rfl rfl (.n 17 2 rfl) h16) rfl (fun _ hK => p_index (slT38) rfl (Ev.eq (.t (.n 18 1 rfl))) (Ev.eq (.t .here)) (by omega) (by first | assumption | exact map_at (by assumption) | exact encTries_at (by assumption)) rfl) kb_nil ?_
    refine g_v (listed' := bs 21 511) 8 rfl (by kernel_rfl) rfl (fun _ => .on rfl rfl (.n 17 3 rfl) h16) rfl (fun _ hK => p_fieldf (fldT43_0) rfl (Ev.eq (.t .here)) rfl) kb_nil ?_
    refine g_v (listed' := bs 21 1023) 9 rfl (by kernel_rfl) rfl (fun _ => .on rfl rfl (.n 17 4 rfl) h16) rfl (fun _ hK => p_load1f (scT9) rfl (Ev.eq (.t .here))) kb_nil ?_
    refine g_v (listed' := bs 21 2047) 10 rfl (by kernel_rfl) rfl (fun _ => .on rfl rfl (.n 17 5 rfl) h16) rfl (fun _ hK => opv_move rfl (Ev.eq (.t (.n 1 11 rfl)))) kb_nil ?_
    refine g_v (listed' := bs 21 4095) 11 rfl (by kernel_rfl) rfl (fun _ => .on rfl rfl (.n 17 6 rfl) h16) rfl (fun _ hK => opv_index_s Tryd.underlying9 rfl (Ev.eq (.t (.n 22 1 rfl))) (Ev.eq (.t .here)) (by omega) (by have := hat _ (List.mem_of_getElem? hx); omega) rfl) kb_nil ?_
    refine g_v (listed' := bs 21 8191) 12 rfl (by kernel_rfl) rfl (fun _ => .on rfl rfl (.n 17 7 rfl) h16) rfl (fun _ hK => opv_move rfl (Ev.eq (.t (.n 0 12 rfl)))) kb_nil ?_
    refine g_v (listed' := bs 21 16383) 13 rfl (by kernel_rfl) rfl (fun _ => .on rfl rfl (.n 17 8 rfl) h16) rfl (fun _ hK => opv_move rfl (Ev.eq (.t (.n 6 16 rfl)))) kb_nil ?_
    refine g_v (listed' := bs 21 32767) 14 rfl (by kernel_rfl) rfl (fun _ => .on rfl rfl (.n 17 9 rfl) h16) rfl (fun _ hK => p_index (slT38) rfl (Ev.eq (.t (.n 25 1 rfl))) (Ev.eq (.t .here)) (by omega) (by first | assumption | exact map_at (by assumption) | exact encTries_at (by assumption)) rfl) kb_nil ?_
    refine g_v (listed' := bs 21 65535) 15 rfl (by kernel_rfl) rfl (fun _ => .on rfl rfl (.n 17 10 rfl) h16) rfl (fun _ hK => p_fieldf (fldT43_0) rfl (Ev.eq (.t .here)) rfl) kb_nil ?_
    refine g_v (listed' := bs 21 131071) 16 rfl (by kernel_rfl) rfl (fun _ => .on rfl rfl (.n 17 11 rfl) h16) rfl (fun _ hK => p_load1f (scT9) rfl (Ev.eq (.t .here))) kb_nil ?_
    refine g_v (listed' := bs 21 262143) 17 rfl (by kernel_rfl) rfl (fun _ => .on rfl rfl (.n 17 12 rfl) h16) rfl (fun _ hK => opv_move rfl (Ev.eq (.t (.n 1 18 rfl)))) kb_nil ?_
    refine g_v (listed' := bs 21 524287) 18 rfl (by kernel_rfl) rfl (fun _ => .on rfl rfl (.n 17 13 rfl) h16) rfl (fun _ hK => opv_index_s Tryd.underlying9 rfl (Ev.eq (.t (.n 29 1 rfl))) (Ev.eq (.t .here)) (by omega) (by have := hat _ (List.mem_of_getElem? he); omega) rfl) kb_nil ?_
    refine g_v (listed' := bs 21 1048575) 19 rfl (by kernel_rfl) rfl (fun _ => .on rfl rfl (.n 17 14 rfl) h16) rfl (fun _ hK => opv_eql_i rfl (Ev.eq (.t (.n 24 7 rfl))) (Ev.eq (.t .here)) rfl) kb_nil ?_
    refine g_v (listed' := bs 21 2097151) 20 rfl (by kernel_rfl) rfl (fun _ => .plain rfl) rfl (fun _ hK => opv_pick_t rfl (Ev.eq (.t (.n 17 15 rfl))) h16 (Ev.eq (.t .here))) kb_nil ?_
    refine g_end (by kernel_rfl) ?_
    refine psplit (.n 32 1 rfl) (fun h32 => ?_) (fun h32 => ?_)
    ·
     have q32 := h32
     try simp only [zs, List.length_map] at q32
     refine pcond_t (.t .here) h32 ?_
     refine awp_skip ?_
     refine awp_block ?_
     refine awp_region ?_
     refine lv (.plain rfl) rfl rfl (opv_move rfl (Ev.eq (.t (.n 7 25 rfl)))) ?_
     refine lv (.plain rfl) rfl rfl (opv_add rfl (Ev.eq (.t .here)) (Ev.eq .i) (wr64 (by omega) (by omega)) rfl) ?_
     refine lv (.plain rfl) rfl rfl (opv_assign rfl (Ev.eq (.t .here))) ?_
     refine awpL_nil ?_
     refine ⟨k + 1, by omega, ⟨by omega, by omega, fun y hy => by rw [show k + 1 - i = (k - i) + 1 by omega, List.take_add_one, List.getElem?_drop, show i + (k - i) = k by omega, hx] at hy; rcases List.mem_append.1 hy with hy | hy; exact hS y hy; (simp at hy; subst hy; simp_all [sameB])⟩, weak_both (.ce (.n 0 24 rfl) (by first | rfl | (simp; done) | (simp; omega)) (.ce (.n 1 25 rfl) (by first | rfl | (simp; done) | (simp; omega)) (.ce (.n 5 26 rfl) (by first | rfl | (simp; done) | (simp; omega)) (.ce (.n 6 27 rfl) (by first | rfl | (simp; done) | (simp; omega)) (.ce .here (by first | rfl | (simp; done) | (simp; omega)) .nil))))) (List.Sublist.refl _)⟩
    ·
     have q32 := h32
     try simp only [zs, List.length_map] at q32
     refine pcond_f (.t .here) h32 ?_
     refine awp_exit ?_
     refine awp_seq ?_
     refine awp_region ?_
     have hik : i < k := by rcases Nat.lt_or_ge i k with h0 | h0; exact h0; (exfalso; obtain rfl : k = i := (by omega); first | omega | (rw [he] at hx; injection hx with hx; subst hx; simp_all))
     have hstop : ∀ x, l[k]? = some x → sameB at' e x = false := fun y hy => by have hyl := (List.getElem?_eq_some_iff.1 hy).1; first | omega | (rw [hx] at hy; injection hy with hy; subst hy; simp_all [sameB])
     have hrun : runs at' f (l.drop i) = (l.drop i).take (k - i) :: runs at' (f - 1) (l.drop k) := runs_step he hik hk2 (by omega) hS hstop
     have hgm : (l.drop i).take (k - i) ∈ runs at' l.length l := by rw [← hI, hrun]; exact List.mem_append_right _ (List.mem_cons_self ..)
     have hpl : (runs at' l.length l).length ≤ l.length := runs_len _ _ _
     have hpl2 : pre.length < l.length := by rw [← hI, hrun] at hpl; simp at hpl; omega
     refine lv (.plain rfl) rfl rfl (opv_move rfl (Ev.eq (.t (.n 5 23 rfl)))) ?_
     refine lv (.plain rfl) rfl rfl (opv_move rfl (Ev.eq (.t (.n 0 22 rfl)))) ?_
     refine lv (.plain rfl) rfl rfl (opv_move rfl (Ev.eq (.t (.n 6 26 rfl)))) ?_
     refine lv (.plain rfl) rfl rfl (opv_move rfl (Ev.eq (.t (.n 7 28 rfl)))) ?_
     refine lv (.plain rfl) rfl rfl (p_slice_f slT38 rfl (Ev.eq (.t (.n 37 2 rfl))) ⟨_, (Ev.eq (.t (.n 38 1 rfl)))⟩ ⟨_, (Ev.eq (.t .here))⟩ (l := (i : Int)) (u := (k : Int)) (ys := ((l.drop i).take (k - i)).map encEnt) (by omega) (by omega) (by simp; omega) (by intro q hq; obtain ⟨e, _, rfl⟩ := List.mem_map.1 hq; rfl) (by simp [List.map_drop, List.map_take])) ?_
     refine lv (.plain rfl) rfl rfl (opv_move rfl (Ev.eq (.t (.n 1 27 rfl)))) ?_
     refine lv (.plain rfl) rfl rfl (q_call rfl .f Tryd.call101 (.cons (.t (.n 40 1 rfl)) (.cons (.t .here) .nil)) rfl (hF _ hgm)) ?_
     refine l_xd (.plain rfl) rfl rfl (x_buildSlice (cs := [_, _, _]) (rows := [[_, _, _]]) slT23 slZ23_1 rfl rfl rfl (.cons (.t .here) .nil) rfl rfl rfl rfl rfl) ?_
     rintro _ _ ⟨g5, ng5, rfl, rfl⟩
     refine l_xd (.plain rfl) rfl rfl (x_append (acc := acc) (rows := [_]) (hf := [_]) apT23 rfl (.t (.n 36 7 rfl)) (.t .here) rfl (.head _) rfl rfl (by rw [hacc]; simp only [cellsOf_len, List.length_map, List.length_cons, List.length_nil]; omega)) ?_
     rintro _ _ ⟨acc6, hacc6, rfl, rfl⟩
     dsimp only [List.cons_append, List.nil_append]
     refine lv (.plain rfl) rfl rfl (opv_assign rfl (Ev.eq (.t .here))) ?_
     refine awpL_nil ?_
     refine awp_region ?_
     refine lv (.plain rfl) rfl rfl (opv_move rfl (Ev.eq (.t (.n 7 35 rfl)))) ?_
     refine lv (.plain rfl) rfl rfl (opv_assign rfl (Ev.eq (.t .here))) ?_
     refine awpL_nil ?_
     refine ⟨(k, f - 1, pre ++ [(l.drop i).take (k - i)], acc6), by dsimp only; omega, ⟨by dsimp only; omega, by dsimp only; omega, by dsimp only; rw [← hI, hrun, List.append_assoc]; rfl, by dsimp only; rw [hacc6, hacc, List.map_append, cellsOf_append]; simp [cellsOf, encTrie_eta]⟩, weak_both (.ce (.n 0 33 rfl) (by first | rfl | (simp; done) | (simp; omega)) (.ce (.n 1 34 rfl) (by first | rfl | (simp; done) | (simp; omega)) (.ce (.n 5 2 rfl) (by first | rfl | (simp; done) | (simp; omega)) (.ce .here (by first | rfl | (simp; done) | (simp; omega)) .nil)))) (.cons _ (List.Sublist.refl _))⟩
   ·
    have q16 := h16
    try simp only [zs, List.length_map] at q16
    refine g_o (listed' := bs 21 63) 5 rfl (by kernel_rfl) rfl (fun _ => .off rfl rfl .here h16) rfl kb_nil ?_
    refine g_o (listed' := bs 21 127) 6 rfl (by kernel_rfl) rfl (fun _ => .off rfl rfl (.n 17 1 rfl) h16) rfl kb_nil ?_
    refine g_o (listed' := bs 21 255) 7 rfl (by kernel_rfl) rfl (fun _ => .off rfl rfl (.n 17 2 rfl) h16) rfl kb_nil ?_
    refine g_o (listed' := bs 21 511) 8 rfl (by kernel_rfl) rfl (fun _ => .off rfl rfl (.n 17 3 rfl) h16) rfl kb_nil ?_
    refine g_o (listed' := bs 21 1023) 9 rfl (by kernel_rfl) rfl (fun _ => .off rfl rfl (.n 17 4 rfl) h16) rfl kb_nil ?_
    refine g_o (listed' := bs 21 2047) 10 rfl (by kernel_rfl) rfl (fun _ => .off rfl rfl (.n 17 5 rfl) h16) rfl kb_nil ?_
    refine g_o (listed' := bs 21 4095) 11 rfl (by kernel_rfl) rfl (fun _ => .off rfl rfl (.n 17 6 rfl) h16) rfl kb_nil ?_
    refine g_o (listed' := bs 21 8191) 12 rfl (by kernel_rfl) rfl (fun _ => .off rfl rfl (.n 17 7 rfl) h16) rfl kb_nil ?_
    refine g_o (listed' := bs 21 16383) 13 rfl (by kernel_rfl) rfl (fun _ => .off rfl rfl (.n 17 8 rfl) h16) rfl kb_nil ?_
    refine g_o (listed' := bs 21 32767) 14 rfl (by kernel_rfl) rfl (fun _ => .off rfl rfl (.n 17 9 rfl) h16) rfl kb_nil ?_
    refine g_o (listed' := bs 21 65535) 15 rfl (by kernel_rfl) rfl (fun _ => .off rfl rfl (.n 17 10 rfl) h16) rfl kb_nil ?_
    refine g_o (listed' := bs 21 131071) 16 rfl (by kernel_rfl) rfl (fun _ => .off rfl rfl (.n 17 11 rfl) h16) rfl kb_nil ?_
    refine g_o (listed' := bs 21 262143) 17 rfl (by kernel_rfl) rfl (fun _ => .off rfl rfl (.n 17 12 rfl) h16) rfl kb_nil ?_
    refine g_o (listed' := bs 21 524287) 18 rfl (by kernel_rfl) rfl (fun _ => .off rfl rfl (.n 17 13 rfl) h16) rfl kb_nil ?_
    refine g_o (listed' := bs 21 1048575) 19 rfl (by kernel_rfl) rfl (fun _ => .off rfl rfl (.n 17 14 rfl) h16) rfl kb_nil ?_
    refine g_v (listed' := bs 21 2097151) 20 rfl (by kernel_rfl) rfl (fun _ => .plain rfl) rfl (fun _ hK => opv_pick_f rfl (Ev.eq (.t (.n 17 15 rfl))) h16 (Ev.eq .b)) kb_nil ?_
    refine g_end (by kernel_rfl) ?_
    refine pcond_f (.t .here) rfl ?_
    refine awp_exit ?_
    refine awp_seq ?_
    refine awp_region ?_
    have hik : i < k := by rcases Nat.lt_or_ge i k with h0 | h0; exact h0; (exfalso; obtain rfl : k = i := (by omega); first | omega | (rw [he] at hx; injection hx with hx; subst hx; simp_all))
    have hstop : ∀ x, l[k]? = some x → sameB at' e x = false := fun y hy => by have hyl := (List.getElem?_eq_some_iff.1 hy).1; first | omega | (rw [hx] at hy; injection hy with hy; subst hy; simp_all [sameB])
    have hrun : runs at' f (l.drop i) = (l.drop i).take (k - i) :: runs at' (f - 1) (l.drop k) := runs_step he hik hk2 (by omega) hS hstop
    have hgm : (l.drop i).take (k - i) ∈ runs at' l.length l := by rw [← hI, hrun]; exact List.mem_append_right _ (List.mem_cons_self ..)
    have hpl : (runs at' l.length l).length ≤ l.length := runs_len _ _ _
    have hpl2 : pre.length < l.length := by rw [← hI, hrun] at hpl; simp at hpl; omega
    refine lv (.plain rfl) rfl rfl (opv_move rfl (Ev.eq (.t (.n 5 23 rfl)))) ?_
    refine lv (.plain rfl) rfl rfl (opv_move rfl (Ev.eq (.t (.n 0 22 rfl)))) ?_
    refine lv (.plain rfl) rfl rfl (opv_move rfl (Ev.eq (.t (.n 6 26 rfl)))) ?_
    refine lv (.plain rfl) rfl rfl (opv_move rfl (Ev.eq (.t (.n 7 28 rfl)))) ?_
    refine lv (.plain rfl) rfl rfl (p_slice_f slT38 rfl (Ev.eq (.t (.n 37 2 rfl))) ⟨_, (Ev.eq (.t (.n 38 1 rfl)))⟩ ⟨_, (Ev.eq (.t .here))⟩ (l := (i : Int)) (u := (k : Int)) (ys := ((l.drop i).take (k - i)).map encEnt) (by omega) (by omega) (by simp; omega) (by intro q hq; obtain ⟨e, _, rfl⟩ := List.mem_map.1 hq; rfl) (by simp [List.map_drop, List.map_take])) ?_
    refine lv (.plain rfl) rfl rfl (opv_move rfl (Ev.eq (.t (.n 1 27 rfl)))) ?_
    refine lv (.plain rfl) rfl rfl (q_call rfl .f Tryd.call101 (.cons (.t (.n 40 1 rfl)) (.cons (.t .here) .nil)) rfl (hF _ hgm)) ?_
    refine l_xd (.plain rfl) rfl rfl (x_buildSlice (cs := [_, _, _]) (rows := [[_, _, _]]) slT23 slZ23_1 rfl rfl rfl (.cons (.t .here) .nil) rfl rfl rfl rfl rfl) ?_
    rintro _ _ ⟨g7, ng7, rfl, rfl⟩
    refine l_xd (.plain rfl) rfl rfl (x_append (acc := acc) (rows := [_]) (hf := [_]) apT23 rfl (.t (.n 36 7 rfl)) (.t .here) rfl (.head _) rfl rfl (by rw [hacc]; simp only [cellsOf_len, List.length_map, List.length_cons, List.length_nil]; omega)) ?_
    rintro _ _ ⟨acc8, hacc8, rfl, rfl⟩
    dsimp only [List.cons_append, List.nil_append]
    refine lv (.plain rfl) rfl rfl (opv_assign rfl (Ev.eq (.t .here))) ?_
    refine awpL_nil ?_
    refine awp_region ?_
    refine lv (.plain rfl) rfl rfl (opv_move rfl (Ev.eq (.t (.n 7 35 rfl)))) ?_
    refine lv (.plain rfl) rfl rfl (opv_assign rfl (Ev.eq (.t .here))) ?_
    refine awpL_nil ?_
    refine ⟨(k, f - 1, pre ++ [(l.drop i).take (k - i)], acc8), by dsimp only; omega, ⟨by dsimp only; omega, by dsimp only; omega, by dsimp only; rw [← hI, hrun, List.append_assoc]; rfl, by dsimp only; rw [hacc8, hacc, List.map_append, cellsOf_append]; simp [cellsOf, encTrie_eta]⟩, weak_both (.ce (.n 0 33 rfl) (by first | rfl | (simp; done) | (simp; omega)) (.ce (.n 1 34 rfl) (by first | rfl | (simp; done) | (simp; omega)) (.ce (.n 5 2 rfl) (by first | rfl | (simp; done) | (simp; omega)) (.ce .here (by first | rfl | (simp; done) | (simp; omega)) .nil)))) (.cons _ (List.Sublist.refl _))⟩
  ·
   have q11 := h11
   try simp only [zs, List.length_map] at q11
   refine pcond_f (.t .here) h11 ?_
   refine awp_exit ?_
   refine awp_seq ?_
   refine awp_region ?_
   refine lv (.plain rfl) rfl rfl (opv_move rfl (Ev.eq (.t (.n 5 6 rfl)))) ?_
   refine lv (.plain rfl) rfl rfl (opv_assign rfl (Ev.eq (.t .here))) ?_
   refine awpL_nil ?_
   refine awp_ret ?_
   obtain rfl : i = l.length := by omega
   rw [List.drop_length, show runs at' f [] = [] by cases f <;> rfl, List.append_nil] at hI
   subst hI
   refine ret_now (.one (rv_t .here)) (Cast.frz0 (frz_acc (e := 25) (sz := 3) (xs := encTries ((runs at' l.length l).map F)) (fun q hq => hq) (by rw [hacc, encTries_eq]; rfl))) ?_
   exact ⟨rfl, rfl⟩
theorem f101_of (e : Ent) (r : List Ent) (at' : Nat) (K : List Trie) (ha : at' ≤ 24) (hn : comR e r at' ≤ e.path.size) (hb : FSpec Tryd.prog 76 [.d (dEnts (restOf e r (comR e r at'))), .d (.i .i64 (comR e r at' : Nat))] (.d (.sl (encTries K)))) :
    FSpec Tryd.prog 101 [.d (dEnts (e :: r)), .d (.i .i64 (at' : Int))] (aTrie (.mk (e.path.extract at' (comR e r at')) (if e.path.size = comR e r at' then e.rows else []) K)) := by
  refine acalls_of Tryd.func101 rfl Tryd.ntmps101 Tryd.results101 (by simp) ?_
  refine wlen .here (fun hlen => ?_)
  simp only [List.length_map] at hlen
  have hcb := comF_bd e (e :: r) (24 - at') at'
  change at' ≤ comR e r at' ∧ comR e r at' ≤ at' + (24 - at') at hcb
  refine awp_seq ?_
  refine awp_region ?_
  refine l_alloc zT25 (.plain rfl) rfl rfl rfl (fun g1 ng1 => ?_)
  refine awpL_nil ?_
  refine awp_seq ?_
  refine awp_region ?_
  refine lv (.plain rfl) rfl rfl (opv_move rfl (Ev.eq (.t (.n 0 1 rfl)))) ?_
  refine lv (.plain rfl) rfl rfl (opv_move rfl (Ev.eq (.t (.n 1 3 rfl)))) ?_
  refine lv (.plain rfl) rfl rfl (q_call rfl .f Tryd.call119 (.cons (.t (.n 8 1 rfl)) (.cons (.t .here) .nil)) rfl (f119_spec e r at' ha)) ?_
  refine lv (.plain rfl) rfl rfl (opv_assign rfl (Ev.eq (.t .here))) ?_
  refine awpL_nil ?_
  refine awp_seq ?_
  refine awp_region ?_
  refine lv (.plain rfl) rfl rfl (opv_move rfl (Ev.eq (.t (.n 0 5 rfl)))) ?_
  refine lv (.plain rfl) rfl rfl (p_index (slT38) rfl (Ev.eq (.t .here)) (Ev.eq .i) (by omega) (rfl : ((e :: r).map encEnt)[((0 : Int)).toNat]? = some (encEnt e)) rfl) ?_
  refine lv (.plain rfl) rfl rfl (p_fieldf (fldT43_0) rfl (Ev.eq (.t .here)) rfl) ?_
  refine lv (.plain rfl) rfl rfl (p_load1f (scT9) rfl (Ev.eq (.t .here))) ?_
  refine lv (.plain rfl) rfl rfl (opv_move rfl (Ev.eq (.t (.n 1 10 rfl)))) ?_
  refine lv (.plain rfl) rfl rfl (opv_move rfl (Ev.eq (.t (.n 5 5 rfl)))) ?_
  refine lv (.plain rfl) rfl rfl (opv_slice_s Tryd.underlying9 rfl (Ev.eq (.t (.n 14 2 rfl))) ⟨_, (Ev.eq (.t (.n 15 1 rfl)))⟩ ⟨_, (Ev.eq (.t .here))⟩ (by omega) (by omega) (by omega) rfl) ?_
  refine lv (.plain rfl) rfl rfl (p_build (bldT25) rfl (.cons (.t .here) .nil) (by simp [AV.cs, AV.one]) (cs := [_, _, _]) rfl) ?_
  refine l_alloc zT25 (.plain rfl) rfl rfl rfl (fun g2 ng2 => ?_)
  refine l_storen Tryd.sizeOf25 (.plain rfl) rfl rfl (.t .here) (.t (.n 18 1 rfl)) rfl rfl rfl .here ?_
  refine awpL_nil ?_
  refine awp_seq ?_
  refine awp_region ?_
  refine lv (.plain rfl) rfl rfl (opv_move rfl (Ev.eq (.t (.n 0 14 rfl)))) ?_
  refine lv (.plain rfl) rfl rfl (opv_assign rfl (Ev.eq (.t .here))) ?_
  refine awpL_nil ?_
  refine awp_seq ?_
  refine awp_seq ?_
  refine awp_region ?_
  refine lv (.plain rfl) rfl rfl (opv_move rfl (Ev.eq (.t (.n 0 16 rfl)))) ?_
  refine lv (.plain rfl) rfl rfl (p_index (slT38) rfl (Ev.eq (.t .here)) (Ev.eq .i) (by omega) (rfl : ((e :: r).map encEnt)[((0 : Int)).toNat]? = some (encEnt e)) rfl) ?_
  refine lv (.plain rfl) rfl rfl (p_fieldf (fldT43_0) rfl (Ev.eq (.t .here)) rfl) ?_
  refine lv (.plain rfl) rfl rfl (p_load1f (scT9) rfl (Ev.eq (.t .here))) ?_
  refine lv (.plain rfl) rfl rfl (opv_len_s Tryd.underlying9 rfl (Ev.eq (.t .here)) rfl) ?_
  refine lv (.plain rfl) rfl rfl (opv_move rfl (Ev.eq (.t (.n 5 16 rfl)))) ?_
  refine lv (.plain rfl) rfl rfl (opv_eql_i rfl (Ev.eq (.t (.n 24 1 rfl))) (Ev.eq (.t .here)) rfl) ?_
  refine awpL_nil ?_
  refine psplit .here (fun h26 => ?_) (fun h26 => ?_)
  ·
   have q26 := h26
   try simp only [zs, List.length_map] at q26
   refine pcond_t (.t .here) h26 ?_
   refine awp_seq ?_
   refine awp_region ?_
   refine lv (.plain rfl) rfl rfl (opv_move rfl (Ev.eq (.t (.n 0 23 rfl)))) ?_
   refine lv (.plain rfl) rfl rfl (p_index (slT38) rfl (Ev.eq (.t .here)) (Ev.eq .i) (by omega) (rfl : ((e :: r).map encEnt)[((0 : Int)).toNat]? = some (encEnt e)) rfl) ?_
   refine lv (.plain rfl) rfl rfl (p_fieldf (fldT43_1) rfl (Ev.eq (.t .here)) rfl) ?_
   refine lv (.plain rfl) rfl rfl (p_load1f (scT22) rfl (Ev.eq (.t .here))) ?_
   refine lv (.plain rfl) rfl rfl (p_field (fldT25_1) rfl (Ev.eq (.t (.n 6 13 rfl))) (off' := 1) rfl) ?_
   refine l_store1 Tryd.sizeOf22 (.plain rfl) rfl rfl (.t .here) (.t (.n 30 1 rfl)) rfl (.there .here) .here ?_
   refine awpL_nil ?_
   refine awp_region ?_
   refine lv (.plain rfl) rfl rfl (opv_move rfl (Ev.eq (.t (.n 0 28 rfl)))) ?_
   refine lv (.plain rfl) rfl rfl (p_slice_f slT38 rfl (Ev.eq (.t .here)) ⟨_, (Ev.eq .i)⟩ rfl (l := (1 : Int)) (u := ((e :: r).map encEnt).length) (ys := r.map encEnt) (by omega) (by simp; omega) (by simp) (by intro q hq; obtain ⟨e, _, rfl⟩ := List.mem_map.1 hq; rfl) (by simp [List.take_of_length_le])) ?_
   refine lv (.plain rfl) rfl rfl (opv_assign rfl (Ev.eq (.t .here))) ?_
   refine awpL_nil ?_
   refine awp_seq ?_
   refine awp_region ?_
   refine lv (.plain rfl) rfl rfl (opv_move rfl (Ev.eq (.t .here))) ?_
   refine lv (.plain rfl) rfl rfl (opv_move rfl (Ev.eq (.t (.n 5 27 rfl)))) ?_
   refine lv (.plain rfl) rfl rfl (q_call rfl .f Tryd.call76 (.cons (.t (.n 34 1 rfl)) (.cons (.t .here) .nil)) rfl ((by first | (rw [restOf, if_pos (by omega)] at hb; exact hb) | (rw [restOf, if_neg (by omega)] at hb; exact hb)))) ?_
   refine lv (.plain rfl) rfl rfl (p_field (fldT25_2) rfl (Ev.eq (.t (.n 6 20 rfl))) (off' := 2) rfl) ?_
   refine l_store1 Tryd.sizeOf23 (.plain rfl) rfl rfl (.t .here) (.t (.n 36 1 rfl)) rfl (.there (.there .here)) .here ?_
   refine awpL_nil ?_
   refine awp_seq ?_
   refine awp_region ?_
   refine lv (.plain rfl) rfl rfl (q_loadn (agT25) rfl (Ev.eq (.t (.n 6 21 rfl))) .here rfl) ?_
   refine l_storen Tryd.sizeOf25 (.plain rfl) rfl rfl (.t (.n 4 35 rfl)) (.t .here) rfl rfl rfl (.there .here) ?_
   refine awpL_nil ?_
   refine awp_ret ?_
   refine ret_now (.one (rv_c (agT25) (.n 4 35 rfl) (.there .here) rfl)) (Cast.frz0 (.agg (.cons .refl (.cons .refl (.cons .refl .nil))))) ?_
   refine ⟨?_, rfl⟩
   simp only [aTrie, Trie.label, Trie.rows, Trie.kids]
   first | rw [if_pos (by omega)] | rw [if_neg (by omega)]
   simp [dRows]
  ·
   have q26 := h26
   try simp only [zs, List.length_map] at q26
   refine pcond_f (.t .here) h26 ?_
   refine awp_skip ?_
   refine awp_seq ?_
   refine awp_region ?_
   refine lv (.plain rfl) rfl rfl (opv_move rfl (Ev.eq (.t (.n 7 7 rfl)))) ?_
   refine lv (.plain rfl) rfl rfl (opv_move rfl (Ev.eq (.t (.n 5 19 rfl)))) ?_
   refine lv (.plain rfl) rfl rfl (q_call rfl .f Tryd.call76 (.cons (.t (.n 34 1 rfl)) (.cons (.t .here) .nil)) rfl ((by first | (rw [restOf, if_pos (by omega)] at hb; exact hb) | (rw [restOf, if_neg (by omega)] at hb; exact hb)))) ?_
   refine lv (.plain rfl) rfl rfl (p_field (fldT25_2) rfl (Ev.eq (.t (.n 6 12 rfl))) (off' := 2) rfl) ?_
   refine l_store1 Tryd.sizeOf23 (.plain rfl) rfl rfl (.t .here) (.t (.n 36 1 rfl)) rfl (.there (.there .here)) .here ?_
   refine awpL_nil ?_
   refine awp_seq ?_
   refine awp_region ?_
   refine lv (.plain rfl) rfl rfl (q_loadn (agT25) rfl (Ev.eq (.t (.n 6 13 rfl))) .here rfl) ?_
   refine l_storen Tryd.sizeOf25 (.plain rfl) rfl rfl (.t (.n 4 27 rfl)) (.t .here) rfl rfl rfl (.there .here) ?_
   refine awpL_nil ?_
   refine awp_ret ?_
   refine ret_now (.one (rv_c (agT25) (.n 4 27 rfl) (.there .here) rfl)) (Cast.frz0 (.agg (.cons .refl (.cons .nil (.cons .refl .nil))))) ?_
   refine ⟨?_, rfl⟩
   simp only [aTrie, Trie.label, Trie.rows, Trie.kids]
   first | rw [if_pos (by omega)] | rw [if_neg (by omega)]
   simp [dRows]
end Go.Proofs.YtjnkbmodcddbkaaDoor
