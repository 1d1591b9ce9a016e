/- Places; functions handed in. -/
import Derived.Test.YtjnkbmodcddbkaaDoorTy
import Derived.Test.YtjnkbmodcddbkaaDoorS4
set_option linter.unusedVariables false
set_option linter.unusedSimpArgs false
namespace Go.Proofs.YtjnkbmodcddbkaaDoor
open Go Go.RowKit
theorem f71_spec (t : Trie) : FSpec Tryd.prog 71 [aTrie t] (.d (.b (!rightB t))) := by
  obtain ⟨l, r, ks⟩ := t
  simp only [aTrie, Trie.label, Trie.rows, Trie.kids]
  refine acalls_of Tryd.func71 rfl Tryd.ntmps71 Tryd.results71 (by simp) ?_
  refine awp_seq ?_
  refine awp_region ?_
  refine l_box (.plain rfl) rfl rfl rfl (.t .here) rfl rfl (fun g1 ng1 => ?_)
  refine lv (.plain rfl) rfl rfl (opv_assign rfl (Ev.eq .b)) ?_
  refine awpL_nil ?_
  refine awp_seq ?_
  refine awp_region ?_
  refine lv (.plain rfl) rfl rfl (q_loadn (agT25) rfl (Ev.eq (.t (.n 1 1 rfl))) .here rfl) ?_
  refine lv (.plain rfl) rfl rfl (q_call rfl .f Tryd.call15 (.cons (.t .here) .nil) rfl (f15_spec (.mk l r ks))) ?_
  refine lv (.plain rfl) rfl rfl (opv_neq_i rfl (Ev.eq (.t .here)) (Ev.eq .i) rfl) ?_
  refine lv (.plain rfl) rfl rfl (opv_assign rfl (Ev.eq (.t .here))) ?_
  refine awpL_nil ?_
  refine awp_ret ?_
  refine ret_now (.one (rv_t .here)) (Cast.all _ _) ?_
  refine ⟨congrArg (fun x => AV.d (D.b x)) ?_, rfl⟩
  cases rightB (.mk l r ks) <;> rfl
def badE (e : Ent) : Bool := !(decide (¬ e.path = ⟨#[]⟩ ∧ e.path.size ≤ 24) && !decide (e.rows = []) && rowsB e.rows)
def aEnt (e : Ent) : AV := .agg [.d (.s e.path), .d (dRows e.rows)]
theorem f64_spec (e : Ent) : FSpec Tryd.prog 64 [aEnt e] (.d (.b (badE e))) := by
  obtain ⟨p, r⟩ := e
  simp only [aEnt]
  refine acalls_of Tryd.func64 rfl Tryd.ntmps64 Tryd.results64 (by simp) ?_
  refine awp_seq ?_
  refine awp_region ?_
  refine l_box (.plain rfl) rfl rfl rfl (.t .here) rfl rfl (fun g1 ng1 => ?_)
  refine lv (.plain rfl) rfl rfl (opv_assign rfl (Ev.eq .b)) ?_
  refine awpL_nil ?_
  refine awp_seq ?_
  refine awp_region ?_
  refine lv (.plain rfl) rfl rfl (p_field (fldT43_0) rfl (Ev.eq (.t (.n 1 1 rfl))) (off' := 0) rfl) ?_
  refine lv (.plain rfl) rfl rfl (q_load1 (scT9) rfl (Ev.eq (.t .here)) .here .here) ?_
  refine lv (.plain rfl) rfl rfl (q_call rfl .f Tryd.call56 (.cons (.t .here) .nil) rfl (f56_spec _)) ?_
  refine lv (.plain rfl) rfl rfl (opv_not rfl (Ev.eq (.t .here)) rfl) ?_
  refine lv (.plain rfl) rfl rfl (opv_move rfl (Ev.eq (.t .here))) ?_
  refine lsplit (.n 5 2 rfl) (fun h5 => ?_) (fun h5 => ?_)
  ·
   have q5 := h5
   try simp only [zs, List.length_map] at q5
   refine lv (.on rfl rfl .here (congrArg not h5)) rfl rfl (p_field (fldT43_1) rfl (Ev.eq (.t (.n 1 6 rfl))) (off' := 1) rfl) ?_
   refine lv (.on rfl rfl (.n 7 1 rfl) (congrArg not h5)) rfl rfl (q_load1 (scT22) rfl (Ev.eq (.t .here)) .here (.there .here)) ?_
   refine lv (.on rfl rfl (.n 7 2 rfl) (congrArg not h5)) rfl rfl (opv_len_sl Tryd.underlying22 rfl (Ev.eq (.t .here)) rfl) ?_
   refine lv (.on rfl rfl (.n 7 3 rfl) (congrArg not h5)) rfl rfl (opv_eql_i rfl (Ev.eq (.t .here)) (Ev.eq .i) rfl) ?_
   refine lv (.plain rfl) rfl rfl (opv_pick_f rfl (Ev.eq (.t (.n 7 4 rfl))) (congrArg not h5) (Ev.eq (.t .here))) ?_
   refine lv (.plain rfl) rfl rfl (opv_move rfl (Ev.eq (.t .here))) ?_
   refine lsplit (.n 11 2 rfl) (fun h11 => ?_) (fun h11 => ?_)
   ·
    have q11 := h11
    try simp only [zs, List.length_map] at q11
    refine lo (.off rfl rfl .here h11) rfl rfl ?_
    refine lo (.off rfl rfl (.n 13 1 rfl) h11) rfl rfl ?_
    refine lo (.off rfl rfl (.n 13 2 rfl) h11) rfl rfl ?_
    refine lo (.off rfl rfl (.n 13 3 rfl) h11) rfl rfl ?_
    refine lv (.plain rfl) rfl rfl (opv_pick_t rfl (Ev.eq (.t (.n 13 4 rfl))) h11 (Ev.eq .b)) ?_
    refine lv (.plain rfl) rfl rfl (opv_assign rfl (Ev.eq (.t .here))) ?_
    refine awpL_nil ?_
    refine awp_ret ?_
    refine ret_now (.one (rv_t .here)) (Cast.all _ _) ?_
    refine ⟨congrArg (fun x => AV.d (D.b x)) ?_, rfl⟩
    by_cases hp0 : p = ⟨#[]⟩ <;> cases r <;> simp_all [badE, erI]
    all_goals (try omega)
   ·
    have q11 := h11
    try simp only [zs, List.length_map] at q11
    refine lv (.on rfl rfl .here h11) rfl rfl (p_field (fldT43_1) rfl (Ev.eq (.t (.n 1 12 rfl))) (off' := 1) rfl) ?_
    refine lv (.on rfl rfl (.n 13 1 rfl) h11) rfl rfl (q_load1 (scT22) rfl (Ev.eq (.t .here)) .here (.there .here)) ?_
    refine lv (.on rfl rfl (.n 13 2 rfl) h11) rfl rfl (q_call rfl .f Tryd.call57 (.cons (.t .here) .nil) rfl (f57_spec _)) ?_
    refine lv (.on rfl rfl (.n 13 3 rfl) h11) rfl rfl (opv_neq_i rfl (Ev.eq (.t .here)) (Ev.eq .i) rfl) ?_
    refine lv (.plain rfl) rfl rfl (opv_pick_f rfl (Ev.eq (.t (.n 13 4 rfl))) h11 (Ev.eq (.t .here))) ?_
    refine lv (.plain rfl) rfl rfl (opv_assign rfl (Ev.eq (.t .here))) ?_
    refine awpL_nil ?_
    refine awp_ret ?_
    refine ret_now (.one (rv_t .here)) (Cast.all _ _) ?_
    refine ⟨congrArg (fun x => AV.d (D.b x)) ?_, rfl⟩
    by_cases hp0 : p = ⟨#[]⟩ <;> cases r <;> simp_all [badE, erI]
    all_goals (try omega)
  ·
   have q5 := h5
   try simp only [zs, List.length_map] at q5
   refine lo (.off rfl rfl .here (congrArg not h5)) rfl rfl ?_
   refine lo (.off rfl rfl (.n 7 1 rfl) (congrArg not h5)) rfl rfl ?_
   refine lo (.off rfl rfl (.n 7 2 rfl) (congrArg not h5)) rfl rfl ?_
   refine lo (.off rfl rfl (.n 7 3 rfl) (congrArg not h5)) rfl rfl ?_
   refine lv (.plain rfl) rfl rfl (opv_pick_t rfl (Ev.eq (.t (.n 7 4 rfl))) (congrArg not h5) (Ev.eq .b)) ?_
   refine lv (.plain rfl) rfl rfl (opv_move rfl (Ev.eq (.t .here))) ?_
   refine lo (.off rfl rfl .here rfl) rfl rfl ?_
   refine lo (.off rfl rfl (.n 13 1 rfl) rfl) rfl rfl ?_
   refine lo (.off rfl rfl (.n 13 2 rfl) rfl) rfl rfl ?_
   refine lo (.off rfl rfl (.n 13 3 rfl) rfl) rfl rfl ?_
   refine lv (.plain rfl) rfl rfl (opv_pick_t rfl (Ev.eq (.t (.n 13 4 rfl))) rfl (Ev.eq .b)) ?_
   refine lv (.plain rfl) rfl rfl (opv_assign rfl (Ev.eq (.t .here))) ?_
   refine awpL_nil ?_
   refine awp_ret ?_
   refine ret_now (.one (rv_t .here)) (Cast.all _ _) ?_
   refine ⟨congrArg (fun x => AV.d (D.b x)) ?_, rfl⟩
   by_cases hp0 : p = ⟨#[]⟩ <;> cases r <;> simp_all [badE, erI]
   all_goals (try omega)
theorem f83_spec (t : Trie) (b : Int) (hl : 0 < t.label.size) (hb : 0 ≤ b ∧ b ≤ 255) : FSpec Tryd.prog 83 [aTrie t, .d (.i .u8 b)] (.d (.i .i64 (bt t.label 0 - b))) := by
  obtain ⟨l, r, ks⟩ := t
  simp only [aTrie, Trie.label, Trie.rows, Trie.kids]
  simp only [Trie.label] at hl
  have hbr := bt_range l 0
  refine acalls_of Tryd.func83 rfl Tryd.ntmps83 Tryd.results83 (by simp) ?_
  refine awp_seq ?_
  refine awp_region ?_
  refine l_box (.plain rfl) rfl rfl rfl (.t .here) rfl rfl (fun g1 ng1 => ?_)
  refine lv (.plain rfl) rfl rfl (opv_assign rfl (Ev.eq .i)) ?_
  refine awpL_nil ?_
  refine awp_seq ?_
  refine awp_region ?_
  refine lv (.plain rfl) rfl rfl (p_field (fldT25_0) rfl (Ev.eq (.t (.n 2 1 rfl))) (off' := 0) rfl) ?_
  refine lv (.plain rfl) rfl rfl (q_load1 (scT9) rfl (Ev.eq (.t .here)) .here .here) ?_
  refine lv (.plain rfl) rfl rfl (opv_index_s Tryd.underlying9 rfl (Ev.eq (.t .here)) (Ev.eq .i) (by omega) (by omega) rfl) ?_
  refine lv (.plain rfl) rfl rfl (opv_convert Tryd.underlying5 Tryd.underlying3 rfl (Ev.eq (.t .here)) (wr_bt _ _) rfl) ?_
  refine lv (.plain rfl) rfl rfl (opv_move rfl (Ev.eq (.t (.n 1 7 rfl)))) ?_
  refine lv (.plain rfl) rfl rfl (opv_convert Tryd.underlying5 Tryd.underlying3 rfl (Ev.eq (.t .here)) (wr64 (by omega) (by omega)) rfl) ?_
  refine lv (.plain rfl) rfl rfl (opv_sub rfl (Ev.eq (.t (.n 8 2 rfl))) (Ev.eq (.t .here)) (wr64 (by omega) (by omega)) rfl) ?_
  refine lv (.plain rfl) rfl rfl (opv_assign rfl (Ev.eq (.t .here))) ?_
  refine awpL_nil ?_
  refine awp_ret ?_
  refine ret_now (.one (rv_t .here)) (Cast.all _ _) ?_
  exact ⟨rfl, rfl⟩
theorem f99_spec (l : List Trie) : FSpec Tryd.prog 99 [.d (.sl (encTries l)), .fn (.func 71) []] (.d (.i .i64 (idxF (fun t => !rightB t) l))) := by
  refine acalls_of Tryd.func99 rfl Tryd.ntmps99 Tryd.results99 (by simp) ?_
  refine wlen .here (fun hlen => ?_)
  simp only [List.length_map, encTries_len] at hlen
  refine awp_seq ?_
  refine awp_region ?_
  refine lv (.plain rfl) rfl rfl (opv_assign rfl (Ev.eq .i)) ?_
  refine awpL_nil ?_
  refine awp_seq ?_
  refine awp_seq ?_
  refine awp_region ?_
  refine lv (.plain rfl) rfl rfl (opv_move rfl (Ev.eq (.t (.n 0 1 rfl)))) ?_
  refine lv (.plain rfl) rfl rfl (opv_len_sl Tryd.underlying23 rfl (Ev.eq (.t .here)) rfl) ?_
  refine lv (.plain rfl) rfl rfl (opv_move rfl (Ev.eq .i)) ?_
  refine awpL_nil ?_
  refine awp_block ?_
  refine ploop (fun (i : Nat) => ⟨19, [(0, .d (.sl (encTries l))), (1, .fn (.func 71) []), (7, .d (.i .i64 (l.length : Int))), (8, .d (.i .i64 (i : Int)))], [], []⟩) (fun i => i ≤ l.length ∧ (l.take i).any (fun t => !rightB t) = false) (fun i => l.length - i) (0) (weak_both (.ce (.n 0 4 rfl) (by first | rfl | (simp; done) | (simp; omega)) (.ce (.n 1 5 rfl) (by first | rfl | (simp; done) | (simp; omega)) (.ce (.n 7 1 rfl) (by first | rfl | (simp; done) | (simp; omega)) (.ce .here (by first | rfl | (simp; done) | (simp; omega)) .nil)))) (List.Sublist.refl _)) (⟨by omega, rfl⟩) ?_
  rintro i ⟨hi, hI⟩
  refine awp_seq ?_
  refine awp_region ?_
  refine lv (.plain rfl) rfl rfl (opv_lss rfl (Ev.eq (.t (.n 8 3 rfl))) (Ev.eq (.t (.n 7 2 rfl))) rfl) ?_
  refine awpL_nil ?_
  refine awp_seq ?_
  refine psplit .here (fun h9 => ?_) (fun h9 => ?_)
  ·
   have q9 := h9
   try simp only [zs, List.length_map, encTries_len] at q9
   refine pcond_t (.t .here) h9 ?_
   refine awp_skip ?_
   refine awp_seq ?_
   refine awp_block ?_
   refine awp_seq ?_
   refine awp_region ?_
   refine lv (.plain rfl) rfl rfl (opv_move rfl (Ev.eq (.t (.n 8 4 rfl)))) ?_
   refine lv (.plain rfl) rfl rfl (opv_assign rfl (Ev.eq (.t .here))) ?_
   refine awpL_nil ?_
   refine awp_seq ?_
   refine awp_region ?_
   refine lv (.plain rfl) rfl rfl (opv_move rfl (Ev.eq (.t (.n 1 4 rfl)))) ?_
   refine lv (.plain rfl) rfl rfl (opv_move rfl (Ev.eq (.t (.n 0 4 rfl)))) ?_
   refine lv (.plain rfl) rfl rfl (opv_move rfl (Ev.eq (.t (.n 5 2 rfl)))) ?_
   obtain ⟨x, hk⟩ := some_at (l := l) (i := i) (by omega)
   obtain ⟨xl, xr, xk⟩ := x
   refine lv (.plain rfl) rfl rfl (p_index (slT23) rfl (Ev.eq (.t (.n 12 1 rfl))) (Ev.eq (.t .here)) (by omega) (by first | assumption | exact map_at (by assumption) | exact encTries_at (by assumption)) rfl) ?_
   refine lv (.plain rfl) rfl rfl (p_loadnf (agT25) rfl (Ev.eq (.t .here)) (Nat.le_of_ble_eq_true rfl) rfl) ?_
   refine lv (.plain rfl) rfl rfl (q_call rfl (.t (.n 11 4 rfl)) Tryd.call71 (.cons (.t .here) .nil) rfl (f71_spec (.mk xl xr xk))) ?_
   refine awpL_nil ?_
   refine psplit .here (fun h16 => ?_) (fun h16 => ?_)
   ·
    have q16 := h16
    try simp only [zs, List.length_map, encTries_len] at q16
    refine pcond_t (.t .here) h16 ?_
    refine awp_seq ?_
    refine awp_region ?_
    refine lv (.plain rfl) rfl rfl (opv_move rfl (Ev.eq (.t (.n 5 6 rfl)))) ?_
    refine lv (.plain rfl) rfl rfl (opv_assign rfl (Ev.eq (.t .here))) ?_
    refine awpL_nil ?_
    refine awp_ret ?_
    refine ret_now (.one (rv_t .here)) (Cast.all _ _) ?_
    refine ⟨congrArg (fun x => AV.d (D.i .i64 x)) ?_, rfl⟩
    exact (idxF_at hI hk (by simp_all)).symm
   ·
    have q16 := h16
    try simp only [zs, List.length_map, encTries_len] at q16
    refine pcond_f (.t .here) h16 ?_
    refine awp_skip ?_
    refine awp_region ?_
    refine lv (.plain rfl) rfl rfl (opv_add rfl (Ev.eq (.t (.n 8 12 rfl))) (Ev.eq .i) (wr64 (by omega) (by omega)) rfl) ?_
    refine lv (.plain rfl) rfl rfl (opv_move rfl (Ev.eq (.t .here))) ?_
    refine awpL_nil ?_
    refine ⟨i + 1, by omega, ⟨by omega, by rw [List.take_add_one, hk, List.any_append, hI]; simp_all⟩, weak_both (.ce (.n 0 11 rfl) (by first | rfl | (simp; done) | (simp; omega)) (.ce (.n 1 12 rfl) (by first | rfl | (simp; done) | (simp; omega)) (.ce (.n 7 13 rfl) (by first | rfl | (simp; done) | (simp; omega)) (.ce .here (by first | rfl | (simp; done) | (simp; omega)) .nil)))) (List.Sublist.refl _)⟩
  ·
   have q9 := h9
   try simp only [zs, List.length_map, encTries_len] at q9
   refine pcond_f (.t .here) h9 ?_
   refine awp_exit ?_
   refine awp_seq ?_
   refine awp_region ?_
   refine lv (.plain rfl) rfl rfl (opv_assign rfl (Ev.eq .i)) ?_
   refine awpL_nil ?_
   refine awp_ret ?_
   refine ret_now (.one (rv_t .here)) (Cast.all _ _) ?_
   refine ⟨congrArg (fun x => AV.d (D.i .i64 x)) ?_, rfl⟩
   obtain rfl : i = l.length := by omega
   rw [List.take_length] at hI
   exact (idxF_none hI).symm
theorem f70_spec (l : List Trie) : FSpec Tryd.prog 70 [.d (.sl (encTries l)), .fn (.func 71) []] (.d (.b (l.any (fun t => !rightB t)))) := by
  refine acalls_of Tryd.func70 rfl Tryd.ntmps70 Tryd.results70 (by simp) ?_
  refine awp_seq ?_
  refine awp_region ?_
  refine lv (.plain rfl) rfl rfl (opv_assign rfl (Ev.eq .b)) ?_
  refine awpL_nil ?_
  refine awp_seq ?_
  refine awp_region ?_
  refine lv (.plain rfl) rfl rfl (opv_move rfl (Ev.eq (.t (.n 0 1 rfl)))) ?_
  refine lv (.plain rfl) rfl rfl (opv_move rfl (Ev.eq (.t (.n 1 3 rfl)))) ?_
  refine lv (.plain rfl) rfl rfl (q_call rfl .f Tryd.call99 (.cons (.t (.n 5 1 rfl)) (.cons (.t .here) .nil)) rfl (f99_spec l)) ?_
  refine lv (.plain rfl) rfl rfl (opv_geq rfl (Ev.eq (.t .here)) (Ev.eq .i) rfl) ?_
  refine lv (.plain rfl) rfl rfl (opv_assign rfl (Ev.eq (.t .here))) ?_
  refine awpL_nil ?_
  refine awp_ret ?_
  refine ret_now (.one (rv_t .here)) (Cast.all _ _) ?_
  refine ⟨congrArg (fun x => AV.d (D.b x)) ?_, rfl⟩
  exact idxF_pos
theorem f95_spec (l : List Ent) : FSpec Tryd.prog 95 [.d (.sl (l.map encEnt)), .fn (.func 64) []] (.d (.i .i64 (idxF badE l))) := by
  refine acalls_of Tryd.func95 rfl Tryd.ntmps95 Tryd.results95 (by simp) ?_
  refine wlen .here (fun hlen => ?_)
  simp only [List.length_map, encTries_len] at hlen
  refine awp_seq ?_
  refine awp_region ?_
  refine lv (.plain rfl) rfl rfl (opv_assign rfl (Ev.eq .i)) ?_
  refine awpL_nil ?_
  refine awp_seq ?_
  refine awp_seq ?_
  refine awp_region ?_
  refine lv (.plain rfl) rfl rfl (opv_move rfl (Ev.eq (.t (.n 0 1 rfl)))) ?_
  refine lv (.plain rfl) rfl rfl (opv_len_sl Tryd.underlying38 rfl (Ev.eq (.t .here)) rfl) ?_
  refine lv (.plain rfl) rfl rfl (opv_move rfl (Ev.eq .i)) ?_
  refine awpL_nil ?_
  refine awp_block ?_
  refine ploop (fun (i : Nat) => ⟨19, [(0, .d (.sl (l.map encEnt))), (1, .fn (.func 64) []), (7, .d (.i .i64 (l.length : Int))), (8, .d (.i .i64 (i : Int)))], [], []⟩) (fun i => i ≤ l.length ∧ (l.take i).any badE = false) (fun i => l.length - i) (0) (weak_both (.ce (.n 0 4 rfl) (by first | rfl | (simp; done) | (simp; omega)) (.ce (.n 1 5 rfl) (by first | rfl | (simp; done) | (simp; omega)) (.ce (.n 7 1 rfl) (by first | rfl | (simp; done) | (simp; omega)) (.ce .here (by first | rfl | (simp; done) | (simp; omega)) .nil)))) (List.Sublist.refl _)) (⟨by omega, rfl⟩) ?_
  rintro i ⟨hi, hI⟩
  refine awp_seq ?_
  refine awp_region ?_
  refine lv (.plain rfl) rfl rfl (opv_lss rfl (Ev.eq (.t (.n 8 3 rfl))) (Ev.eq (.t (.n 7 2 rfl))) rfl) ?_
  refine awpL_nil ?_
  refine awp_seq ?_
  refine psplit .here (fun h9 => ?_) (fun h9 => ?_)
  ·
   have q9 := h9
   try simp only [zs, List.length_map, encTries_len] at q9
   refine pcond_t (.t .here) h9 ?_
   refine awp_skip ?_
   refine awp_seq ?_
   refine awp_block ?_
   refine awp_seq ?_
   refine awp_region ?_
   refine lv (.plain rfl) rfl rfl (opv_move rfl (Ev.eq (.t (.n 8 4 rfl)))) ?_
   refine lv (.plain rfl) rfl rfl (opv_assign rfl (Ev.eq (.t .here))) ?_
   refine awpL_nil ?_
   refine awp_seq ?_
   refine awp_region ?_
   refine lv (.plain rfl) rfl rfl (opv_move rfl (Ev.eq (.t (.n 1 4 rfl)))) ?_
   refine lv (.plain rfl) rfl rfl (opv_move rfl (Ev.eq (.t (.n 0 4 rfl)))) ?_
   refine lv (.plain rfl) rfl rfl (opv_move rfl (Ev.eq (.t (.n 5 2 rfl)))) ?_
   obtain ⟨x, hk⟩ := some_at (l := l) (i := i) (by omega)
   obtain ⟨xp, xr⟩ := x
   refine lv (.plain rfl) rfl rfl (p_index (slT38) rfl (Ev.eq (.t (.n 12 1 rfl))) (Ev.eq (.t .here)) (by omega) (by first | assumption | exact map_at (by assumption) | exact encTries_at (by assumption)) rfl) ?_
   refine lv (.plain rfl) rfl rfl (p_loadnf (agT43) rfl (Ev.eq (.t .here)) (Nat.le_of_ble_eq_true rfl) rfl) ?_
   refine lv (.plain rfl) rfl rfl (q_call rfl (.t (.n 11 4 rfl)) Tryd.call64 (.cons (.t .here) .nil) rfl (f64_spec ⟨xp, xr⟩)) ?_
   refine awpL_nil ?_
   refine psplit .here (fun h16 => ?_) (fun h16 => ?_)
   ·
    have q16 := h16
    try simp only [zs, List.length_map, encTries_len] at q16
    refine pcond_t (.t .here) h16 ?_
    refine awp_seq ?_
    refine awp_region ?_
    refine lv (.plain rfl) rfl rfl (opv_move rfl (Ev.eq (.t (.n 5 6 rfl)))) ?_
    refine lv (.plain rfl) rfl rfl (opv_assign rfl (Ev.eq (.t .here))) ?_
    refine awpL_nil ?_
    refine awp_ret ?_
    refine ret_now (.one (rv_t .here)) (Cast.all _ _) ?_
    refine ⟨congrArg (fun x => AV.d (D.i .i64 x)) ?_, rfl⟩
    exact (idxF_at hI hk (by simp_all)).symm
   ·
    have q16 := h16
    try simp only [zs, List.length_map, encTries_len] at q16
    refine pcond_f (.t .here) h16 ?_
    refine awp_skip ?_
    refine awp_region ?_
    refine lv (.plain rfl) rfl rfl (opv_add rfl (Ev.eq (.t (.n 8 12 rfl))) (Ev.eq .i) (wr64 (by omega) (by omega)) rfl) ?_
    refine lv (.plain rfl) rfl rfl (opv_move rfl (Ev.eq (.t .here))) ?_
    refine awpL_nil ?_
    refine ⟨i + 1, by omega, ⟨by omega, by rw [List.take_add_one, hk, List.any_append, hI]; simp_all⟩, weak_both (.ce (.n 0 11 rfl) (by first | rfl | (simp; done) | (simp; omega)) (.ce (.n 1 12 rfl) (by first | rfl | (simp; done) | (simp; omega)) (.ce (.n 7 13 rfl) (by first | rfl | (simp; done) | (simp; omega)) (.ce .here (by first | rfl | (simp; done) | (simp; omega)) .nil)))) (List.Sublist.refl _)⟩
  ·
   have q9 := h9
   try simp only [zs, List.length_map, encTries_len] at q9
   refine pcond_f (.t .here) h9 ?_
   refine awp_exit ?_
   refine awp_seq ?_
   refine awp_region ?_
   refine lv (.plain rfl) rfl rfl (opv_assign rfl (Ev.eq .i)) ?_
   refine awpL_nil ?_
   refine awp_ret ?_
   refine ret_now (.one (rv_t .here)) (Cast.all _ _) ?_
   refine ⟨congrArg (fun x => AV.d (D.i .i64 x)) ?_, rfl⟩
   obtain rfl : i = l.length := by omega
   rw [List.take_length] at hI
   exact (idxF_none hI).symm
theorem f65_spec (l : List Ent) : FSpec Tryd.prog 65 [.d (.sl (l.map encEnt)), .fn (.func 64) []] (.d (.b (l.any badE))) := by
  refine acalls_of Tryd.func65 rfl Tryd.ntmps65 Tryd.results65 (by simp) ?_
  refine awp_seq ?_
  refine awp_region ?_
  refine lv (.plain rfl) rfl rfl (opv_assign rfl (Ev.eq .b)) ?_
  refine awpL_nil ?_
  refine awp_seq ?_
  refine awp_region ?_
  refine lv (.plain rfl) rfl rfl (opv_move rfl (Ev.eq (.t (.n 0 1 rfl)))) ?_
  refine lv (.plain rfl) rfl rfl (opv_move rfl (Ev.eq (.t (.n 1 3 rfl)))) ?_
  refine lv (.plain rfl) rfl rfl (q_call rfl .f Tryd.call95 (.cons (.t (.n 5 1 rfl)) (.cons (.t .here) .nil)) rfl (f95_spec l)) ?_
  refine lv (.plain rfl) rfl rfl (opv_geq rfl (Ev.eq (.t .here)) (Ev.eq .i) rfl) ?_
  refine lv (.plain rfl) rfl rfl (opv_assign rfl (Ev.eq (.t .here))) ?_
  refine awpL_nil ?_
  refine awp_ret ?_
  refine ret_now (.one (rv_t .here)) (Cast.all _ _) ?_
  refine ⟨congrArg (fun x => AV.d (D.b x)) ?_, rfl⟩
  exact idxF_pos
theorem f32_spec (l : List Trie) : FSpec Tryd.prog 32 [.d (.sl (encTries l))] (.d (.b (!l.any (fun t => !rightB t)))) := by
  refine acalls_of Tryd.func32 rfl Tryd.ntmps32 Tryd.results32 (by simp) ?_
  refine awp_seq ?_
  refine awp_region ?_
  refine lv (.plain rfl) rfl rfl (opv_assign rfl (Ev.eq .b)) ?_
  refine awpL_nil ?_
  refine awp_seq ?_
  refine awp_region ?_
  refine lv (.plain rfl) rfl rfl (opv_move rfl (Ev.eq (.t (.n 0 1 rfl)))) ?_
  refine lv (.plain rfl) rfl rfl (q_call rfl .f Tryd.call70 (.cons (.t .here) (.cons .f .nil)) rfl (f70_spec l)) ?_
  refine lv (.plain rfl) rfl rfl (opv_not rfl (Ev.eq (.t .here)) rfl) ?_
  refine lv (.plain rfl) rfl rfl (opv_assign rfl (Ev.eq (.t .here))) ?_
  refine awpL_nil ?_
  refine awp_ret ?_
  refine ret_now (.one (rv_t .here)) (Cast.all _ _) ?_
  exact ⟨rfl, rfl⟩
theorem f82_spec (l : List Trie) (b : Int) (hb : 0 ≤ b ∧ b ≤ 255) (hP : ∀ t, t ∈ l → 0 < t.label.size) (hS : ∀ (i j : Nat) (t u : Trie), i ≤ j → l[i]? = some t → l[j]? = some u → bt t.label 0 ≤ bt u.label 0) (hL : l.length ≤ 1000000000) : FSpec Tryd.prog 82 [.d (.sl (encTries l)), .d (.i .u8 b), .fn (.func 83) []] (.tup [.d (.i .i64 (posF l b : Nat)), .d (.b (hitB l b))]) := by
  refine acalls_of Tryd.func82 rfl Tryd.ntmps82 Tryd.results82 (by simp) ?_
  refine awp_seq ?_
  refine awp_region ?_
  refine lv (.plain rfl) rfl rfl (opv_assign rfl (Ev.eq .i)) ?_
  refine lv (.plain rfl) rfl rfl (opv_assign rfl (Ev.eq .b)) ?_
  refine awpL_nil ?_
  refine awp_seq ?_
  refine awp_region ?_
  refine lv (.plain rfl) rfl rfl (opv_move rfl (Ev.eq (.t (.n 0 2 rfl)))) ?_
  refine lv (.plain rfl) rfl rfl (opv_len_sl Tryd.underlying23 rfl (Ev.eq (.t .here)) rfl) ?_
  refine lv (.plain rfl) rfl rfl (opv_assign rfl (Ev.eq (.t .here))) ?_
  refine awpL_nil ?_
  refine awp_seq ?_
  refine awp_region ?_
  refine lv (.plain rfl) rfl rfl (opv_move rfl (Ev.eq (.t .here))) ?_
  refine lv (.plain rfl) rfl rfl (opv_assign rfl (Ev.eq .i)) ?_
  refine lv (.plain rfl) rfl rfl (opv_assign rfl (Ev.eq (.t (.n 14 1 rfl)))) ?_
  refine awpL_nil ?_
  refine awp_seq ?_
  refine awp_block ?_
  refine ploop (fun (a : Nat × Nat) => ⟨49, [(0, .d (.sl (encTries l))), (1, .d (.i .u8 b)), (2, .fn (.func 83) []), (8, .d (.i .i64 (l.length : Int))), (9, .d (.i .i64 (a.1 : Int))), (10, .d (.i .i64 (a.2 : Int)))], [], []⟩) (fun a => a.1 ≤ a.2 ∧ a.2 ≤ l.length ∧ (∀ (k : Nat) (t : Trie), k < a.1 → l[k]? = some t → bt t.label 0 < b) ∧ (∀ (k : Nat) (t : Trie), a.2 ≤ k → l[k]? = some t → b ≤ bt t.label 0)) (fun a => a.2 - a.1) ((0, l.length)) (weak_both (.ce (.n 0 8 rfl) (by first | rfl | (simp; done) | (simp; omega)) (.ce (.n 1 9 rfl) (by first | rfl | (simp; done) | (simp; omega)) (.ce (.n 2 10 rfl) (by first | rfl | (simp; done) | (simp; omega)) (.ce (.n 8 3 rfl) (by first | rfl | (simp; done) | (simp; omega)) (.ce (.n 9 1 rfl) (by first | rfl | (simp; done) | (simp; omega)) (.ce .here (by first | rfl | (simp; done) | (simp; omega)) .nil)))))) (List.Sublist.refl _)) (⟨by dsimp only; omega, by dsimp only; omega, fun k t hk => (by dsimp only at hk; omega), fun k t hk ht => (by dsimp only at hk; have := (List.getElem?_eq_some_iff.1 ht).1; omega)⟩) ?_
  rintro ⟨i, j⟩ ⟨hij, hj, hlo, hhi⟩
  dsimp only at hij hj hlo hhi
  refine awp_seq ?_
  refine awp_seq ?_
  refine awp_region ?_
  refine lv (.plain rfl) rfl rfl (opv_move rfl (Ev.eq (.t (.n 9 4 rfl)))) ?_
  refine lv (.plain rfl) rfl rfl (opv_move rfl (Ev.eq (.t (.n 10 6 rfl)))) ?_
  refine lv (.plain rfl) rfl rfl (opv_lss rfl (Ev.eq (.t (.n 15 1 rfl))) (Ev.eq (.t .here)) rfl) ?_
  refine awpL_nil ?_
  refine psplit .here (fun h17 => ?_) (fun h17 => ?_)
  ·
   have q17 := h17
   try simp only [zs, encTries_len] at q17
   refine pcond_t (.t .here) h17 ?_
   refine awp_skip ?_
   refine awp_block ?_
   refine awp_seq ?_
   refine awp_region ?_
   refine lv (.plain rfl) rfl rfl (opv_move rfl (Ev.eq (.t (.n 9 7 rfl)))) ?_
   refine lv (.plain rfl) rfl rfl (opv_move rfl (Ev.eq (.t (.n 10 9 rfl)))) ?_
   refine lv (.plain rfl) rfl rfl (opv_add rfl (Ev.eq (.t (.n 18 1 rfl))) (Ev.eq (.t .here)) (wr64 (by omega) (by omega)) rfl) ?_
   refine lv (.plain rfl) rfl rfl (opv_convert Tryd.underlying3 Tryd.underlying124 rfl (Ev.eq (.t .here)) (wrU64 (by omega) (by omega)) rfl) ?_
   refine lv (.plain rfl) rfl rfl (opv_shr rfl (Ev.eq (.t .here)) (Ev.eq .i) (by omega) (shr1 (by omega)) rfl) ?_
   refine lv (.plain rfl) rfl rfl (opv_convert Tryd.underlying124 Tryd.underlying3 rfl (Ev.eq (.t .here)) (wr64 (by omega) (by omega)) rfl) ?_
   refine lv (.plain rfl) rfl rfl (opv_assign rfl (Ev.eq (.t .here))) ?_
   refine awpL_nil ?_
   refine awp_seq ?_
   refine awp_region ?_
   refine lv (.plain rfl) rfl rfl (opv_move rfl (Ev.eq (.t (.n 2 12 rfl)))) ?_
   refine lv (.plain rfl) rfl rfl (opv_move rfl (Ev.eq (.t (.n 0 11 rfl)))) ?_
   refine lv (.plain rfl) rfl rfl (opv_move rfl (Ev.eq (.t (.n 11 2 rfl)))) ?_
   obtain ⟨xm, hm⟩ := some_at (l := l) (i := (i + j) / 2) (by omega)
   obtain ⟨ml, mr, mk⟩ := xm
   have hm' : (encTries l)[(((i : Int) + (j : Int)) / 2).toNat]? = some (encTrie (.mk ml mr mk)) := by rw [show (((i : Int) + (j : Int)) / 2).toNat = (i + j) / 2 by omega, encTries_eq, List.getElem?_map, hm]; rfl
   refine lv (.plain rfl) rfl rfl (p_index (slT23) rfl (Ev.eq (.t (.n 25 1 rfl))) (Ev.eq (.t .here)) (by omega) (by first | assumption | exact map_at (by assumption) | exact encTries_at (by assumption)) rfl) ?_
   refine lv (.plain rfl) rfl rfl (p_loadnf (agT25) rfl (Ev.eq (.t .here)) (Nat.le_of_ble_eq_true rfl) rfl) ?_
   refine lv (.plain rfl) rfl rfl (opv_move rfl (Ev.eq (.t (.n 1 16 rfl)))) ?_
   refine lv (.plain rfl) rfl rfl (q_call rfl (.t (.n 24 5 rfl)) Tryd.call83 (.cons (.t (.n 28 1 rfl)) (.cons (.t .here) .nil)) rfl (f83_spec (.mk ml mr mk) b (hP _ (List.mem_of_getElem? hm)) hb)) ?_
   refine lv (.plain rfl) rfl rfl (opv_lss rfl (Ev.eq (.t .here)) (Ev.eq .i) rfl) ?_
   refine awpL_nil ?_
   refine psplit .here (fun h31 => ?_) (fun h31 => ?_)
   ·
    have q31 := h31
    try simp only [zs, encTries_len] at q31
    refine pcond_t (.t .here) h31 ?_
    refine awp_region ?_
    refine lv (.plain rfl) rfl rfl (opv_move rfl (Ev.eq (.t (.n 11 8 rfl)))) ?_
    refine lv (.plain rfl) rfl rfl (opv_add rfl (Ev.eq (.t .here)) (Ev.eq .i) (wr64 (by omega) (by omega)) rfl) ?_
    refine lv (.plain rfl) rfl rfl (opv_assign rfl (Ev.eq (.t .here))) ?_
    refine awpL_nil ?_
    refine ⟨((i + j) / 2 + 1, j), by dsimp only; omega, ⟨by dsimp only; omega, by dsimp only; omega, fun k t hk ht => (by dsimp only at hk; have h1 : bt t.label 0 ≤ bt (Trie.mk ml mr mk).label 0 := hS k ((i + j) / 2) t _ (by omega) ht hm; omega), hhi⟩, weak_both (.ce (.n 0 21 rfl) (by first | rfl | (simp; done) | (simp; omega)) (.ce (.n 1 22 rfl) (by first | rfl | (simp; done) | (simp; omega)) (.ce (.n 2 23 rfl) (by first | rfl | (simp; done) | (simp; omega)) (.ce (.n 8 24 rfl) (by first | rfl | (simp; done) | (simp; omega)) (.ce .here (by first | rfl | (simp; done) | (simp; omega)) (.ce (.n 10 26 rfl) (by first | rfl | (simp; done) | (simp; omega)) .nil)))))) (List.Sublist.refl _)⟩
   ·
    have q31 := h31
    try simp only [zs, encTries_len] at q31
    refine pcond_f (.t .here) h31 ?_
    refine awp_region ?_
    refine lv (.plain rfl) rfl rfl (opv_move rfl (Ev.eq (.t (.n 11 8 rfl)))) ?_
    refine lv (.plain rfl) rfl rfl (opv_assign rfl (Ev.eq (.t .here))) ?_
    refine awpL_nil ?_
    refine ⟨(i, (i + j) / 2), by dsimp only; omega, ⟨by dsimp only; omega, by dsimp only; omega, hlo, fun k t hk ht => (by dsimp only at hk; have h1 : bt (Trie.mk ml mr mk).label 0 ≤ bt t.label 0 := hS ((i + j) / 2) k _ t (by omega) hm ht; omega)⟩, weak_both (.ce (.n 0 20 rfl) (by first | rfl | (simp; done) | (simp; omega)) (.ce (.n 1 21 rfl) (by first | rfl | (simp; done) | (simp; omega)) (.ce (.n 2 22 rfl) (by first | rfl | (simp; done) | (simp; omega)) (.ce (.n 8 23 rfl) (by first | rfl | (simp; done) | (simp; omega)) (.ce (.n 9 24 rfl) (by first | rfl | (simp; done) | (simp; omega)) (.ce .here (by first | rfl | (simp; done) | (simp; omega)) .nil)))))) (List.Sublist.refl _)⟩
  ·
   have q17 := h17
   try simp only [zs, encTries_len] at q17
   refine pcond_f (.t .here) h17 ?_
   refine awp_exit ?_
   refine awp_seq ?_
   refine awp_region ?_
   refine lv (.plain rfl) rfl rfl (opv_move rfl (Ev.eq (.t (.n 9 7 rfl)))) ?_
   refine lv (.plain rfl) rfl rfl (opv_move rfl (Ev.eq (.t (.n 9 8 rfl)))) ?_
   refine lv (.plain rfl) rfl rfl (opv_move rfl (Ev.eq (.t (.n 8 8 rfl)))) ?_
   refine lv (.plain rfl) rfl rfl (opv_lss rfl (Ev.eq (.t (.n 36 1 rfl))) (Ev.eq (.t .here)) rfl) ?_
   refine lv (.plain rfl) rfl rfl (opv_move rfl (Ev.eq (.t .here))) ?_
   refine lsplit (.n 38 1 rfl) (fun h38 => ?_) (fun h38 => ?_)
   ·
    have q38 := h38
    try simp only [zs, encTries_len] at q38
    refine lv (.on rfl rfl .here h38) rfl rfl (opv_move rfl (Ev.eq (.t (.n 2 10 rfl)))) ?_
    refine lv (.on rfl rfl (.n 39 1 rfl) h38) rfl rfl (opv_move rfl (Ev.eq (.t (.n 0 9 rfl)))) ?_
    refine lv (.on rfl rfl (.n 39 2 rfl) h38) rfl rfl (opv_move rfl (Ev.eq (.t (.n 9 14 rfl)))) ?_
    obtain ⟨x, hx⟩ := some_at (l := l) (i := i) (by omega)
    obtain ⟨xl, xr, xk⟩ := x
    refine lv (.on rfl rfl (.n 39 3 rfl) h38) rfl rfl (p_index (slT23) rfl (Ev.eq (.t (.n 41 1 rfl))) (Ev.eq (.t .here)) (by omega) (by first | assumption | exact map_at (by assumption) | exact encTries_at (by assumption)) rfl) ?_
    refine lv (.on rfl rfl (.n 39 4 rfl) h38) rfl rfl (p_loadnf (agT25) rfl (Ev.eq (.t .here)) (Nat.le_of_ble_eq_true rfl) rfl) ?_
    refine lv (.on rfl rfl (.n 39 5 rfl) h38) rfl rfl (opv_move rfl (Ev.eq (.t (.n 1 14 rfl)))) ?_
    refine lv (.on rfl rfl (.n 39 6 rfl) h38) rfl rfl (q_call rfl (.t (.n 40 5 rfl)) Tryd.call83 (.cons (.t (.n 44 1 rfl)) (.cons (.t .here) .nil)) rfl (f83_spec (.mk xl xr xk) b (hP _ (List.mem_of_getElem? hx)) hb)) ?_
    refine lv (.on rfl rfl (.n 39 7 rfl) h38) rfl rfl (opv_eql_i rfl (Ev.eq (.t .here)) (Ev.eq .i) rfl) ?_
    refine lv (.plain rfl) rfl rfl (opv_pick_t rfl (Ev.eq (.t (.n 39 8 rfl))) h38 (Ev.eq (.t .here))) ?_
    refine lv (.plain rfl) rfl rfl (opv_assign rfl (Ev.eq (.t (.n 35 13 rfl)))) ?_
    refine lv (.plain rfl) rfl rfl (opv_assign rfl (Ev.eq (.t (.n 48 1 rfl)))) ?_
    refine awpL_nil ?_
    refine awp_ret ?_
    refine ret_now (.two (rv_t (.n 6 1 rfl)) (rv_t .here)) (Cast.all _ _) ?_
    obtain rfl : i = j := by omega
    have hp : posF l b = i := posF_eq hj hlo (fun t ht => hhi i t (Nat.le_refl _) ht)
    refine ⟨?_, rfl⟩
    simp only [hitB, hp, hx, Trie.label]
    exact congrArg (fun x => AV.tup [AV.d (D.i .i64 (i : Int)), AV.d (D.b x)]) (decide_eq_decide.2 (show bt xl 0 - b = 0 ↔ bt xl 0 = b by constructor <;> intro h <;> omega))
   ·
    have q38 := h38
    try simp only [zs, encTries_len] at q38
    refine lo (.off rfl rfl .here h38) rfl rfl ?_
    refine lo (.off rfl rfl (.n 39 1 rfl) h38) rfl rfl ?_
    refine lo (.off rfl rfl (.n 39 2 rfl) h38) rfl rfl ?_
    refine lo (.off rfl rfl (.n 39 3 rfl) h38) rfl rfl ?_
    refine lo (.off rfl rfl (.n 39 4 rfl) h38) rfl rfl ?_
    refine lo (.off rfl rfl (.n 39 5 rfl) h38) rfl rfl ?_
    refine lo (.off rfl rfl (.n 39 6 rfl) h38) rfl rfl ?_
    refine lo (.off rfl rfl (.n 39 7 rfl) h38) rfl rfl ?_
    refine lv (.plain rfl) rfl rfl (opv_pick_f rfl (Ev.eq (.t (.n 39 8 rfl))) h38 (Ev.eq .b)) ?_
    refine lv (.plain rfl) rfl rfl (opv_assign rfl (Ev.eq (.t (.n 35 13 rfl)))) ?_
    refine lv (.plain rfl) rfl rfl (opv_assign rfl (Ev.eq (.t (.n 48 1 rfl)))) ?_
    refine awpL_nil ?_
    refine awp_ret ?_
    refine ret_now (.two (rv_t (.n 6 1 rfl)) (rv_t .here)) (Cast.all _ _) ?_
    obtain rfl : i = j := by omega
    have hp : posF l b = i := posF_eq hj hlo (fun t ht => hhi i t (Nat.le_refl _) ht)
    have hn : l[i]? = none := List.getElem?_eq_none (by omega)
    refine ⟨?_, rfl⟩
    simp only [hitB, hp, hn]
theorem f53_spec (l : List Trie) (b : Int) (hb : 0 ≤ b ∧ b ≤ 255) (hP : ∀ t, t ∈ l → 0 < t.label.size) (hS : ∀ (i j : Nat) (t u : Trie), i ≤ j → l[i]? = some t → l[j]? = some u → bt t.label 0 ≤ bt u.label 0) (hL : l.length ≤ 1000000000) : FSpec Tryd.prog 53 [.d (.sl (encTries l)), .d (.i .u8 b)] (.tup [.d (.i .i64 (posF l b : Nat)), .d (.b (hitB l b))]) := by
  refine acalls_of Tryd.func53 rfl Tryd.ntmps53 Tryd.results53 (by simp) ?_
  refine awp_seq ?_
  refine awp_region ?_
  refine lv (.plain rfl) rfl rfl (opv_assign rfl (Ev.eq .i)) ?_
  refine lv (.plain rfl) rfl rfl (opv_assign rfl (Ev.eq .b)) ?_
  refine awpL_nil ?_
  refine awp_seq ?_
  refine awp_region ?_
  refine lv (.plain rfl) rfl rfl (opv_move rfl (Ev.eq (.t (.n 0 2 rfl)))) ?_
  refine lv (.plain rfl) rfl rfl (opv_move rfl (Ev.eq (.t (.n 1 4 rfl)))) ?_
  refine lv (.plain rfl) rfl rfl (q_call rfl .f Tryd.call82 (.cons (.t (.n 6 1 rfl)) (.cons (.t .here) (.cons .f .nil))) rfl (f82_spec l b hb hP hS hL)) ?_
  refine lv (.plain rfl) rfl rfl (q_extract rfl (Ev.eq (.t .here)) .here) ?_
  refine lv (.plain rfl) rfl rfl (q_extract rfl (Ev.eq (.t (.n 8 1 rfl))) (.there .here)) ?_
  refine lv (.plain rfl) rfl rfl (opv_assign rfl (Ev.eq (.t (.n 9 1 rfl)))) ?_
  refine lv (.plain rfl) rfl rfl (opv_assign rfl (Ev.eq (.t (.n 10 1 rfl)))) ?_
  refine awpL_nil ?_
  refine awp_ret ?_
  refine ret_now (.two (rv_t (.n 4 1 rfl)) (rv_t .here)) (Cast.all _ _) ?_
  exact ⟨rfl, rfl⟩
end Go.Proofs.YtjnkbmodcddbkaaDoor
