/- The guards. -/
import Derived.Test.YtjnkbmodcddbkaaDoorTy
import Derived.Test.YtjnkbmodcddbkaaDoorDat
set_option linter.unusedVariables false
set_option linter.unusedSimpArgs false
namespace Go.Proofs.YtjnkbmodcddbkaaDoor
open Go Go.RowKit
theorem f63_spec (l : List Row) : FSpec Tryd.prog 63 [.d (dRows l)] (.d (.b (shortF l))) := by
  refine acalls_of Tryd.func63 rfl Tryd.ntmps63 Tryd.results63 (by simp) ?_
  refine awp_seq ?_
  refine awp_region ?_
  refine lv (.plain rfl) rfl rfl (opv_assign rfl (Ev.eq .b)) ?_
  refine awpL_nil ?_
  refine awp_seq ?_
  refine awp_seq ?_
  refine awp_region ?_
  refine lv (.plain rfl) rfl rfl (opv_move rfl (Ev.eq (.t (.n 0 1 rfl)))) ?_
  refine lv (.plain rfl) rfl rfl (opv_len_sl Tryd.underlying22 rfl (Ev.eq (.t .here)) rfl) ?_
  refine lv (.plain rfl) rfl rfl (opv_gtr rfl (Ev.eq (.t .here)) (Ev.eq .i) rfl) ?_
  refine awpL_nil ?_
  refine psplit .here (fun h6 => ?_) (fun h6 => ?_)
  ·
   have q6 := h6
   try simp only [zs, List.length_map] at q6
   refine pcond_t (.t .here) h6 ?_
   refine awp_seq ?_
   refine awp_region ?_
   refine lv (.plain rfl) rfl rfl (opv_assign rfl (Ev.eq .b)) ?_
   refine awpL_nil ?_
   refine awp_ret ?_
   refine ret_now (.one (rv_t .here)) (Cast.all _ _) ?_
   refine ⟨?_, rfl⟩
   simp [shortF]; omega
  ·
   have q6 := h6
   try simp only [zs, List.length_map] at q6
   refine pcond_f (.t .here) h6 ?_
   refine awp_skip ?_
   refine awp_seq ?_
   refine awp_seq ?_
   refine awp_region ?_
   refine lv (.plain rfl) rfl rfl (opv_assign rfl (Ev.eq .i)) ?_
   refine awpL_nil ?_
   refine awp_block ?_
   refine ploop (fun (i : Nat) => ⟨21, [(0, .d (dRows l)), (3, .d (.i .i64 (i : Int)))], [], []⟩) (fun i => i ≤ l.length ∧ (l.take i).all (fun r => decide (r.v.s.size ≤ 100)) = true) (fun i => l.length - i) (0) (weak_both (.ce (.n 0 5 rfl) (by first | rfl | (simp; done) | (simp; omega)) (.ce .here (by first | rfl | (simp; done) | (simp; omega)) .nil)) (List.Sublist.refl _)) (by simp) ?_
   rintro i ⟨hi, hall⟩
   refine awp_seq ?_
   refine awp_seq ?_
   refine awp_region ?_
   refine lv (.plain rfl) rfl rfl (opv_move rfl (Ev.eq (.t (.n 3 1 rfl)))) ?_
   refine lv (.plain rfl) rfl rfl (opv_move rfl (Ev.eq (.t (.n 0 1 rfl)))) ?_
   refine lv (.plain rfl) rfl rfl (opv_len_sl Tryd.underlying22 rfl (Ev.eq (.t .here)) rfl) ?_
   refine lv (.plain rfl) rfl rfl (opv_lss rfl (Ev.eq (.t (.n 7 2 rfl))) (Ev.eq (.t .here)) rfl) ?_
   refine awpL_nil ?_
   refine psplit .here (fun h10 => ?_) (fun h10 => ?_)
   ·
    have q10 := h10
    try simp only [zs, List.length_map] at q10
    refine pcond_t (.t .here) h10 ?_
    refine awp_skip ?_
    refine awp_seq ?_
    refine awp_block ?_
    refine awp_seq ?_
    refine awp_region ?_
    refine lv (.plain rfl) rfl rfl (opv_move rfl (Ev.eq (.t (.n 0 4 rfl)))) ?_
    refine lv (.plain rfl) rfl rfl (opv_move rfl (Ev.eq (.t (.n 3 6 rfl)))) ?_
    obtain ⟨rw0, hk⟩ := some_at (l := l) (i := i) (by omega)
    refine lv (.plain rfl) rfl rfl (p_index (slT22) rfl (Ev.eq (.t (.n 13 1 rfl))) (Ev.eq (.t .here)) (by omega) (map_at hk) rfl) ?_
    refine lv (.plain rfl) rfl rfl (p_fieldf (fldT49_2) rfl (Ev.eq (.t .here)) rfl) ?_
    refine lv (.plain rfl) rfl rfl (p_fieldf (fldT47_2) rfl (Ev.eq (.t .here)) rfl) ?_
    refine lv (.plain rfl) rfl rfl (p_load1f (scT9) rfl (Ev.eq (.t .here))) ?_
    refine lv (.plain rfl) rfl rfl (opv_len_s Tryd.underlying9 rfl (Ev.eq (.t .here)) rfl) ?_
    refine lv (.plain rfl) rfl rfl (opv_gtr rfl (Ev.eq (.t .here)) (Ev.eq .i) rfl) ?_
    refine awpL_nil ?_
    refine psplit .here (fun h20 => ?_) (fun h20 => ?_)
    ·
     have q20 := h20
     try simp only [zs, List.length_map] at q20
     refine pcond_t (.t .here) h20 ?_
     refine awp_seq ?_
     refine awp_region ?_
     refine lv (.plain rfl) rfl rfl (opv_assign rfl (Ev.eq .b)) ?_
     refine awpL_nil ?_
     refine awp_ret ?_
     refine ret_now (.one (rv_t .here)) (Cast.all _ _) ?_
     have hm := List.mem_of_getElem? hk
     refine ⟨?_, rfl⟩
     simp only [shortF]
     simp
     intro _
     exact ⟨rw0, hm, by omega⟩
    ·
     have q20 := h20
     try simp only [zs, List.length_map] at q20
     refine pcond_f (.t .here) h20 ?_
     refine awp_skip ?_
     refine awp_region ?_
     refine lv (.plain rfl) rfl rfl (opv_move rfl (Ev.eq (.t (.n 3 13 rfl)))) ?_
     refine lv (.plain rfl) rfl rfl (opv_add rfl (Ev.eq (.t .here)) (Ev.eq .i) (wr64 (by omega) (by omega)) rfl) ?_
     refine lv (.plain rfl) rfl rfl (opv_assign rfl (Ev.eq (.t .here))) ?_
     refine awpL_nil ?_
     refine ⟨i + 1, by omega, ⟨by omega, by rw [List.take_add_one, hk]; simp [hall]; omega⟩, weak_both (.ce (.n 0 15 rfl) (by first | rfl | (simp; done) | (simp; omega)) (.ce .here (by first | rfl | (simp; done) | (simp; omega)) .nil)) (List.Sublist.refl _)⟩
   ·
    have q10 := h10
    try simp only [zs, List.length_map] at q10
    refine pcond_f (.t .here) h10 ?_
    refine awp_exit ?_
    refine awp_seq ?_
    refine awp_region ?_
    refine lv (.plain rfl) rfl rfl (opv_assign rfl (Ev.eq .b)) ?_
    refine awpL_nil ?_
    refine awp_ret ?_
    refine ret_now (.one (rv_t .here)) (Cast.all _ _) ?_
    obtain rfl : i = l.length := by omega
    rw [List.take_length] at hall
    refine ⟨?_, rfl⟩
    simp only [shortF, hall, Bool.and_true]
    simp; omega
theorem f28_spec : ∀ (t : Trie) (n deep : Int), t.lab → -4611686018427387904 ≤ n → n ≤ 4611686018427387904 → -4611686018427387904 ≤ deep → deep ≤ 4611686018427387904 → FSpec Tryd.prog 28 [aTrie t, .d (.i .i64 n), .d (.i .i64 deep)] (.d (.i .i64 (leftF t n deep))) := by
  intro t
  induction t using Trie.ind with
  | h l r ks ih =>
  intro n deep hl hn1 hn2 hd1 hd2
  simp only [aTrie, Trie.label, Trie.rows, Trie.kids]
  refine acalls_of Tryd.func28 rfl Tryd.ntmps28 Tryd.results28 (by simp) ?_
  have hlab := hl
  simp only [Trie.lab] at hlab
  refine awp_seq ?_
  refine awp_region ?_
  refine l_box (.plain rfl) rfl rfl rfl (.t .here) rfl rfl (fun g1 ng1 => ?_)
  refine lv (.plain rfl) rfl rfl (opv_assign rfl (Ev.eq .i)) ?_
  refine awpL_nil ?_
  refine awp_seq ?_
  refine awp_region ?_
  refine lv (.plain rfl) rfl rfl (opv_move rfl (Ev.eq (.t (.n 1 3 rfl)))) ?_
  refine lv (.plain rfl) rfl rfl (opv_sub rfl (Ev.eq (.t .here)) (Ev.eq .i) (wr64 (by omega) (by omega)) rfl) ?_
  refine lv (.plain rfl) rfl rfl (p_field (fldT25_0) rfl (Ev.eq (.t (.n 3 3 rfl))) (off' := 0) rfl) ?_
  refine lv (.plain rfl) rfl rfl (q_load1 (scT9) rfl (Ev.eq (.t .here)) .here .here) ?_
  refine lv (.plain rfl) rfl rfl (opv_len_s Tryd.underlying9 rfl (Ev.eq (.t .here)) rfl) ?_
  refine lv (.plain rfl) rfl rfl (opv_quo rfl (Ev.eq (.t .here)) (Ev.eq .i) (by omega) (wr_div (by omega) (by omega) (by omega)) rfl) ?_
  refine lv (.plain rfl) rfl rfl (opv_sub rfl (Ev.eq (.t (.n 9 4 rfl))) (Ev.eq (.t .here)) (wr64 (by omega) (by omega)) rfl) ?_
  refine lv (.plain rfl) rfl rfl (opv_assign rfl (Ev.eq (.t .here))) ?_
  refine awpL_nil ?_
  refine awp_seq ?_
  refine awp_seq ?_
  refine awp_region ?_
  refine lv (.plain rfl) rfl rfl (opv_move rfl (Ev.eq (.t (.n 2 12 rfl)))) ?_
  refine lv (.plain rfl) rfl rfl (opv_lss rfl (Ev.eq (.t .here)) (Ev.eq .i) rfl) ?_
  refine lv (.plain rfl) rfl rfl (opv_move rfl (Ev.eq (.t .here))) ?_
  refine lsplit (.n 16 1 rfl) (fun h16 => ?_) (fun h16 => ?_)
  ·
   have q16 := h16
   try simp only [zs, encTries_len, Bool.not_eq_eq_eq_not, Bool.not_true, Bool.not_false] at q16
   refine lo (.off rfl rfl .here h16) rfl rfl ?_
   refine lo (.off rfl rfl (.n 17 1 rfl) h16) rfl rfl ?_
   refine lv (.plain rfl) rfl rfl (opv_pick_t rfl (Ev.eq (.t (.n 17 2 rfl))) h16 (Ev.eq .b)) ?_
   refine lv (.plain rfl) rfl rfl (opv_move rfl (Ev.eq (.t .here))) ?_
   refine lo (.off rfl rfl .here rfl) rfl rfl ?_
   refine lo (.off rfl rfl (.n 21 1 rfl) rfl) rfl rfl ?_
   refine lo (.off rfl rfl (.n 21 2 rfl) rfl) rfl rfl ?_
   refine lo (.off rfl rfl (.n 21 3 rfl) rfl) rfl rfl ?_
   refine lv (.plain rfl) rfl rfl (opv_pick_t rfl (Ev.eq (.t (.n 21 4 rfl))) rfl (Ev.eq .b)) ?_
   refine awpL_nil ?_
   refine pcond_t (.t .here) rfl ?_
   refine awp_seq ?_
   refine awp_region ?_
   refine lv (.plain rfl) rfl rfl (opv_assign rfl (Ev.eq .i)) ?_
   refine awpL_nil ?_
   refine awp_ret ?_
   refine ret_now (.one (rv_t .here)) (Cast.all _ _) ?_
   refine ⟨?_, rfl⟩
   rw [leftF, if_pos (.inl (by omega))]
  ·
   have q16 := h16
   try simp only [zs, encTries_len, Bool.not_eq_eq_eq_not, Bool.not_true, Bool.not_false] at q16
   refine lv (.on rfl rfl .here h16) rfl rfl (opv_move rfl (Ev.eq (.t (.n 1 3 rfl)))) ?_
   refine lv (.on rfl rfl (.n 17 1 rfl) h16) rfl rfl (opv_lss rfl (Ev.eq (.t .here)) (Ev.eq .i) rfl) ?_
   refine lv (.plain rfl) rfl rfl (opv_pick_f rfl (Ev.eq (.t (.n 17 2 rfl))) h16 (Ev.eq (.t .here))) ?_
   refine lv (.plain rfl) rfl rfl (opv_move rfl (Ev.eq (.t .here))) ?_
   refine lsplit (.n 19 2 rfl) (fun h19 => ?_) (fun h19 => ?_)
   ·
    have q19 := h19
    try simp only [zs, encTries_len, Bool.not_eq_eq_eq_not, Bool.not_true, Bool.not_false] at q19
    refine lo (.off rfl rfl .here h19) rfl rfl ?_
    refine lo (.off rfl rfl (.n 21 1 rfl) h19) rfl rfl ?_
    refine lo (.off rfl rfl (.n 21 2 rfl) h19) rfl rfl ?_
    refine lo (.off rfl rfl (.n 21 3 rfl) h19) rfl rfl ?_
    refine lv (.plain rfl) rfl rfl (opv_pick_t rfl (Ev.eq (.t (.n 21 4 rfl))) h19 (Ev.eq .b)) ?_
    refine awpL_nil ?_
    refine pcond_t (.t .here) rfl ?_
    refine awp_seq ?_
    refine awp_region ?_
    refine lv (.plain rfl) rfl rfl (opv_assign rfl (Ev.eq .i)) ?_
    refine awpL_nil ?_
    refine awp_ret ?_
    refine ret_now (.one (rv_t .here)) (Cast.all _ _) ?_
    refine ⟨?_, rfl⟩
    rw [leftF, if_pos (.inr (.inl (by omega)))]
   ·
    have q19 := h19
    try simp only [zs, encTries_len, Bool.not_eq_eq_eq_not, Bool.not_true, Bool.not_false] at q19
    refine lv (.on rfl rfl .here h19) rfl rfl (p_field (fldT25_1) rfl (Ev.eq (.t (.n 3 16 rfl))) (off' := 1) rfl) ?_
    refine lv (.on rfl rfl (.n 21 1 rfl) h19) rfl rfl (q_load1 (scT22) rfl (Ev.eq (.t .here)) .here (.there .here)) ?_
    refine lv (.on rfl rfl (.n 21 2 rfl) h19) rfl rfl (q_call rfl .f Tryd.call63 (.cons (.t .here) .nil) rfl (f63_spec _)) ?_
    refine lv (.on rfl rfl (.n 21 3 rfl) h19) rfl rfl (opv_not rfl (Ev.eq (.t .here)) rfl) ?_
    refine lv (.plain rfl) rfl rfl (opv_pick_f rfl (Ev.eq (.t (.n 21 4 rfl))) h19 (Ev.eq (.t .here))) ?_
    refine awpL_nil ?_
    refine psplit (.n 24 2 rfl) (fun h24 => ?_) (fun h24 => ?_)
    ·
     have q24 := h24
     try simp only [zs, encTries_len, Bool.not_eq_eq_eq_not, Bool.not_true, Bool.not_false] at q24
     refine pcond_f (.t .here) (congrArg not h24) ?_
     refine awp_skip ?_
     refine awp_seq ?_
     refine awp_seq ?_
     refine awp_region ?_
     refine lv (.plain rfl) rfl rfl (opv_assign rfl (Ev.eq .i)) ?_
     refine awpL_nil ?_
     refine awp_block ?_
     refine ploop (fun (a : Nat × Int) => ⟨48, [(1, .d (.i .i64 a.2)), (2, .d (.i .i64 deep)), (3, .ptr g1 0), (7, .d (.i .i64 (a.1 : Int)))], [(g1, .var 25 [.d (.s l), .d (dRows r), .d (.sl (encTries ks))])], []⟩) (fun a => a.1 ≤ ks.length ∧ 0 ≤ a.2 ∧ a.2 ≤ 4611686018427387904 ∧ leftKs (ks.drop a.1) a.2 (deep - 1) = leftKs ks (n - 1 - (l.size : Int) / 50) (deep - 1)) (fun a => ks.length - a.1) ((0, n - 1 - (l.size : Int) / 50)) (weak_both (.ce (.n 1 13 rfl) (by first | rfl | (simp; done) | (simp; omega)) (.ce (.n 2 25 rfl) (by first | rfl | (simp; done) | (simp; omega)) (.ce (.n 3 22 rfl) (by first | rfl | (simp; done) | (simp; omega)) (.ce .here (by first | rfl | (simp; done) | (simp; omega)) .nil)))) (List.Sublist.refl _)) (by dsimp only; exact ⟨by omega, by omega, by omega, by simp⟩) ?_
     rintro ⟨i, m⟩ ⟨hi, hm0, hm1, hEQ⟩
     dsimp only at hi hm0 hm1 hEQ
     refine awp_seq ?_
     refine awp_seq ?_
     refine awp_region ?_
     refine lv (.plain rfl) rfl rfl (opv_move rfl (Ev.eq (.t (.n 7 3 rfl)))) ?_
     refine lv (.plain rfl) rfl rfl (p_field (fldT25_2) rfl (Ev.eq (.t (.n 3 3 rfl))) (off' := 2) rfl) ?_
     refine lv (.plain rfl) rfl rfl (q_load1 (scT23) rfl (Ev.eq (.t .here)) .here (.there (.there .here))) ?_
     refine lv (.plain rfl) rfl rfl (opv_len_sl Tryd.underlying23 rfl (Ev.eq (.t .here)) rfl) ?_
     refine lv (.plain rfl) rfl rfl (opv_lss rfl (Ev.eq (.t (.n 27 3 rfl))) (Ev.eq (.t .here)) rfl) ?_
     refine lv (.plain rfl) rfl rfl (opv_move rfl (Ev.eq (.t .here))) ?_
     refine lsplit (.n 31 1 rfl) (fun h31 => ?_) (fun h31 => ?_)
     ·
      have q31 := h31
      try simp only [zs, encTries_len, Bool.not_eq_eq_eq_not, Bool.not_true, Bool.not_false] at q31
      refine lv (.on rfl rfl .here h31) rfl rfl (opv_move rfl (Ev.eq (.t (.n 1 6 rfl)))) ?_
      refine lv (.on rfl rfl (.n 32 1 rfl) h31) rfl rfl (opv_gtr rfl (Ev.eq (.t .here)) (Ev.eq .i) rfl) ?_
      refine lv (.plain rfl) rfl rfl (opv_pick_t rfl (Ev.eq (.t (.n 32 2 rfl))) h31 (Ev.eq (.t .here))) ?_
      refine awpL_nil ?_
      refine psplit (.n 34 1 rfl) (fun h34 => ?_) (fun h34 => ?_)
      ·
       have q34 := h34
       try simp only [zs, encTries_len, Bool.not_eq_eq_eq_not, Bool.not_true, Bool.not_false] at q34
       refine pcond_t (.t .here) h34 ?_
       refine awp_skip ?_
       refine awp_seq ?_
       refine awp_block ?_
       refine awp_region ?_
       refine lv (.plain rfl) rfl rfl (p_field (fldT25_2) rfl (Ev.eq (.t (.n 3 11 rfl))) (off' := 2) rfl) ?_
       refine lv (.plain rfl) rfl rfl (q_load1 (scT23) rfl (Ev.eq (.t .here)) .here (.there (.there .here))) ?_
       refine lv (.plain rfl) rfl rfl (opv_move rfl (Ev.eq (.t (.n 7 14 rfl)))) ?_
       obtain ⟨kd, hk⟩ := some_at (l := ks) (i := i) (by omega)
       obtain ⟨kl, kr, kk⟩ := kd
       refine lv (.plain rfl) rfl rfl (p_index (slT23) rfl (Ev.eq (.t (.n 39 1 rfl))) (Ev.eq (.t .here)) (by omega) (encTries_at hk) rfl) ?_
       refine lv (.plain rfl) rfl rfl (p_loadnf (agT25) rfl (Ev.eq (.t .here)) (Nat.le_of_ble_eq_true rfl) rfl) ?_
       refine lv (.plain rfl) rfl rfl (opv_move rfl (Ev.eq (.t (.n 1 14 rfl)))) ?_
       refine lv (.plain rfl) rfl rfl (opv_move rfl (Ev.eq (.t (.n 2 16 rfl)))) ?_
       refine lv (.plain rfl) rfl rfl (opv_sub rfl (Ev.eq (.t .here)) (Ev.eq .i) (wr64 (by omega) (by omega)) rfl) ?_
       refine lv (.plain rfl) rfl rfl (q_call rfl .f Tryd.call28 (.cons (.t (.n 42 3 rfl)) (.cons (.t (.n 43 2 rfl)) (.cons (.t .here) .nil))) rfl (ih _ (List.mem_of_getElem? hk) m (deep - 1) (labs_mem hlab.2.2.2 (List.mem_of_getElem? hk)) (by omega) (by omega) (by omega) (by omega))) ?_
       refine lv (.plain rfl) rfl rfl (opv_assign rfl (Ev.eq (.t .here))) ?_
       refine awpL_nil ?_
       refine awp_region ?_
       have hmem := List.mem_of_getElem? hk
       have hb := leftF_bd (.mk kl kr kk) m (deep - 1)
       have hnx : leftKs (ks.drop (i + 1)) (leftF (.mk kl kr kk) m (deep - 1)) (deep - 1) = leftKs ks (n - 1 - (l.size : Int) / 50) (deep - 1) := by rw [← hEQ, List.drop_eq_getElem_cons (l := ks) (i := i) (by omega), leftKs, if_pos (by omega), (List.getElem?_eq_some_iff.1 hk).2]
       refine lv (.plain rfl) rfl rfl (opv_move rfl (Ev.eq (.t (.n 7 22 rfl)))) ?_
       refine lv (.plain rfl) rfl rfl (opv_add rfl (Ev.eq (.t .here)) (Ev.eq .i) (wr64 (by omega) (by omega)) rfl) ?_
       refine lv (.plain rfl) rfl rfl (opv_assign rfl (Ev.eq (.t .here))) ?_
       refine awpL_nil ?_
       refine ⟨(i + 1, leftF (.mk kl kr kk) m (deep - 1)), by dsimp only; omega, ⟨by dsimp only; omega, hb.1, by dsimp only; omega, hnx⟩, weak_both (.ce (.n 1 3 rfl) (by first | rfl | (simp; done) | (simp; omega)) (.ce (.n 2 23 rfl) (by first | rfl | (simp; done) | (simp; omega)) (.ce (.n 3 24 rfl) (by first | rfl | (simp; done) | (simp; omega)) (.ce .here (by first | rfl | (simp; done) | (simp; omega)) .nil)))) (List.Sublist.refl _)⟩
      ·
       have q34 := h34
       try simp only [zs, encTries_len, Bool.not_eq_eq_eq_not, Bool.not_true, Bool.not_false] at q34
       refine pcond_f (.t .here) h34 ?_
       refine awp_exit ?_
       refine awp_seq ?_
       refine awp_region ?_
       refine lv (.plain rfl) rfl rfl (opv_move rfl (Ev.eq (.t (.n 1 9 rfl)))) ?_
       refine lv (.plain rfl) rfl rfl (opv_assign rfl (Ev.eq (.t .here))) ?_
       refine awpL_nil ?_
       refine awp_ret ?_
       refine ret_now (.one (rv_t .here)) (Cast.all _ _) ?_
       have e := List.drop_eq_getElem_cons (l := ks) (i := i) (by omega)
       rw [e, leftKs, if_neg (by omega)] at hEQ
       refine ⟨?_, rfl⟩
       rw [leftF, if_neg (by rw [h24]; simp; omega), ← hEQ]
     ·
      have q31 := h31
      try simp only [zs, encTries_len, Bool.not_eq_eq_eq_not, Bool.not_true, Bool.not_false] at q31
      refine lo (.off rfl rfl .here h31) rfl rfl ?_
      refine lo (.off rfl rfl (.n 32 1 rfl) h31) rfl rfl ?_
      refine lv (.plain rfl) rfl rfl (opv_pick_f rfl (Ev.eq (.t (.n 32 2 rfl))) h31 (Ev.eq .b)) ?_
      refine awpL_nil ?_
      refine pcond_f (.t .here) rfl ?_
      refine awp_exit ?_
      refine awp_seq ?_
      refine awp_region ?_
      refine lv (.plain rfl) rfl rfl (opv_move rfl (Ev.eq (.t (.n 1 9 rfl)))) ?_
      refine lv (.plain rfl) rfl rfl (opv_assign rfl (Ev.eq (.t .here))) ?_
      refine awpL_nil ?_
      refine awp_ret ?_
      refine ret_now (.one (rv_t .here)) (Cast.all _ _) ?_
      have e : i = ks.length := by omega
      subst e
      rw [List.drop_length] at hEQ
      refine ⟨?_, rfl⟩
      rw [leftF, if_neg (by rw [h24]; simp; omega), ← hEQ, leftKs]
    ·
     have q24 := h24
     try simp only [zs, encTries_len, Bool.not_eq_eq_eq_not, Bool.not_true, Bool.not_false] at q24
     refine pcond_t (.t .here) (congrArg not h24) ?_
     refine awp_seq ?_
     refine awp_region ?_
     refine lv (.plain rfl) rfl rfl (opv_assign rfl (Ev.eq .i)) ?_
     refine awpL_nil ?_
     refine awp_ret ?_
     refine ret_now (.one (rv_t .here)) (Cast.all _ _) ?_
     refine ⟨?_, rfl⟩
     rw [leftF, if_pos (.inr (.inr h24))]
end Go.Proofs.YtjnkbmodcddbkaaDoor
