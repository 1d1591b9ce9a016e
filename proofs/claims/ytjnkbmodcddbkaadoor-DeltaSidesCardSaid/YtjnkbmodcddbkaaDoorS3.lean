/- Rows and trees that are right. -/
import Derived.Test.YtjnkbmodcddbkaaDoorTy
import Derived.Test.YtjnkbmodcddbkaaDoorS0b
set_option linter.unusedVariables false
set_option linter.unusedSimpArgs false
namespace Go.Proofs.YtjnkbmodcddbkaaDoor
open Go Go.RowKit
theorem f85_spec (a b : Int) : FSpec Tryd.prog 85 [.d (.i .i64 a), .d (.i .i64 b)] (.d (.b (spanB a b))) := by
  refine acalls_of Tryd.func85 rfl Tryd.ntmps85 Tryd.results85 (by simp) ?_
  refine awp_seq ?_
  refine awp_region ?_
  refine lv (.plain rfl) rfl rfl (opv_assign rfl (Ev.eq .b)) ?_
  refine awpL_nil ?_
  refine awp_seq ?_
  refine awp_region ?_
  refine lv (.plain rfl) rfl rfl (opv_move rfl (Ev.eq (.t (.n 0 1 rfl)))) ?_
  refine lv (.plain rfl) rfl rfl (opv_geq rfl (Ev.eq (.t .here)) (Ev.eq .i) rfl) ?_
  refine lv (.plain rfl) rfl rfl (opv_move rfl (Ev.eq (.t .here))) ?_
  refine lsplit (.n 6 1 rfl) (fun h6 => ?_) (fun h6 => ?_)
  ·
   have q6 := h6
   try simp only [zs, List.length_map] at q6
   refine lv (.on rfl rfl .here h6) rfl rfl (opv_move rfl (Ev.eq (.t (.n 0 4 rfl)))) ?_
   refine lv (.on rfl rfl (.n 7 1 rfl) h6) rfl rfl (opv_move rfl (Ev.eq (.t (.n 1 6 rfl)))) ?_
   refine lv (.on rfl rfl (.n 7 2 rfl) h6) rfl rfl (opv_lss rfl (Ev.eq (.t (.n 8 1 rfl))) (Ev.eq (.t .here)) rfl) ?_
   refine lv (.plain rfl) rfl rfl (opv_pick_t rfl (Ev.eq (.t (.n 7 3 rfl))) h6 (Ev.eq (.t .here))) ?_
   refine lv (.plain rfl) rfl rfl (opv_move rfl (Ev.eq (.t .here))) ?_
   refine lsplit (.n 10 2 rfl) (fun h10 => ?_) (fun h10 => ?_)
   ·
    have q10 := h10
    try simp only [zs, List.length_map] at q10
    refine lv (.on rfl rfl .here h10) rfl rfl (opv_move rfl (Ev.eq (.t (.n 1 10 rfl)))) ?_
    refine lv (.on rfl rfl (.n 12 1 rfl) h10) rfl rfl (opv_leq rfl (Ev.eq (.t .here)) (Ev.eq .i) rfl) ?_
    refine lv (.plain rfl) rfl rfl (opv_pick_t rfl (Ev.eq (.t (.n 12 2 rfl))) h10 (Ev.eq (.t .here))) ?_
    refine lv (.plain rfl) rfl rfl (opv_assign rfl (Ev.eq (.t .here))) ?_
    refine awpL_nil ?_
    refine awp_ret ?_
    refine ret_now (.one (rv_t .here)) (Cast.all _ _) ?_
    refine ⟨congrArg (fun x => AV.d (D.b x)) (Bool.eq_iff_iff.2 ?_), rfl⟩
    simp_all [spanB]
    try omega
   ·
    have q10 := h10
    try simp only [zs, List.length_map] at q10
    refine lo (.off rfl rfl .here h10) rfl rfl ?_
    refine lo (.off rfl rfl (.n 12 1 rfl) h10) rfl rfl ?_
    refine lv (.plain rfl) rfl rfl (opv_pick_f rfl (Ev.eq (.t (.n 12 2 rfl))) h10 (Ev.eq .b)) ?_
    refine lv (.plain rfl) rfl rfl (opv_assign rfl (Ev.eq (.t .here))) ?_
    refine awpL_nil ?_
    refine awp_ret ?_
    refine ret_now (.one (rv_t .here)) (Cast.all _ _) ?_
    refine ⟨congrArg (fun x => AV.d (D.b x)) (Bool.eq_iff_iff.2 ?_), rfl⟩
    simp_all [spanB]
    try omega
  ·
   have q6 := h6
   try simp only [zs, List.length_map] at q6
   refine lo (.off rfl rfl .here h6) rfl rfl ?_
   refine lo (.off rfl rfl (.n 7 1 rfl) h6) rfl rfl ?_
   refine lo (.off rfl rfl (.n 7 2 rfl) h6) rfl rfl ?_
   refine lv (.plain rfl) rfl rfl (opv_pick_f rfl (Ev.eq (.t (.n 7 3 rfl))) h6 (Ev.eq .b)) ?_
   refine lv (.plain rfl) rfl rfl (opv_move rfl (Ev.eq (.t .here))) ?_
   refine lo (.off rfl rfl .here rfl) rfl rfl ?_
   refine lo (.off rfl rfl (.n 12 1 rfl) rfl) rfl rfl ?_
   refine lv (.plain rfl) rfl rfl (opv_pick_f rfl (Ev.eq (.t (.n 12 2 rfl))) rfl (Ev.eq .b)) ?_
   refine lv (.plain rfl) rfl rfl (opv_assign rfl (Ev.eq (.t .here))) ?_
   refine awpL_nil ?_
   refine awp_ret ?_
   refine ret_now (.one (rv_t .here)) (Cast.all _ _) ?_
   refine ⟨congrArg (fun x => AV.d (D.b x)) (Bool.eq_iff_iff.2 ?_), rfl⟩
   simp_all [spanB]
   try omega
theorem f128_spec (a b : Int) : FSpec Tryd.prog 128 [.d (.i .i64 a), .d (.i .i64 b)] (.d (.b (spanB a b))) := by
  refine acalls_of Tryd.func128 rfl Tryd.ntmps128 Tryd.results128 (by simp) ?_
  refine awp_seq ?_
  refine awp_region ?_
  refine lv (.plain rfl) rfl rfl (opv_assign rfl (Ev.eq .b)) ?_
  refine awpL_nil ?_
  refine awp_seq ?_
  refine awp_region ?_
  refine lv (.plain rfl) rfl rfl (opv_move rfl (Ev.eq (.t (.n 0 1 rfl)))) ?_
  refine lv (.plain rfl) rfl rfl (opv_geq rfl (Ev.eq (.t .here)) (Ev.eq .i) rfl) ?_
  refine lv (.plain rfl) rfl rfl (opv_move rfl (Ev.eq (.t .here))) ?_
  refine lsplit (.n 6 1 rfl) (fun h6 => ?_) (fun h6 => ?_)
  ·
   have q6 := h6
   try simp only [zs, List.length_map] at q6
   refine lv (.on rfl rfl .here h6) rfl rfl (opv_move rfl (Ev.eq (.t (.n 0 4 rfl)))) ?_
   refine lv (.on rfl rfl (.n 7 1 rfl) h6) rfl rfl (opv_move rfl (Ev.eq (.t (.n 1 6 rfl)))) ?_
   refine lv (.on rfl rfl (.n 7 2 rfl) h6) rfl rfl (opv_lss rfl (Ev.eq (.t (.n 8 1 rfl))) (Ev.eq (.t .here)) rfl) ?_
   refine lv (.plain rfl) rfl rfl (opv_pick_t rfl (Ev.eq (.t (.n 7 3 rfl))) h6 (Ev.eq (.t .here))) ?_
   refine lv (.plain rfl) rfl rfl (opv_move rfl (Ev.eq (.t .here))) ?_
   refine lsplit (.n 10 2 rfl) (fun h10 => ?_) (fun h10 => ?_)
   ·
    have q10 := h10
    try simp only [zs, List.length_map] at q10
    refine lv (.on rfl rfl .here h10) rfl rfl (opv_move rfl (Ev.eq (.t (.n 1 10 rfl)))) ?_
    refine lv (.on rfl rfl (.n 12 1 rfl) h10) rfl rfl (opv_leq rfl (Ev.eq (.t .here)) (Ev.eq .i) rfl) ?_
    refine lv (.plain rfl) rfl rfl (opv_pick_t rfl (Ev.eq (.t (.n 12 2 rfl))) h10 (Ev.eq (.t .here))) ?_
    refine lv (.plain rfl) rfl rfl (opv_assign rfl (Ev.eq (.t .here))) ?_
    refine awpL_nil ?_
    refine awp_ret ?_
    refine ret_now (.one (rv_t .here)) (Cast.all _ _) ?_
    refine ⟨congrArg (fun x => AV.d (D.b x)) (Bool.eq_iff_iff.2 ?_), rfl⟩
    simp_all [spanB]
    try omega
   ·
    have q10 := h10
    try simp only [zs, List.length_map] at q10
    refine lo (.off rfl rfl .here h10) rfl rfl ?_
    refine lo (.off rfl rfl (.n 12 1 rfl) h10) rfl rfl ?_
    refine lv (.plain rfl) rfl rfl (opv_pick_f rfl (Ev.eq (.t (.n 12 2 rfl))) h10 (Ev.eq .b)) ?_
    refine lv (.plain rfl) rfl rfl (opv_assign rfl (Ev.eq (.t .here))) ?_
    refine awpL_nil ?_
    refine awp_ret ?_
    refine ret_now (.one (rv_t .here)) (Cast.all _ _) ?_
    refine ⟨congrArg (fun x => AV.d (D.b x)) (Bool.eq_iff_iff.2 ?_), rfl⟩
    simp_all [spanB]
    try omega
  ·
   have q6 := h6
   try simp only [zs, List.length_map] at q6
   refine lo (.off rfl rfl .here h6) rfl rfl ?_
   refine lo (.off rfl rfl (.n 7 1 rfl) h6) rfl rfl ?_
   refine lo (.off rfl rfl (.n 7 2 rfl) h6) rfl rfl ?_
   refine lv (.plain rfl) rfl rfl (opv_pick_f rfl (Ev.eq (.t (.n 7 3 rfl))) h6 (Ev.eq .b)) ?_
   refine lv (.plain rfl) rfl rfl (opv_move rfl (Ev.eq (.t .here))) ?_
   refine lo (.off rfl rfl .here rfl) rfl rfl ?_
   refine lo (.off rfl rfl (.n 12 1 rfl) rfl) rfl rfl ?_
   refine lv (.plain rfl) rfl rfl (opv_pick_f rfl (Ev.eq (.t (.n 12 2 rfl))) rfl (Ev.eq .b)) ?_
   refine lv (.plain rfl) rfl rfl (opv_assign rfl (Ev.eq (.t .here))) ?_
   refine awpL_nil ?_
   refine awp_ret ?_
   refine ret_now (.one (rv_t .here)) (Cast.all _ _) ?_
   refine ⟨congrArg (fun x => AV.d (D.b x)) (Bool.eq_iff_iff.2 ?_), rfl⟩
   simp_all [spanB]
   try omega
theorem f56_spec (s : ByteArray) : FSpec Tryd.prog 56 [.d (.s s)] (.d (.b (decide (s ≠ ⟨#[]⟩ ∧ s.size ≤ 24)))) := by
  refine acalls_of Tryd.func56 rfl Tryd.ntmps56 Tryd.results56 (by simp) ?_
  refine awp_seq ?_
  refine awp_region ?_
  refine lv (.plain rfl) rfl rfl (opv_assign rfl (Ev.eq .b)) ?_
  refine awpL_nil ?_
  refine awp_seq ?_
  refine awp_region ?_
  refine lv (.plain rfl) rfl rfl (opv_move rfl (Ev.eq (.t (.n 0 1 rfl)))) ?_
  refine lv (.plain rfl) rfl rfl (opv_neq_s rfl (Ev.eq (.t .here)) (Ev.eq .s) rfl) ?_
  refine lv (.plain rfl) rfl rfl (opv_move rfl (Ev.eq (.t .here))) ?_
  refine lsplit (.n 4 1 rfl) (fun h4 => ?_) (fun h4 => ?_)
  ·
   have q4 := h4
   try simp only [zs, List.length_map] at q4
   refine lv (.on rfl rfl .here h4) rfl rfl (opv_move rfl (Ev.eq (.t (.n 0 4 rfl)))) ?_
   refine lv (.on rfl rfl (.n 5 1 rfl) h4) rfl rfl (opv_len_s Tryd.underlying9 rfl (Ev.eq (.t .here)) rfl) ?_
   refine lv (.on rfl rfl (.n 5 2 rfl) h4) rfl rfl (opv_leq rfl (Ev.eq (.t .here)) (Ev.eq .i) rfl) ?_
   refine lv (.plain rfl) rfl rfl (opv_pick_t rfl (Ev.eq (.t (.n 5 3 rfl))) h4 (Ev.eq (.t .here))) ?_
   refine lv (.plain rfl) rfl rfl (opv_assign rfl (Ev.eq (.t .here))) ?_
   refine awpL_nil ?_
   refine awp_ret ?_
   refine ret_now (.one (rv_t .here)) (Cast.all _ _) ?_
   refine ⟨congrArg (fun x => AV.d (D.b x)) (Bool.eq_iff_iff.2 ?_), rfl⟩
   simp_all [bl_inj]
   try omega
  ·
   have q4 := h4
   try simp only [zs, List.length_map] at q4
   refine lo (.off rfl rfl .here h4) rfl rfl ?_
   refine lo (.off rfl rfl (.n 5 1 rfl) h4) rfl rfl ?_
   refine lo (.off rfl rfl (.n 5 2 rfl) h4) rfl rfl ?_
   refine lv (.plain rfl) rfl rfl (opv_pick_f rfl (Ev.eq (.t (.n 5 3 rfl))) h4 (Ev.eq .b)) ?_
   refine lv (.plain rfl) rfl rfl (opv_assign rfl (Ev.eq (.t .here))) ?_
   refine awpL_nil ?_
   refine awp_ret ?_
   refine ret_now (.one (rv_t .here)) (Cast.all _ _) ?_
   refine ⟨congrArg (fun x => AV.d (D.b x)) (Bool.eq_iff_iff.2 ?_), rfl⟩
   simp_all [bl_inj]
   try omega
theorem f103_spec (s : ByteArray) (h : s.size ≤ 40) : FSpec Tryd.prog 103 [.d (.s s)] (.d (.i .i64 (runesR s))) := by
  refine acalls_of Tryd.func103 rfl Tryd.ntmps103 Tryd.results103 (by simp) ?_
  refine awp_seq ?_
  refine awp_region ?_
  refine lv (.plain rfl) rfl rfl (opv_assign rfl (Ev.eq .i)) ?_
  refine awpL_nil ?_
  refine awp_seq ?_
  refine awp_region ?_
  refine l_alloc zT3 (.plain rfl) rfl rfl rfl (fun g1 ng1 => ?_)
  refine l_store1 Tryd.sizeOf3 (.plain rfl) rfl rfl (.t .here) .i rfl .here .here ?_
  refine awpL_nil ?_
  refine awp_seq ?_
  refine awp_seq ?_
  refine awp_region ?_
  refine lv (.plain rfl) rfl rfl (opv_move rfl (Ev.eq (.t (.n 0 2 rfl)))) ?_
  refine lv (.plain rfl) rfl rfl (q_makeFunc rfl (.cons (.t (.n 3 1 rfl)) .nil)) ?_
  refine l_xd (.plain rfl) rfl rfl (x_calla (hf := []) rfl .f Tryd.call120 (.cons (.t (.n 4 1 rfl)) (.cons (.t .here) .nil)) rfl rfl (f120_at s (by omega) _)) ?_
  rintro _ _ ⟨_, ⟨k, rfl, rfl, hk⟩, rfl⟩
  dsimp only [List.nil_append]
  refine lv (.plain rfl) rfl rfl (opv_not rfl (Ev.eq (.t .here)) rfl) ?_
  refine awpL_nil ?_
  refine psplit (.n 6 1 rfl) (fun h6 => ?_) (fun h6 => ?_)
  ·
   have q6 := h6
   try simp only [zs, List.length_map] at q6
   refine pcond_f (.t .here) (congrArg not h6) ?_
   refine awp_skip ?_
   refine awp_seq ?_
   refine awp_region ?_
   refine lv (.plain rfl) rfl rfl (q_load1 (scT3) rfl (Ev.eq (.t (.n 3 4 rfl))) .here .here) ?_
   refine lv (.plain rfl) rfl rfl (opv_assign rfl (Ev.eq (.t .here))) ?_
   refine awpL_nil ?_
   refine awp_ret ?_
   refine ret_now (.one (rv_t .here)) (Cast.all _ _) ?_
   rw [hk q6]
   exact ⟨rfl, rfl⟩
  ·
   have q6 := h6
   try simp only [zs, List.length_map] at q6
   refine pcond_t (.t .here) (congrArg not h6) ?_
   refine awp_seq ?_
   refine awp_region ?_
   refine lv (.plain rfl) rfl rfl (opv_assign rfl (Ev.eq .i)) ?_
   refine awpL_nil ?_
   refine awp_ret ?_
   refine ret_now (.one (rv_t .here)) (Cast.all _ _) ?_
   rw [show runesR s = -1 from runesF_neg s s.size 0 (by show runesR s < 0; omega)]
   exact ⟨rfl, rfl⟩
theorem f86_spec (v : Val) : FSpec Tryd.prog 86 [.agg [.d (.i .i64 v.kind), .d (.i .i64 v.n), .d (.s v.s)]] (.d (.i .i64 (erI (valB v)))) := by
  refine acalls_of Tryd.func86 rfl Tryd.ntmps86 Tryd.results86 (by simp) ?_
  refine awp_seq ?_
  refine awp_region ?_
  refine l_box (.plain rfl) rfl rfl rfl (.t .here) rfl rfl (fun g1 ng1 => ?_)
  refine lv (.plain rfl) rfl rfl (opv_assign rfl (Ev.eq .i)) ?_
  refine awpL_nil ?_
  refine awp_seq ?_
  refine awp_seq ?_
  refine awp_region ?_
  refine lv (.plain rfl) rfl rfl (p_field (fldT47_0) rfl (Ev.eq (.t (.n 1 1 rfl))) (off' := 0) rfl) ?_
  refine lv (.plain rfl) rfl rfl (q_load1 (scT45) rfl (Ev.eq (.t .here)) .here .here) ?_
  refine awpL_nil ?_
  refine awp_block ?_
  refine awp_seq ?_
  refine awp_region ?_
  refine lv (.plain rfl) rfl rfl (opv_eql_i rfl (Ev.eq (.t .here)) (Ev.eq .i) rfl) ?_
  refine lv (.plain rfl) rfl rfl (opv_assign rfl (Ev.eq (.t .here))) ?_
  refine awpL_nil ?_
  refine psplit (.n 6 1 rfl) (fun h6 => ?_) (fun h6 => ?_)
  ·
   have q6 := h6
   try simp only [zs, bl_inj] at q6
   refine pcond_t (.t .here) h6 ?_
   refine awp_seq ?_
   refine awp_region ?_
   refine lv (.plain rfl) rfl rfl (p_field (fldT47_2) rfl (Ev.eq (.t (.n 1 5 rfl))) (off' := 2) rfl) ?_
   refine lv (.plain rfl) rfl rfl (q_load1 (scT9) rfl (Ev.eq (.t .here)) .here (.there (.there .here))) ?_
   refine lv (.plain rfl) rfl rfl (opv_eql_s rfl (Ev.eq (.t .here)) (Ev.eq .s) rfl) ?_
   refine awpL_nil ?_
   refine psplit .here (fun h9 => ?_) (fun h9 => ?_)
   ·
    have q9 := h9
    try simp only [zs, bl_inj] at q9
    refine pcond_t (.t .here) h9 ?_
    refine awp_seq ?_
    refine awp_region ?_
    refine lv (.plain rfl) rfl rfl (opv_assign rfl (Ev.eq .i)) ?_
    refine awpL_nil ?_
    refine awp_ret ?_
    refine ret_now (.one (rv_t .here)) (Cast.all _ _) ?_
    refine ⟨congrArg (fun x => AV.d (D.i .i64 x)) ?_, rfl⟩
    simp_all [erI, valB, bl_inj]
    try omega
   ·
    have q9 := h9
    try simp only [zs, bl_inj] at q9
    refine pcond_f (.t .here) h9 ?_
    refine awp_skip ?_
    refine awp_seq ?_
    refine awp_region ?_
    refine lv (.plain rfl) rfl rfl (opv_assign rfl (Ev.eq .i)) ?_
    refine awpL_nil ?_
    refine awp_ret ?_
    refine ret_now (.one (rv_t .here)) (Cast.all _ _) ?_
    refine ⟨congrArg (fun x => AV.d (D.i .i64 x)) ?_, rfl⟩
    simp_all [erI, valB, bl_inj]
    try omega
  ·
   have q6 := h6
   try simp only [zs, bl_inj] at q6
   refine pcond_f (.t .here) h6 ?_
   refine awp_seq ?_
   refine awp_region ?_
   refine lv (.plain rfl) rfl rfl (opv_eql_i rfl (Ev.eq (.t (.n 4 2 rfl))) (Ev.eq .i) rfl) ?_
   refine lv (.plain rfl) rfl rfl (opv_assign rfl (Ev.eq (.t .here))) ?_
   refine awpL_nil ?_
   refine psplit (.n 11 1 rfl) (fun h11 => ?_) (fun h11 => ?_)
   ·
    have q11 := h11
    try simp only [zs, bl_inj] at q11
    refine pcond_t (.t .here) h11 ?_
    refine awp_seq ?_
    refine awp_region ?_
    refine lv (.plain rfl) rfl rfl (p_field (fldT47_1) rfl (Ev.eq (.t (.n 1 7 rfl))) (off' := 1) rfl) ?_
    refine lv (.plain rfl) rfl rfl (q_load1 (scT3) rfl (Ev.eq (.t .here)) .here (.there .here)) ?_
    refine lv (.plain rfl) rfl rfl (opv_eql_i rfl (Ev.eq (.t .here)) (Ev.eq .i) rfl) ?_
    refine lv (.plain rfl) rfl rfl (opv_move rfl (Ev.eq (.t .here))) ?_
    refine lsplit (.n 14 1 rfl) (fun h14 => ?_) (fun h14 => ?_)
    ·
     have q14 := h14
     try simp only [zs, bl_inj] at q14
     refine lv (.on rfl rfl .here h14) rfl rfl (p_field (fldT47_2) rfl (Ev.eq (.t (.n 1 11 rfl))) (off' := 2) rfl) ?_
     refine lv (.on rfl rfl (.n 15 1 rfl) h14) rfl rfl (q_load1 (scT9) rfl (Ev.eq (.t .here)) .here (.there (.there .here))) ?_
     refine lv (.on rfl rfl (.n 15 2 rfl) h14) rfl rfl (opv_len_s Tryd.underlying9 rfl (Ev.eq (.t .here)) rfl) ?_
     refine lv (.on rfl rfl (.n 15 3 rfl) h14) rfl rfl (opv_leq rfl (Ev.eq (.t .here)) (Ev.eq .i) rfl) ?_
     refine lv (.plain rfl) rfl rfl (opv_pick_t rfl (Ev.eq (.t (.n 15 4 rfl))) h14 (Ev.eq (.t .here))) ?_
     refine lv (.plain rfl) rfl rfl (opv_move rfl (Ev.eq (.t .here))) ?_
     refine lsplit (.n 19 2 rfl) (fun h19 => ?_) (fun h19 => ?_)
     ·
      have q19 := h19
      try simp only [zs, bl_inj] at q19
      refine lv (.on rfl rfl .here h19) rfl rfl (p_field (fldT47_2) rfl (Ev.eq (.t (.n 1 17 rfl))) (off' := 2) rfl) ?_
      refine lv (.on rfl rfl (.n 21 1 rfl) h19) rfl rfl (q_load1 (scT9) rfl (Ev.eq (.t .here)) .here (.there (.there .here))) ?_
      refine lv (.on rfl rfl (.n 21 2 rfl) h19) rfl rfl (q_call rfl .f Tryd.call103 (.cons (.t .here) .nil) rfl (f103_spec _ (by omega))) ?_
      refine lv (.on rfl rfl (.n 21 3 rfl) h19) rfl rfl (opv_geq rfl (Ev.eq (.t .here)) (Ev.eq .i) rfl) ?_
      refine lv (.plain rfl) rfl rfl (opv_pick_t rfl (Ev.eq (.t (.n 21 4 rfl))) h19 (Ev.eq (.t .here))) ?_
      refine awpL_nil ?_
      refine psplit (.n 25 1 rfl) (fun h25 => ?_) (fun h25 => ?_)
      ·
       have q25 := h25
       try simp only [zs, bl_inj] at q25
       refine pcond_t (.t .here) h25 ?_
       refine awp_seq ?_
       refine awp_region ?_
       refine lv (.plain rfl) rfl rfl (opv_assign rfl (Ev.eq .i)) ?_
       refine awpL_nil ?_
       refine awp_ret ?_
       refine ret_now (.one (rv_t .here)) (Cast.all _ _) ?_
       refine ⟨congrArg (fun x => AV.d (D.i .i64 x)) ?_, rfl⟩
       simp_all [erI, valB, bl_inj]
       try omega
      ·
       have q25 := h25
       try simp only [zs, bl_inj] at q25
       refine pcond_f (.t .here) h25 ?_
       refine awp_skip ?_
       refine awp_seq ?_
       refine awp_region ?_
       refine lv (.plain rfl) rfl rfl (opv_assign rfl (Ev.eq .i)) ?_
       refine awpL_nil ?_
       refine awp_ret ?_
       refine ret_now (.one (rv_t .here)) (Cast.all _ _) ?_
       refine ⟨congrArg (fun x => AV.d (D.i .i64 x)) ?_, rfl⟩
       simp_all [erI, valB, bl_inj]
       try omega
     ·
      have q19 := h19
      try simp only [zs, bl_inj] at q19
      refine lo (.off rfl rfl .here h19) rfl rfl ?_
      refine lo (.off rfl rfl (.n 21 1 rfl) h19) rfl rfl ?_
      refine lo (.off rfl rfl (.n 21 2 rfl) h19) rfl rfl ?_
      refine lo (.off rfl rfl (.n 21 3 rfl) h19) rfl rfl ?_
      refine lv (.plain rfl) rfl rfl (opv_pick_f rfl (Ev.eq (.t (.n 21 4 rfl))) h19 (Ev.eq .b)) ?_
      refine awpL_nil ?_
      refine pcond_f (.t .here) rfl ?_
      refine awp_skip ?_
      refine awp_seq ?_
      refine awp_region ?_
      refine lv (.plain rfl) rfl rfl (opv_assign rfl (Ev.eq .i)) ?_
      refine awpL_nil ?_
      refine awp_ret ?_
      refine ret_now (.one (rv_t .here)) (Cast.all _ _) ?_
      refine ⟨congrArg (fun x => AV.d (D.i .i64 x)) ?_, rfl⟩
      simp_all [erI, valB, bl_inj]
      try omega
    ·
     have q14 := h14
     try simp only [zs, bl_inj] at q14
     refine lo (.off rfl rfl .here h14) rfl rfl ?_
     refine lo (.off rfl rfl (.n 15 1 rfl) h14) rfl rfl ?_
     refine lo (.off rfl rfl (.n 15 2 rfl) h14) rfl rfl ?_
     refine lo (.off rfl rfl (.n 15 3 rfl) h14) rfl rfl ?_
     refine lv (.plain rfl) rfl rfl (opv_pick_f rfl (Ev.eq (.t (.n 15 4 rfl))) h14 (Ev.eq .b)) ?_
     refine lv (.plain rfl) rfl rfl (opv_move rfl (Ev.eq (.t .here))) ?_
     refine lo (.off rfl rfl .here rfl) rfl rfl ?_
     refine lo (.off rfl rfl (.n 21 1 rfl) rfl) rfl rfl ?_
     refine lo (.off rfl rfl (.n 21 2 rfl) rfl) rfl rfl ?_
     refine lo (.off rfl rfl (.n 21 3 rfl) rfl) rfl rfl ?_
     refine lv (.plain rfl) rfl rfl (opv_pick_f rfl (Ev.eq (.t (.n 21 4 rfl))) rfl (Ev.eq .b)) ?_
     refine awpL_nil ?_
     refine pcond_f (.t .here) rfl ?_
     refine awp_skip ?_
     refine awp_seq ?_
     refine awp_region ?_
     refine lv (.plain rfl) rfl rfl (opv_assign rfl (Ev.eq .i)) ?_
     refine awpL_nil ?_
     refine awp_ret ?_
     refine ret_now (.one (rv_t .here)) (Cast.all _ _) ?_
     refine ⟨congrArg (fun x => AV.d (D.i .i64 x)) ?_, rfl⟩
     simp_all [erI, valB, bl_inj]
     try omega
   ·
    have q11 := h11
    try simp only [zs, bl_inj] at q11
    refine pcond_f (.t .here) h11 ?_
    refine awp_skip ?_
    refine awp_seq ?_
    refine awp_region ?_
    refine lv (.plain rfl) rfl rfl (opv_assign rfl (Ev.eq .i)) ?_
    refine awpL_nil ?_
    refine awp_ret ?_
    refine ret_now (.one (rv_t .here)) (Cast.all _ _) ?_
    refine ⟨congrArg (fun x => AV.d (D.i .i64 x)) ?_, rfl⟩
    simp_all [erI, valB, bl_inj]
    try omega
theorem f129_spec (v : Val) : FSpec Tryd.prog 129 [.agg [.d (.i .i64 v.kind), .d (.i .i64 v.n), .d (.s v.s)]] (.d (.b (valB v))) := by
  refine acalls_of Tryd.func129 rfl Tryd.ntmps129 Tryd.results129 (by simp) ?_
  refine awp_seq ?_
  refine awp_region ?_
  refine l_box (.plain rfl) rfl rfl rfl (.t .here) rfl rfl (fun g1 ng1 => ?_)
  refine lv (.plain rfl) rfl rfl (opv_assign rfl (Ev.eq .b)) ?_
  refine awpL_nil ?_
  refine awp_seq ?_
  refine awp_region ?_
  refine lv (.plain rfl) rfl rfl (p_field (fldT47_0) rfl (Ev.eq (.t (.n 1 1 rfl))) (off' := 0) rfl) ?_
  refine lv (.plain rfl) rfl rfl (q_load1 (scT45) rfl (Ev.eq (.t .here)) .here .here) ?_
  refine lv (.plain rfl) rfl rfl (opv_eql_i rfl (Ev.eq (.t .here)) (Ev.eq .i) rfl) ?_
  refine lv (.plain rfl) rfl rfl (opv_move rfl (Ev.eq (.t .here))) ?_
  refine lsplit (.n 5 1 rfl) (fun h5 => ?_) (fun h5 => ?_)
  ·
   have q5 := h5
   try simp only [zs, bl_inj] at q5
   refine lv (.on rfl rfl .here h5) rfl rfl (p_field (fldT47_2) rfl (Ev.eq (.t (.n 1 5 rfl))) (off' := 2) rfl) ?_
   refine lv (.on rfl rfl (.n 6 1 rfl) h5) rfl rfl (q_load1 (scT9) rfl (Ev.eq (.t .here)) .here (.there (.there .here))) ?_
   refine lv (.on rfl rfl (.n 6 2 rfl) h5) rfl rfl (opv_eql_s rfl (Ev.eq (.t .here)) (Ev.eq .s) rfl) ?_
   refine lv (.plain rfl) rfl rfl (opv_pick_t rfl (Ev.eq (.t (.n 6 3 rfl))) h5 (Ev.eq (.t .here))) ?_
   refine lv (.plain rfl) rfl rfl (opv_move rfl (Ev.eq (.t .here))) ?_
   refine lsplit (.n 9 2 rfl) (fun h9 => ?_) (fun h9 => ?_)
   ·
    have q9 := h9
    try simp only [zs, bl_inj] at q9
    refine lo (.off rfl rfl .here h9) rfl rfl ?_
    refine lo (.off rfl rfl (.n 11 1 rfl) h9) rfl rfl ?_
    refine lo (.off rfl rfl (.n 11 2 rfl) h9) rfl rfl ?_
    refine lo (.off rfl rfl (.n 11 3 rfl) h9) rfl rfl ?_
    refine lo (.no rfl rfl .here) rfl rfl ?_
    refine lo (.no rfl rfl (.n 15 1 rfl)) rfl rfl ?_
    refine lo (.no rfl rfl (.n 15 2 rfl)) rfl rfl ?_
    refine lo (.off rfl rfl (.n 11 7 rfl) h9) rfl rfl ?_
    refine lo (.off rfl rfl (.n 11 8 rfl) h9) rfl rfl ?_
    refine lo (.no rfl rfl .here) rfl rfl ?_
    refine lo (.no rfl rfl (.n 20 1 rfl)) rfl rfl ?_
    refine lo (.no rfl rfl (.n 20 2 rfl)) rfl rfl ?_
    refine lo (.no rfl rfl (.n 20 3 rfl)) rfl rfl ?_
    refine lo (.off rfl rfl (.n 11 13 rfl) h9) rfl rfl ?_
    refine lo (.off rfl rfl (.n 11 14 rfl) h9) rfl rfl ?_
    refine lo (.no rfl rfl .here) rfl rfl ?_
    refine lo (.no rfl rfl (.n 26 1 rfl)) rfl rfl ?_
    refine lo (.no rfl rfl (.n 26 2 rfl)) rfl rfl ?_
    refine lo (.no rfl rfl (.n 26 3 rfl)) rfl rfl ?_
    refine lo (.off rfl rfl (.n 11 19 rfl) h9) rfl rfl ?_
    refine lv (.plain rfl) rfl rfl (opv_pick_t rfl (Ev.eq (.t (.n 11 20 rfl))) h9 (Ev.eq .b)) ?_
    refine lv (.plain rfl) rfl rfl (opv_assign rfl (Ev.eq (.t .here))) ?_
    refine awpL_nil ?_
    refine awp_ret ?_
    refine ret_now (.one (rv_t .here)) (Cast.all _ _) ?_
    refine ⟨congrArg (fun x => AV.d (D.b x)) (Bool.eq_iff_iff.2 ?_), rfl⟩
    simp_all [valB, bl_inj]
    try omega
   ·
    have q9 := h9
    try simp only [zs, bl_inj] at q9
    refine lv (.on rfl rfl .here h9) rfl rfl (p_field (fldT47_0) rfl (Ev.eq (.t (.n 1 10 rfl))) (off' := 0) rfl) ?_
    refine lv (.on rfl rfl (.n 11 1 rfl) h9) rfl rfl (q_load1 (scT45) rfl (Ev.eq (.t .here)) .here .here) ?_
    refine lv (.on rfl rfl (.n 11 2 rfl) h9) rfl rfl (opv_eql_i rfl (Ev.eq (.t .here)) (Ev.eq .i) rfl) ?_
    refine lv (.on rfl rfl (.n 11 3 rfl) h9) rfl rfl (opv_move rfl (Ev.eq (.t .here))) ?_
    refine lsplit (.n 14 1 rfl) (fun h14 => ?_) (fun h14 => ?_)
    ·
     have q14 := h14
     try simp only [zs, bl_inj] at q14
     refine lv (.on rfl rfl .here h14) rfl rfl (p_field (fldT47_1) rfl (Ev.eq (.t (.n 1 14 rfl))) (off' := 1) rfl) ?_
     refine lv (.on rfl rfl (.n 15 1 rfl) h14) rfl rfl (q_load1 (scT3) rfl (Ev.eq (.t .here)) .here (.there .here)) ?_
     refine lv (.on rfl rfl (.n 15 2 rfl) h14) rfl rfl (opv_eql_i rfl (Ev.eq (.t .here)) (Ev.eq .i) rfl) ?_
     refine lv (.on rfl rfl (.n 11 7 rfl) h9) rfl rfl (opv_pick_t rfl (Ev.eq (.t (.n 15 3 rfl))) h14 (Ev.eq (.t .here))) ?_
     refine lv (.on rfl rfl (.n 11 8 rfl) h9) rfl rfl (opv_move rfl (Ev.eq (.t .here))) ?_
     refine lsplit (.n 18 2 rfl) (fun h18 => ?_) (fun h18 => ?_)
     ·
      have q18 := h18
      try simp only [zs, bl_inj] at q18
      refine lv (.on rfl rfl .here h18) rfl rfl (p_field (fldT47_2) rfl (Ev.eq (.t (.n 1 19 rfl))) (off' := 2) rfl) ?_
      refine lv (.on rfl rfl (.n 20 1 rfl) h18) rfl rfl (q_load1 (scT9) rfl (Ev.eq (.t .here)) .here (.there (.there .here))) ?_
      refine lv (.on rfl rfl (.n 20 2 rfl) h18) rfl rfl (opv_len_s Tryd.underlying9 rfl (Ev.eq (.t .here)) rfl) ?_
      refine lv (.on rfl rfl (.n 20 3 rfl) h18) rfl rfl (opv_leq rfl (Ev.eq (.t .here)) (Ev.eq .i) rfl) ?_
      refine lv (.on rfl rfl (.n 11 13 rfl) h9) rfl rfl (opv_pick_t rfl (Ev.eq (.t (.n 20 4 rfl))) h18 (Ev.eq (.t .here))) ?_
      refine lv (.on rfl rfl (.n 11 14 rfl) h9) rfl rfl (opv_move rfl (Ev.eq (.t .here))) ?_
      refine lsplit (.n 24 2 rfl) (fun h24 => ?_) (fun h24 => ?_)
      ·
       have q24 := h24
       try simp only [zs, bl_inj] at q24
       refine lv (.on rfl rfl .here h24) rfl rfl (p_field (fldT47_2) rfl (Ev.eq (.t (.n 1 25 rfl))) (off' := 2) rfl) ?_
       refine lv (.on rfl rfl (.n 26 1 rfl) h24) rfl rfl (q_load1 (scT9) rfl (Ev.eq (.t .here)) .here (.there (.there .here))) ?_
       refine lv (.on rfl rfl (.n 26 2 rfl) h24) rfl rfl (q_call rfl .f Tryd.call134 (.cons (.t .here) .nil) rfl (f134_spec _ (by omega))) ?_
       refine lv (.on rfl rfl (.n 26 3 rfl) h24) rfl rfl (opv_geq rfl (Ev.eq (.t .here)) (Ev.eq .i) rfl) ?_
       refine lv (.on rfl rfl (.n 11 19 rfl) h9) rfl rfl (opv_pick_t rfl (Ev.eq (.t (.n 26 4 rfl))) h24 (Ev.eq (.t .here))) ?_
       refine lv (.plain rfl) rfl rfl (opv_pick_f rfl (Ev.eq (.t (.n 11 20 rfl))) h9 (Ev.eq (.t .here))) ?_
       refine lv (.plain rfl) rfl rfl (opv_assign rfl (Ev.eq (.t .here))) ?_
       refine awpL_nil ?_
       refine awp_ret ?_
       refine ret_now (.one (rv_t .here)) (Cast.all _ _) ?_
       refine ⟨congrArg (fun x => AV.d (D.b x)) (Bool.eq_iff_iff.2 ?_), rfl⟩
       simp_all [valB, bl_inj]
       try omega
      ·
       have q24 := h24
       try simp only [zs, bl_inj] at q24
       refine lo (.off rfl rfl .here h24) rfl rfl ?_
       refine lo (.off rfl rfl (.n 26 1 rfl) h24) rfl rfl ?_
       refine lo (.off rfl rfl (.n 26 2 rfl) h24) rfl rfl ?_
       refine lo (.off rfl rfl (.n 26 3 rfl) h24) rfl rfl ?_
       refine lv (.on rfl rfl (.n 11 19 rfl) h9) rfl rfl (opv_pick_f rfl (Ev.eq (.t (.n 26 4 rfl))) h24 (Ev.eq .b)) ?_
       refine lv (.plain rfl) rfl rfl (opv_pick_f rfl (Ev.eq (.t (.n 11 20 rfl))) h9 (Ev.eq (.t .here))) ?_
       refine lv (.plain rfl) rfl rfl (opv_assign rfl (Ev.eq (.t .here))) ?_
       refine awpL_nil ?_
       refine awp_ret ?_
       refine ret_now (.one (rv_t .here)) (Cast.all _ _) ?_
       refine ⟨congrArg (fun x => AV.d (D.b x)) (Bool.eq_iff_iff.2 ?_), rfl⟩
       simp_all [valB, bl_inj]
       try omega
     ·
      have q18 := h18
      try simp only [zs, bl_inj] at q18
      refine lo (.off rfl rfl .here h18) rfl rfl ?_
      refine lo (.off rfl rfl (.n 20 1 rfl) h18) rfl rfl ?_
      refine lo (.off rfl rfl (.n 20 2 rfl) h18) rfl rfl ?_
      refine lo (.off rfl rfl (.n 20 3 rfl) h18) rfl rfl ?_
      refine lv (.on rfl rfl (.n 11 13 rfl) h9) rfl rfl (opv_pick_f rfl (Ev.eq (.t (.n 20 4 rfl))) h18 (Ev.eq .b)) ?_
      refine lv (.on rfl rfl (.n 11 14 rfl) h9) rfl rfl (opv_move rfl (Ev.eq (.t .here))) ?_
      refine lo (.off rfl rfl .here rfl) rfl rfl ?_
      refine lo (.off rfl rfl (.n 26 1 rfl) rfl) rfl rfl ?_
      refine lo (.off rfl rfl (.n 26 2 rfl) rfl) rfl rfl ?_
      refine lo (.off rfl rfl (.n 26 3 rfl) rfl) rfl rfl ?_
      refine lv (.on rfl rfl (.n 11 19 rfl) h9) rfl rfl (opv_pick_f rfl (Ev.eq (.t (.n 26 4 rfl))) rfl (Ev.eq .b)) ?_
      refine lv (.plain rfl) rfl rfl (opv_pick_f rfl (Ev.eq (.t (.n 11 20 rfl))) h9 (Ev.eq (.t .here))) ?_
      refine lv (.plain rfl) rfl rfl (opv_assign rfl (Ev.eq (.t .here))) ?_
      refine awpL_nil ?_
      refine awp_ret ?_
      refine ret_now (.one (rv_t .here)) (Cast.all _ _) ?_
      refine ⟨congrArg (fun x => AV.d (D.b x)) (Bool.eq_iff_iff.2 ?_), rfl⟩
      simp_all [valB, bl_inj]
      try omega
    ·
     have q14 := h14
     try simp only [zs, bl_inj] at q14
     refine lo (.off rfl rfl .here h14) rfl rfl ?_
     refine lo (.off rfl rfl (.n 15 1 rfl) h14) rfl rfl ?_
     refine lo (.off rfl rfl (.n 15 2 rfl) h14) rfl rfl ?_
     refine lv (.on rfl rfl (.n 11 7 rfl) h9) rfl rfl (opv_pick_f rfl (Ev.eq (.t (.n 15 3 rfl))) h14 (Ev.eq .b)) ?_
     refine lv (.on rfl rfl (.n 11 8 rfl) h9) rfl rfl (opv_move rfl (Ev.eq (.t .here))) ?_
     refine lo (.off rfl rfl .here rfl) rfl rfl ?_
     refine lo (.off rfl rfl (.n 20 1 rfl) rfl) rfl rfl ?_
     refine lo (.off rfl rfl (.n 20 2 rfl) rfl) rfl rfl ?_
     refine lo (.off rfl rfl (.n 20 3 rfl) rfl) rfl rfl ?_
     refine lv (.on rfl rfl (.n 11 13 rfl) h9) rfl rfl (opv_pick_f rfl (Ev.eq (.t (.n 20 4 rfl))) rfl (Ev.eq .b)) ?_
     refine lv (.on rfl rfl (.n 11 14 rfl) h9) rfl rfl (opv_move rfl (Ev.eq (.t .here))) ?_
     refine lo (.off rfl rfl .here rfl) rfl rfl ?_
     refine lo (.off rfl rfl (.n 26 1 rfl) rfl) rfl rfl ?_
     refine lo (.off rfl rfl (.n 26 2 rfl) rfl) rfl rfl ?_
     refine lo (.off rfl rfl (.n 26 3 rfl) rfl) rfl rfl ?_
     refine lv (.on rfl rfl (.n 11 19 rfl) h9) rfl rfl (opv_pick_f rfl (Ev.eq (.t (.n 26 4 rfl))) rfl (Ev.eq .b)) ?_
     refine lv (.plain rfl) rfl rfl (opv_pick_f rfl (Ev.eq (.t (.n 11 20 rfl))) h9 (Ev.eq (.t .here))) ?_
     refine lv (.plain rfl) rfl rfl (opv_assign rfl (Ev.eq (.t .here))) ?_
     refine awpL_nil ?_
     refine awp_ret ?_
     refine ret_now (.one (rv_t .here)) (Cast.all _ _) ?_
     refine ⟨congrArg (fun x => AV.d (D.b x)) (Bool.eq_iff_iff.2 ?_), rfl⟩
     simp_all [valB, bl_inj]
     try omega
  ·
   have q5 := h5
   try simp only [zs, bl_inj] at q5
   refine lo (.off rfl rfl .here h5) rfl rfl ?_
   refine lo (.off rfl rfl (.n 6 1 rfl) h5) rfl rfl ?_
   refine lo (.off rfl rfl (.n 6 2 rfl) h5) rfl rfl ?_
   refine lv (.plain rfl) rfl rfl (opv_pick_f rfl (Ev.eq (.t (.n 6 3 rfl))) h5 (Ev.eq .b)) ?_
   refine lv (.plain rfl) rfl rfl (opv_move rfl (Ev.eq (.t .here))) ?_
   refine lv (.on rfl rfl .here rfl) rfl rfl (p_field (fldT47_0) rfl (Ev.eq (.t (.n 1 10 rfl))) (off' := 0) rfl) ?_
   refine lv (.on rfl rfl (.n 11 1 rfl) rfl) rfl rfl (q_load1 (scT45) rfl (Ev.eq (.t .here)) .here .here) ?_
   refine lv (.on rfl rfl (.n 11 2 rfl) rfl) rfl rfl (opv_eql_i rfl (Ev.eq (.t .here)) (Ev.eq .i) rfl) ?_
   refine lv (.on rfl rfl (.n 11 3 rfl) rfl) rfl rfl (opv_move rfl (Ev.eq (.t .here))) ?_
   refine lsplit (.n 14 1 rfl) (fun h14 => ?_) (fun h14 => ?_)
   ·
    have q14 := h14
    try simp only [zs, bl_inj] at q14
    refine lv (.on rfl rfl .here h14) rfl rfl (p_field (fldT47_1) rfl (Ev.eq (.t (.n 1 14 rfl))) (off' := 1) rfl) ?_
    refine lv (.on rfl rfl (.n 15 1 rfl) h14) rfl rfl (q_load1 (scT3) rfl (Ev.eq (.t .here)) .here (.there .here)) ?_
    refine lv (.on rfl rfl (.n 15 2 rfl) h14) rfl rfl (opv_eql_i rfl (Ev.eq (.t .here)) (Ev.eq .i) rfl) ?_
    refine lv (.on rfl rfl (.n 11 7 rfl) rfl) rfl rfl (opv_pick_t rfl (Ev.eq (.t (.n 15 3 rfl))) h14 (Ev.eq (.t .here))) ?_
    refine lv (.on rfl rfl (.n 11 8 rfl) rfl) rfl rfl (opv_move rfl (Ev.eq (.t .here))) ?_
    refine lsplit (.n 18 2 rfl) (fun h18 => ?_) (fun h18 => ?_)
    ·
     have q18 := h18
     try simp only [zs, bl_inj] at q18
     refine lv (.on rfl rfl .here h18) rfl rfl (p_field (fldT47_2) rfl (Ev.eq (.t (.n 1 19 rfl))) (off' := 2) rfl) ?_
     refine lv (.on rfl rfl (.n 20 1 rfl) h18) rfl rfl (q_load1 (scT9) rfl (Ev.eq (.t .here)) .here (.there (.there .here))) ?_
     refine lv (.on rfl rfl (.n 20 2 rfl) h18) rfl rfl (opv_len_s Tryd.underlying9 rfl (Ev.eq (.t .here)) rfl) ?_
     refine lv (.on rfl rfl (.n 20 3 rfl) h18) rfl rfl (opv_leq rfl (Ev.eq (.t .here)) (Ev.eq .i) rfl) ?_
     refine lv (.on rfl rfl (.n 11 13 rfl) rfl) rfl rfl (opv_pick_t rfl (Ev.eq (.t (.n 20 4 rfl))) h18 (Ev.eq (.t .here))) ?_
     refine lv (.on rfl rfl (.n 11 14 rfl) rfl) rfl rfl (opv_move rfl (Ev.eq (.t .here))) ?_
     refine lsplit (.n 24 2 rfl) (fun h24 => ?_) (fun h24 => ?_)
     ·
      have q24 := h24
      try simp only [zs, bl_inj] at q24
      refine lv (.on rfl rfl .here h24) rfl rfl (p_field (fldT47_2) rfl (Ev.eq (.t (.n 1 25 rfl))) (off' := 2) rfl) ?_
      refine lv (.on rfl rfl (.n 26 1 rfl) h24) rfl rfl (q_load1 (scT9) rfl (Ev.eq (.t .here)) .here (.there (.there .here))) ?_
      refine lv (.on rfl rfl (.n 26 2 rfl) h24) rfl rfl (q_call rfl .f Tryd.call134 (.cons (.t .here) .nil) rfl (f134_spec _ (by omega))) ?_
      refine lv (.on rfl rfl (.n 26 3 rfl) h24) rfl rfl (opv_geq rfl (Ev.eq (.t .here)) (Ev.eq .i) rfl) ?_
      refine lv (.on rfl rfl (.n 11 19 rfl) rfl) rfl rfl (opv_pick_t rfl (Ev.eq (.t (.n 26 4 rfl))) h24 (Ev.eq (.t .here))) ?_
      refine lv (.plain rfl) rfl rfl (opv_pick_f rfl (Ev.eq (.t (.n 11 20 rfl))) rfl (Ev.eq (.t .here))) ?_
      refine lv (.plain rfl) rfl rfl (opv_assign rfl (Ev.eq (.t .here))) ?_
      refine awpL_nil ?_
      refine awp_ret ?_
      refine ret_now (.one (rv_t .here)) (Cast.all _ _) ?_
      refine ⟨congrArg (fun x => AV.d (D.b x)) (Bool.eq_iff_iff.2 ?_), rfl⟩
      simp_all [valB, bl_inj]
      try omega
     ·
      have q24 := h24
      try simp only [zs, bl_inj] at q24
      refine lo (.off rfl rfl .here h24) rfl rfl ?_
      refine lo (.off rfl rfl (.n 26 1 rfl) h24) rfl rfl ?_
      refine lo (.off rfl rfl (.n 26 2 rfl) h24) rfl rfl ?_
      refine lo (.off rfl rfl (.n 26 3 rfl) h24) rfl rfl ?_
      refine lv (.on rfl rfl (.n 11 19 rfl) rfl) rfl rfl (opv_pick_f rfl (Ev.eq (.t (.n 26 4 rfl))) h24 (Ev.eq .b)) ?_
      refine lv (.plain rfl) rfl rfl (opv_pick_f rfl (Ev.eq (.t (.n 11 20 rfl))) rfl (Ev.eq (.t .here))) ?_
      refine lv (.plain rfl) rfl rfl (opv_assign rfl (Ev.eq (.t .here))) ?_
      refine awpL_nil ?_
      refine awp_ret ?_
      refine ret_now (.one (rv_t .here)) (Cast.all _ _) ?_
      refine ⟨congrArg (fun x => AV.d (D.b x)) (Bool.eq_iff_iff.2 ?_), rfl⟩
      simp_all [valB, bl_inj]
      try omega
    ·
     have q18 := h18
     try simp only [zs, bl_inj] at q18
     refine lo (.off rfl rfl .here h18) rfl rfl ?_
     refine lo (.off rfl rfl (.n 20 1 rfl) h18) rfl rfl ?_
     refine lo (.off rfl rfl (.n 20 2 rfl) h18) rfl rfl ?_
     refine lo (.off rfl rfl (.n 20 3 rfl) h18) rfl rfl ?_
     refine lv (.on rfl rfl (.n 11 13 rfl) rfl) rfl rfl (opv_pick_f rfl (Ev.eq (.t (.n 20 4 rfl))) h18 (Ev.eq .b)) ?_
     refine lv (.on rfl rfl (.n 11 14 rfl) rfl) rfl rfl (opv_move rfl (Ev.eq (.t .here))) ?_
     refine lo (.off rfl rfl .here rfl) rfl rfl ?_
     refine lo (.off rfl rfl (.n 26 1 rfl) rfl) rfl rfl ?_
     refine lo (.off rfl rfl (.n 26 2 rfl) rfl) rfl rfl ?_
     refine lo (.off rfl rfl (.n 26 3 rfl) rfl) rfl rfl ?_
     refine lv (.on rfl rfl (.n 11 19 rfl) rfl) rfl rfl (opv_pick_f rfl (Ev.eq (.t (.n 26 4 rfl))) rfl (Ev.eq .b)) ?_
     refine lv (.plain rfl) rfl rfl (opv_pick_f rfl (Ev.eq (.t (.n 11 20 rfl))) rfl (Ev.eq (.t .here))) ?_
     refine lv (.plain rfl) rfl rfl (opv_assign rfl (Ev.eq (.t .here))) ?_
     refine awpL_nil ?_
     refine awp_ret ?_
     refine ret_now (.one (rv_t .here)) (Cast.all _ _) ?_
     refine ⟨congrArg (fun x => AV.d (D.b x)) (Bool.eq_iff_iff.2 ?_), rfl⟩
     simp_all [valB, bl_inj]
     try omega
   ·
    have q14 := h14
    try simp only [zs, bl_inj] at q14
    refine lo (.off rfl rfl .here h14) rfl rfl ?_
    refine lo (.off rfl rfl (.n 15 1 rfl) h14) rfl rfl ?_
    refine lo (.off rfl rfl (.n 15 2 rfl) h14) rfl rfl ?_
    refine lv (.on rfl rfl (.n 11 7 rfl) rfl) rfl rfl (opv_pick_f rfl (Ev.eq (.t (.n 15 3 rfl))) h14 (Ev.eq .b)) ?_
    refine lv (.on rfl rfl (.n 11 8 rfl) rfl) rfl rfl (opv_move rfl (Ev.eq (.t .here))) ?_
    refine lo (.off rfl rfl .here rfl) rfl rfl ?_
    refine lo (.off rfl rfl (.n 20 1 rfl) rfl) rfl rfl ?_
    refine lo (.off rfl rfl (.n 20 2 rfl) rfl) rfl rfl ?_
    refine lo (.off rfl rfl (.n 20 3 rfl) rfl) rfl rfl ?_
    refine lv (.on rfl rfl (.n 11 13 rfl) rfl) rfl rfl (opv_pick_f rfl (Ev.eq (.t (.n 20 4 rfl))) rfl (Ev.eq .b)) ?_
    refine lv (.on rfl rfl (.n 11 14 rfl) rfl) rfl rfl (opv_move rfl (Ev.eq (.t .here))) ?_
    refine lo (.off rfl rfl .here rfl) rfl rfl ?_
    refine lo (.off rfl rfl (.n 26 1 rfl) rfl) rfl rfl ?_
    refine lo (.off rfl rfl (.n 26 2 rfl) rfl) rfl rfl ?_
    refine lo (.off rfl rfl (.n 26 3 rfl) rfl) rfl rfl ?_
    refine lv (.on rfl rfl (.n 11 19 rfl) rfl) rfl rfl (opv_pick_f rfl (Ev.eq (.t (.n 26 4 rfl))) rfl (Ev.eq .b)) ?_
    refine lv (.plain rfl) rfl rfl (opv_pick_f rfl (Ev.eq (.t (.n 11 20 rfl))) rfl (Ev.eq (.t .here))) ?_
    refine lv (.plain rfl) rfl rfl (opv_assign rfl (Ev.eq (.t .here))) ?_
    refine awpL_nil ?_
    refine awp_ret ?_
    refine ret_now (.one (rv_t .here)) (Cast.all _ _) ?_
    refine ⟨congrArg (fun x => AV.d (D.b x)) (Bool.eq_iff_iff.2 ?_), rfl⟩
    simp_all [valB, bl_inj]
    try omega
theorem f57_spec (l : List Row) : FSpec Tryd.prog 57 [.d (dRows l)] (.d (.i .i64 (erI (rowsB l)))) := by
  refine acalls_of Tryd.func57 rfl Tryd.ntmps57 Tryd.results57 (by simp) ?_
  refine awp_seq ?_
  refine awp_region ?_
  refine lv (.plain rfl) rfl rfl (opv_assign rfl (Ev.eq .i)) ?_
  refine awpL_nil ?_
  refine awp_seq ?_
  refine awp_seq ?_
  refine awp_region ?_
  refine lv (.plain rfl) rfl rfl (opv_move rfl (Ev.eq (.t (.n 0 1 rfl)))) ?_
  refine lv (.plain rfl) rfl rfl (opv_len_sl Tryd.underlying22 rfl (Ev.eq (.t .here)) rfl) ?_
  refine lv (.plain rfl) rfl rfl (opv_gtr rfl (Ev.eq (.t .here)) (Ev.eq .i) rfl) ?_
  refine awpL_nil ?_
  refine psplit .here (fun h8 => ?_) (fun h8 => ?_)
  ·
   have q8 := h8
   try simp only [zs, List.length_map] at q8
   refine pcond_t (.t .here) h8 ?_
   refine awp_seq ?_
   refine awp_region ?_
   refine lv (.plain rfl) rfl rfl (opv_assign rfl (Ev.eq .i)) ?_
   refine awpL_nil ?_
   refine awp_ret ?_
   refine ret_now (.one (rv_t .here)) (Cast.all _ _) ?_
   refine ⟨congrArg (fun x => AV.d (D.i .i64 x)) ?_, rfl⟩
   have : ¬ l.length ≤ 64 := by omega
   simp [rowsB, erI, this]
  ·
   have q8 := h8
   try simp only [zs, List.length_map] at q8
   refine pcond_f (.t .here) h8 ?_
   refine awp_skip ?_
   refine awp_seq ?_
   refine awp_seq ?_
   refine awp_region ?_
   refine lv (.plain rfl) rfl rfl (opv_move rfl (Ev.eq (.t (.n 0 4 rfl)))) ?_
   refine lv (.plain rfl) rfl rfl (opv_len_sl Tryd.underlying22 rfl (Ev.eq (.t .here)) rfl) ?_
   refine lv (.plain rfl) rfl rfl (opv_move rfl (Ev.eq .i)) ?_
   refine awpL_nil ?_
   refine awp_block ?_
   refine ploop (fun (i : Nat) => ⟨55, [(0, .d (dRows l)), (9, .d (dRows l)), (10, .d (.i .i64 (l.length : Int))), (11, .d (.i .i64 (i : Int)))], [], []⟩) (fun i => i ≤ l.length ∧ okFrom (prevAt l i) (l.drop i) = okFrom none l) (fun i => l.length - i) (0) (weak_both (.ce (.n 0 7 rfl) (by first | rfl | (simp; done) | (simp; omega)) (.ce (.n 9 2 rfl) (by first | rfl | (simp; done) | (simp; omega)) (.ce (.n 10 1 rfl) (by first | rfl | (simp; done) | (simp; omega)) (.ce .here (by first | rfl | (simp; done) | (simp; omega)) .nil)))) (List.Sublist.refl _)) (⟨by omega, rfl⟩) ?_
   rintro i ⟨hi, hEQ⟩
   refine awp_seq ?_
   refine awp_region ?_
   refine lv (.plain rfl) rfl rfl (opv_lss rfl (Ev.eq (.t (.n 11 3 rfl))) (Ev.eq (.t (.n 10 2 rfl))) rfl) ?_
   refine awpL_nil ?_
   refine awp_seq ?_
   refine psplit .here (fun h12 => ?_) (fun h12 => ?_)
   ·
    have q12 := h12
    try simp only [zs, List.length_map] at q12
    refine pcond_t (.t .here) h12 ?_
    refine awp_skip ?_
    refine awp_seq ?_
    refine awp_block ?_
    refine awp_seq ?_
    refine awp_region ?_
    refine lv (.plain rfl) rfl rfl (opv_move rfl (Ev.eq (.t (.n 11 4 rfl)))) ?_
    obtain ⟨x, hk⟩ := some_at (l := l) (i := i) (by omega)
    have hst : okFrom none l = (spanB x.fr x.to && valB x.v && stepB (prevAt l i) x && okFrom (some x) (l.drop (i + 1))) := by rw [← hEQ, drop_cons hk, okFrom_cons]
    refine lv (.plain rfl) rfl rfl (p_index (slT22) rfl (Ev.eq (.t (.n 9 3 rfl))) (Ev.eq (.t (.n 11 5 rfl))) (by omega) (by first | assumption | exact map_at (by assumption) | exact encTries_at (by assumption)) rfl) ?_
    refine lv (.plain rfl) rfl rfl (p_loadnf (agT49) rfl (Ev.eq (.t .here)) (Nat.le_of_ble_eq_true rfl) rfl) ?_
    refine l_alloc zT49 (.plain rfl) rfl rfl rfl (fun g3 ng3 => ?_)
    refine lv (.plain rfl) rfl rfl (opv_assign rfl (Ev.eq (.t (.n 13 3 rfl)))) ?_
    refine l_storen Tryd.sizeOf49 (.plain rfl) rfl rfl (.t (.n 4 1 rfl)) (.t (.n 15 2 rfl)) rfl rfl rfl .here ?_
    refine awpL_nil ?_
    refine awp_seq ?_
    refine awp_seq ?_
    refine awp_region ?_
    refine lv (.plain rfl) rfl rfl (p_field (fldT49_0) rfl (Ev.eq (.t (.n 4 1 rfl))) (off' := 0) rfl) ?_
    refine lv (.plain rfl) rfl rfl (q_load1 (scT3) rfl (Ev.eq (.t .here)) .here .here) ?_
    refine lv (.plain rfl) rfl rfl (p_field (fldT49_1) rfl (Ev.eq (.t (.n 4 3 rfl))) (off' := 1) rfl) ?_
    refine lv (.plain rfl) rfl rfl (q_load1 (scT3) rfl (Ev.eq (.t .here)) .here (.there .here)) ?_
    refine lv (.plain rfl) rfl rfl (q_call rfl .f Tryd.call85 (.cons (.t (.n 17 2 rfl)) (.cons (.t .here) .nil)) rfl (f85_spec _ _)) ?_
    refine lv (.plain rfl) rfl rfl (opv_not rfl (Ev.eq (.t .here)) rfl) ?_
    refine lv (.plain rfl) rfl rfl (opv_move rfl (Ev.eq (.t .here))) ?_
    refine lsplit (.n 20 2 rfl) (fun h20 => ?_) (fun h20 => ?_)
    ·
     have q20 := h20
     try simp only [zs, List.length_map] at q20
     refine lv (.on rfl rfl .here (congrArg not h20)) rfl rfl (p_field (fldT49_2) rfl (Ev.eq (.t (.n 4 8 rfl))) (off' := 2) rfl) ?_
     refine lv (.on rfl rfl (.n 22 1 rfl) (congrArg not h20)) rfl rfl (p_loadn (cs := [_, _, _]) (agT47) rfl (Ev.eq (.t .here)) (HAt.eq .here) rfl rfl) ?_
     refine lv (.on rfl rfl (.n 22 2 rfl) (congrArg not h20)) rfl rfl (q_call rfl .f Tryd.call86 (.cons (.t .here) .nil) rfl (f86_spec ⟨_, _, _⟩)) ?_
     refine lv (.on rfl rfl (.n 22 3 rfl) (congrArg not h20)) rfl rfl (opv_neq_i rfl (Ev.eq (.t .here)) (Ev.eq .i) rfl) ?_
     refine lv (.plain rfl) rfl rfl (opv_pick_f rfl (Ev.eq (.t (.n 22 4 rfl))) (congrArg not h20) (Ev.eq (.t .here))) ?_
     refine awpL_nil ?_
     refine psplit (.n 26 1 rfl) (fun h26 => ?_) (fun h26 => ?_)
     ·
      have q26 := h26
      try simp only [zs, List.length_map] at q26
      refine pcond_t (.t .here) h26 ?_
      refine awp_seq ?_
      refine awp_region ?_
      refine lv (.plain rfl) rfl rfl (opv_assign rfl (Ev.eq .i)) ?_
      refine awpL_nil ?_
      refine awp_ret ?_
      refine ret_now (.one (rv_t .here)) (Cast.all _ _) ?_
      refine ⟨congrArg (fun x => AV.d (D.i .i64 x)) ?_, rfl⟩
      have : okFrom none l = false := by rw [hst]; simp_all [joinB, erI, val_eq, prevAt, stepB] <;> omega
      simp [rowsB, erI, this]
     ·
      have q26 := h26
      try simp only [zs, List.length_map] at q26
      refine pcond_f (.t .here) h26 ?_
      refine awp_skip ?_
      refine awp_seq ?_
      refine awp_seq ?_
      refine awp_region ?_
      refine lv (.plain rfl) rfl rfl (opv_move rfl (Ev.eq (.t (.n 3 12 rfl)))) ?_
      refine lv (.plain rfl) rfl rfl (opv_eql_i rfl (Ev.eq (.t .here)) (Ev.eq .i) rfl) ?_
      refine awpL_nil ?_
      refine psplit .here (fun h29 => ?_) (fun h29 => ?_)
      ·
       have q29 := h29
       try simp only [zs, List.length_map] at q29
       refine pcond_t (.t .here) h29 ?_
       refine awp_exit ?_
       refine awp_region ?_
       refine lv (.plain rfl) rfl rfl (opv_add rfl (Ev.eq (.t (.n 11 23 rfl))) (Ev.eq .i) (wr64 (by omega) (by omega)) rfl) ?_
       refine lv (.plain rfl) rfl rfl (opv_move rfl (Ev.eq (.t .here))) ?_
       refine awpL_nil ?_
       refine ⟨i + 1, by omega, ⟨by omega, by rw [prevAt_succ hk, hst]; simp_all [erI, joinB, val_eq, prevAt, stepB] <;> omega⟩, weak_both (.ce (.n 0 22 rfl) (by first | rfl | (simp; done) | (simp; omega)) (.ce (.n 9 23 rfl) (by first | rfl | (simp; done) | (simp; omega)) (.ce (.n 10 24 rfl) (by first | rfl | (simp; done) | (simp; omega)) (.ce .here (by first | rfl | (simp; done) | (simp; omega)) .nil)))) (.cons _ (List.Sublist.refl _))⟩
      ·
       have q29 := h29
       try simp only [zs, List.length_map] at q29
       refine pcond_f (.t .here) h29 ?_
       refine awp_skip ?_
       refine awp_seq ?_
       refine awp_region ?_
       refine lv (.plain rfl) rfl rfl (opv_move rfl (Ev.eq (.t (.n 0 20 rfl)))) ?_
       refine lv (.plain rfl) rfl rfl (opv_move rfl (Ev.eq (.t (.n 3 15 rfl)))) ?_
       refine lv (.plain rfl) rfl rfl (opv_sub rfl (Ev.eq (.t .here)) (Ev.eq .i) (wr64 (by omega) (by omega)) rfl) ?_
       obtain ⟨q, hq⟩ := some_at (l := l) (i := i - 1) (by omega)
       have hpv : prevAt l i = some q := by simp only [prevAt]; rw [if_neg (by omega), hq]
       have hq' : (l.map encRow)[(((i : Int) - 1)).toNat]? = some (encRow q) := by rw [show (((i : Int) - 1)).toNat = i - 1 by omega, List.getElem?_map, hq]; rfl
       refine lv (.plain rfl) rfl rfl (p_index (slT22) rfl (Ev.eq (.t (.n 30 2 rfl))) (Ev.eq (.t .here)) (by omega) (by first | assumption | exact map_at (by assumption) | exact encTries_at (by assumption)) rfl) ?_
       refine lv (.plain rfl) rfl rfl (p_loadnf (agT49) rfl (Ev.eq (.t .here)) (Nat.le_of_ble_eq_true rfl) rfl) ?_
       refine l_alloc zT49 (.plain rfl) rfl rfl rfl (fun g9 ng9 => ?_)
       refine l_storen Tryd.sizeOf49 (.plain rfl) rfl rfl (.t .here) (.t (.n 34 1 rfl)) rfl rfl rfl .here ?_
       refine awpL_nil ?_
       refine awp_seq ?_
       refine awp_region ?_
       refine lv (.plain rfl) rfl rfl (p_field (fldT49_0) rfl (Ev.eq (.t (.n 4 21 rfl))) (off' := 0) rfl) ?_
       refine lv (.plain rfl) rfl rfl (q_load1 (scT3) rfl (Ev.eq (.t .here)) (.there .here) .here) ?_
       refine lv (.plain rfl) rfl rfl (p_field (fldT49_1) rfl (Ev.eq (.t (.n 5 2 rfl))) (off' := 1) rfl) ?_
       refine lv (.plain rfl) rfl rfl (q_load1 (scT3) rfl (Ev.eq (.t .here)) .here (.there .here)) ?_
       refine lv (.plain rfl) rfl rfl (opv_lss rfl (Ev.eq (.t (.n 36 2 rfl))) (Ev.eq (.t .here)) rfl) ?_
       refine lv (.plain rfl) rfl rfl (opv_move rfl (Ev.eq (.t .here))) ?_
       refine lsplit (.n 39 1 rfl) (fun h39 => ?_) (fun h39 => ?_)
       ·
        have q39 := h39
        try simp only [zs, List.length_map] at q39
        refine lo (.off rfl rfl .here h39) rfl rfl ?_
        refine lo (.off rfl rfl (.n 40 1 rfl) h39) rfl rfl ?_
        refine lo (.off rfl rfl (.n 40 2 rfl) h39) rfl rfl ?_
        refine lo (.off rfl rfl (.n 40 3 rfl) h39) rfl rfl ?_
        refine lo (.off rfl rfl (.n 40 4 rfl) h39) rfl rfl ?_
        refine lo (.off rfl rfl (.n 40 5 rfl) h39) rfl rfl ?_
        refine lo (.no rfl rfl .here) rfl rfl ?_
        refine lo (.no rfl rfl (.n 46 1 rfl)) rfl rfl ?_
        refine lo (.no rfl rfl (.n 46 2 rfl)) rfl rfl ?_
        refine lo (.no rfl rfl (.n 46 3 rfl)) rfl rfl ?_
        refine lo (.no rfl rfl (.n 46 4 rfl)) rfl rfl ?_
        refine lo (.off rfl rfl (.n 40 11 rfl) h39) rfl rfl ?_
        refine lv (.plain rfl) rfl rfl (opv_pick_t rfl (Ev.eq (.t (.n 40 12 rfl))) h39 (Ev.eq .b)) ?_
        refine awpL_nil ?_
        refine pcond_t (.t .here) rfl ?_
        refine awp_seq ?_
        refine awp_region ?_
        refine lv (.plain rfl) rfl rfl (opv_assign rfl (Ev.eq .i)) ?_
        refine awpL_nil ?_
        refine awp_ret ?_
        refine ret_now (.one (rv_t .here)) (Cast.all _ _) ?_
        refine ⟨congrArg (fun x => AV.d (D.i .i64 x)) ?_, rfl⟩
        have : okFrom none l = false := by rw [hst]; simp_all [joinB, erI, val_eq, prevAt, stepB] <;> omega
        simp [rowsB, erI, this]
       ·
        have q39 := h39
        try simp only [zs, List.length_map] at q39
        refine lv (.on rfl rfl .here h39) rfl rfl (p_field (fldT49_0) rfl (Ev.eq (.t (.n 4 27 rfl))) (off' := 0) rfl) ?_
        refine lv (.on rfl rfl (.n 40 1 rfl) h39) rfl rfl (q_load1 (scT3) rfl (Ev.eq (.t .here)) (.there .here) .here) ?_
        refine lv (.on rfl rfl (.n 40 2 rfl) h39) rfl rfl (p_field (fldT49_1) rfl (Ev.eq (.t (.n 5 8 rfl))) (off' := 1) rfl) ?_
        refine lv (.on rfl rfl (.n 40 3 rfl) h39) rfl rfl (q_load1 (scT3) rfl (Ev.eq (.t .here)) .here (.there .here)) ?_
        refine lv (.on rfl rfl (.n 40 4 rfl) h39) rfl rfl (opv_eql_i rfl (Ev.eq (.t (.n 42 2 rfl))) (Ev.eq (.t .here)) rfl) ?_
        refine lv (.on rfl rfl (.n 40 5 rfl) h39) rfl rfl (opv_move rfl (Ev.eq (.t .here))) ?_
        refine lsplit (.n 45 1 rfl) (fun h45 => ?_) (fun h45 => ?_)
        ·
         have q45 := h45
         try simp only [zs, List.length_map] at q45
         refine lv (.on rfl rfl .here h45) rfl rfl (p_field (fldT49_2) rfl (Ev.eq (.t (.n 4 33 rfl))) (off' := 2) rfl) ?_
         refine lv (.on rfl rfl (.n 46 1 rfl) h45) rfl rfl (p_loadn (cs := [_, _, _]) (agT47) rfl (Ev.eq (.t .here)) (HAt.eq (.there .here)) rfl rfl) ?_
         refine lv (.on rfl rfl (.n 46 2 rfl) h45) rfl rfl (p_field (fldT49_2) rfl (Ev.eq (.t (.n 5 14 rfl))) (off' := 2) rfl) ?_
         refine lv (.on rfl rfl (.n 46 3 rfl) h45) rfl rfl (p_loadn (cs := [_, _, _]) (agT47) rfl (Ev.eq (.t .here)) (HAt.eq .here) rfl rfl) ?_
         refine lv (.on rfl rfl (.n 46 4 rfl) h45) rfl rfl (veq47 rfl (Ev.eq (.t (.n 48 2 rfl))) (Ev.eq (.t .here)) rfl) ?_
         refine lv (.on rfl rfl (.n 40 11 rfl) h39) rfl rfl (opv_pick_t rfl (Ev.eq (.t (.n 46 5 rfl))) h45 (Ev.eq (.t .here))) ?_
         refine lv (.plain rfl) rfl rfl (opv_pick_f rfl (Ev.eq (.t (.n 40 12 rfl))) h39 (Ev.eq (.t .here))) ?_
         refine awpL_nil ?_
         refine psplit (.n 51 2 rfl) (fun h51 => ?_) (fun h51 => ?_)
         ·
          have q51 := h51
          try simp only [zs, List.length_map] at q51
          refine pcond_t (.t .here) h51 ?_
          refine awp_seq ?_
          refine awp_region ?_
          refine lv (.plain rfl) rfl rfl (opv_assign rfl (Ev.eq .i)) ?_
          refine awpL_nil ?_
          refine awp_ret ?_
          refine ret_now (.one (rv_t .here)) (Cast.all _ _) ?_
          refine ⟨congrArg (fun x => AV.d (D.i .i64 x)) ?_, rfl⟩
          have : okFrom none l = false := by rw [hst]; simp_all [joinB, erI, val_eq, prevAt, stepB] <;> omega
          simp [rowsB, erI, this]
         ·
          have q51 := h51
          try simp only [zs, List.length_map] at q51
          refine pcond_f (.t .here) h51 ?_
          refine awp_skip ?_
          refine awp_region ?_
          refine lv (.plain rfl) rfl rfl (opv_add rfl (Ev.eq (.t (.n 11 48 rfl))) (Ev.eq .i) (wr64 (by omega) (by omega)) rfl) ?_
          refine lv (.plain rfl) rfl rfl (opv_move rfl (Ev.eq (.t .here))) ?_
          refine awpL_nil ?_
          refine ⟨i + 1, by omega, ⟨by omega, by rw [prevAt_succ hk, hst]; simp_all [erI, joinB, val_eq, prevAt, stepB] <;> omega⟩, weak_both (.ce (.n 0 47 rfl) (by first | rfl | (simp; done) | (simp; omega)) (.ce (.n 9 48 rfl) (by first | rfl | (simp; done) | (simp; omega)) (.ce (.n 10 49 rfl) (by first | rfl | (simp; done) | (simp; omega)) (.ce .here (by first | rfl | (simp; done) | (simp; omega)) .nil)))) (.cons _ (.cons _ (List.Sublist.refl _)))⟩
        ·
         have q45 := h45
         try simp only [zs, List.length_map] at q45
         refine lo (.off rfl rfl .here h45) rfl rfl ?_
         refine lo (.off rfl rfl (.n 46 1 rfl) h45) rfl rfl ?_
         refine lo (.off rfl rfl (.n 46 2 rfl) h45) rfl rfl ?_
         refine lo (.off rfl rfl (.n 46 3 rfl) h45) rfl rfl ?_
         refine lo (.off rfl rfl (.n 46 4 rfl) h45) rfl rfl ?_
         refine lv (.on rfl rfl (.n 40 11 rfl) h39) rfl rfl (opv_pick_f rfl (Ev.eq (.t (.n 46 5 rfl))) h45 (Ev.eq .b)) ?_
         refine lv (.plain rfl) rfl rfl (opv_pick_f rfl (Ev.eq (.t (.n 40 12 rfl))) h39 (Ev.eq (.t .here))) ?_
         refine awpL_nil ?_
         refine pcond_f (.t .here) rfl ?_
         refine awp_skip ?_
         refine awp_region ?_
         refine lv (.plain rfl) rfl rfl (opv_add rfl (Ev.eq (.t (.n 11 48 rfl))) (Ev.eq .i) (wr64 (by omega) (by omega)) rfl) ?_
         refine lv (.plain rfl) rfl rfl (opv_move rfl (Ev.eq (.t .here))) ?_
         refine awpL_nil ?_
         refine ⟨i + 1, by omega, ⟨by omega, by rw [prevAt_succ hk, hst]; simp_all [erI, joinB, val_eq, prevAt, stepB] <;> omega⟩, weak_both (.ce (.n 0 47 rfl) (by first | rfl | (simp; done) | (simp; omega)) (.ce (.n 9 48 rfl) (by first | rfl | (simp; done) | (simp; omega)) (.ce (.n 10 49 rfl) (by first | rfl | (simp; done) | (simp; omega)) (.ce .here (by first | rfl | (simp; done) | (simp; omega)) .nil)))) (.cons _ (.cons _ (List.Sublist.refl _)))⟩
    ·
     have q20 := h20
     try simp only [zs, List.length_map] at q20
     refine lo (.off rfl rfl .here (congrArg not h20)) rfl rfl ?_
     refine lo (.off rfl rfl (.n 22 1 rfl) (congrArg not h20)) rfl rfl ?_
     refine lo (.off rfl rfl (.n 22 2 rfl) (congrArg not h20)) rfl rfl ?_
     refine lo (.off rfl rfl (.n 22 3 rfl) (congrArg not h20)) rfl rfl ?_
     refine lv (.plain rfl) rfl rfl (opv_pick_t rfl (Ev.eq (.t (.n 22 4 rfl))) (congrArg not h20) (Ev.eq .b)) ?_
     refine awpL_nil ?_
     refine pcond_t (.t .here) rfl ?_
     refine awp_seq ?_
     refine awp_region ?_
     refine lv (.plain rfl) rfl rfl (opv_assign rfl (Ev.eq .i)) ?_
     refine awpL_nil ?_
     refine awp_ret ?_
     refine ret_now (.one (rv_t .here)) (Cast.all _ _) ?_
     refine ⟨congrArg (fun x => AV.d (D.i .i64 x)) ?_, rfl⟩
     have : okFrom none l = false := by rw [hst]; simp_all [joinB, erI, val_eq, prevAt, stepB] <;> omega
     simp [rowsB, erI, this]
   ·
    have q12 := h12
    try simp only [zs, List.length_map] at q12
    refine pcond_f (.t .here) h12 ?_
    refine awp_exit ?_
    refine awp_seq ?_
    refine awp_region ?_
    refine lv (.plain rfl) rfl rfl (opv_assign rfl (Ev.eq .i)) ?_
    refine awpL_nil ?_
    refine awp_ret ?_
    refine ret_now (.one (rv_t .here)) (Cast.all _ _) ?_
    refine ⟨congrArg (fun x => AV.d (D.i .i64 x)) ?_, rfl⟩
    obtain rfl : i = l.length := by omega
    rw [List.drop_length] at hEQ
    have h64 : l.length ≤ 64 := by omega
    simp [rowsB, erI, ← hEQ, okFrom, h64]
theorem f118_spec (l : List Row) : FSpec Tryd.prog 118 [.d (dRows l)] (.d (.b (rowsB l))) := by
  refine acalls_of Tryd.func118 rfl Tryd.ntmps118 Tryd.results118 (by simp) ?_
  refine awp_seq ?_
  refine awp_region ?_
  refine lv (.plain rfl) rfl rfl (opv_assign rfl (Ev.eq .b)) ?_
  refine awpL_nil ?_
  refine awp_seq ?_
  refine awp_seq ?_
  refine awp_region ?_
  refine lv (.plain rfl) rfl rfl (opv_move rfl (Ev.eq (.t (.n 0 1 rfl)))) ?_
  refine lv (.plain rfl) rfl rfl (opv_len_sl Tryd.underlying22 rfl (Ev.eq (.t .here)) rfl) ?_
  refine lv (.plain rfl) rfl rfl (opv_gtr rfl (Ev.eq (.t .here)) (Ev.eq .i) rfl) ?_
  refine awpL_nil ?_
  refine psplit .here (fun h6 => ?_) (fun h6 => ?_)
  ·
   have q6 := h6
   try simp only [zs, List.length_map] at q6
   refine pcond_t (.t .here) h6 ?_
   refine awp_seq ?_
   refine awp_region ?_
   refine lv (.plain rfl) rfl rfl (opv_assign rfl (Ev.eq .b)) ?_
   refine awpL_nil ?_
   refine awp_ret ?_
   refine ret_now (.one (rv_t .here)) (Cast.all _ _) ?_
   refine ⟨congrArg (fun x => AV.d (D.b x)) ?_, rfl⟩
   have : ¬ l.length ≤ 64 := by omega
   simp [rowsB, erI, this]
  ·
   have q6 := h6
   try simp only [zs, List.length_map] at q6
   refine pcond_f (.t .here) h6 ?_
   refine awp_skip ?_
   refine awp_seq ?_
   refine awp_seq ?_
   refine awp_region ?_
   refine lv (.plain rfl) rfl rfl (opv_assign rfl (Ev.eq .i)) ?_
   refine awpL_nil ?_
   refine awp_block ?_
   refine ploop (fun (i : Nat) => ⟨78, [(0, .d (dRows l)), (3, .d (.i .i64 (i : Int)))], [], []⟩) (fun i => i ≤ l.length ∧ okFrom (prevAt l i) (l.drop i) = okFrom none l) (fun i => l.length - i) (0) (weak_both (.ce (.n 0 5 rfl) (by first | rfl | (simp; done) | (simp; omega)) (.ce .here (by first | rfl | (simp; done) | (simp; omega)) .nil)) (List.Sublist.refl _)) (⟨by omega, rfl⟩) ?_
   rintro i ⟨hi, hEQ⟩
   refine awp_seq ?_
   refine awp_seq ?_
   refine awp_region ?_
   refine lv (.plain rfl) rfl rfl (opv_move rfl (Ev.eq (.t (.n 3 1 rfl)))) ?_
   refine lv (.plain rfl) rfl rfl (opv_move rfl (Ev.eq (.t (.n 0 1 rfl)))) ?_
   refine lv (.plain rfl) rfl rfl (opv_len_sl Tryd.underlying22 rfl (Ev.eq (.t .here)) rfl) ?_
   refine lv (.plain rfl) rfl rfl (opv_lss rfl (Ev.eq (.t (.n 7 2 rfl))) (Ev.eq (.t .here)) rfl) ?_
   refine awpL_nil ?_
   refine psplit .here (fun h10 => ?_) (fun h10 => ?_)
   ·
    have q10 := h10
    try simp only [zs, List.length_map] at q10
    refine pcond_t (.t .here) h10 ?_
    refine awp_skip ?_
    refine awp_seq ?_
    refine awp_block ?_
    refine awp_seq ?_
    refine awp_seq ?_
    refine g_draw mixed kb_nil (by kernel_rfl) (fuel := 21) rfl rfl ?_
    refine g_v (listed' := bs 21 1) 0 rfl (by kernel_rfl) rfl (fun _ => .plain rfl) rfl (fun _ hK => opv_move rfl (Ev.eq (.t (.n 0 4 rfl)))) kb_nil ?_
    refine g_v (listed' := bs 21 3) 1 rfl (by kernel_rfl) rfl (fun _ => .plain rfl) rfl (fun _ hK => opv_move rfl (Ev.eq (.t (.n 3 6 rfl)))) kb_nil ?_
    obtain ⟨x, hk⟩ := some_at (l := l) (i := i) (by omega)
    have hst : okFrom none l = (spanB x.fr x.to && valB x.v && stepB (prevAt l i) x && okFrom (some x) (l.drop (i + 1))) := by rw [← hEQ, drop_cons hk, okFrom_cons]
    refine g_v (listed' := bs 21 7) 2 rfl (by kernel_rfl) rfl (fun _ => .plain rfl) rfl (fun _ hK => p_index (slT22) rfl (Ev.eq (.t (.n 13 1 rfl))) (Ev.eq (.t .here)) (by omega) (by first | assumption | exact map_at (by assumption) | exact encTries_at (by assumption)) rfl) kb_nil ?_
    refine g_v (listed' := bs 21 15) 3 rfl (by kernel_rfl) rfl (fun _ => .plain rfl) rfl (fun _ hK => p_fieldf (fldT49_0) rfl (Ev.eq (.t .here)) rfl) kb_nil ?_
    refine g_v (listed' := bs 21 31) 4 rfl (by kernel_rfl) rfl (fun _ => .plain rfl) rfl (fun _ hK => p_load1f (scT3) rfl (Ev.eq (.t .here))) kb_nil ?_
    refine g_v (listed' := bs 21 63) 5 rfl (by kernel_rfl) rfl (fun _ => .plain rfl) rfl (fun _ hK => opv_move rfl (Ev.eq (.t (.n 0 9 rfl)))) kb_nil ?_
    refine g_v (listed' := bs 21 127) 6 rfl (by kernel_rfl) rfl (fun _ => .plain rfl) rfl (fun _ hK => opv_move rfl (Ev.eq (.t (.n 3 11 rfl)))) kb_nil ?_
    refine g_v (listed' := bs 21 255) 7 rfl (by kernel_rfl) rfl (fun _ => .plain rfl) rfl (fun _ hK => p_index (slT22) rfl (Ev.eq (.t (.n 18 1 rfl))) (Ev.eq (.t .here)) (by omega) (by first | assumption | exact map_at (by assumption) | exact encTries_at (by assumption)) rfl) kb_nil ?_
    refine g_v (listed' := bs 21 511) 8 rfl (by kernel_rfl) rfl (fun _ => .plain rfl) rfl (fun _ hK => p_fieldf (fldT49_1) rfl (Ev.eq (.t .here)) rfl) kb_nil ?_
    refine g_v (listed' := bs 21 1023) 9 rfl (by kernel_rfl) rfl (fun _ => .plain rfl) rfl (fun _ hK => p_load1f (scT3) rfl (Ev.eq (.t .here))) kb_nil ?_
    refine g_v (listed' := bs 21 2047) 10 rfl (by kernel_rfl) rfl (fun _ => .plain rfl) rfl (fun _ hK => q_call rfl .f Tryd.call128 (.cons (.t (.n 17 5 rfl)) (.cons (.t .here) .nil)) rfl (f128_spec _ _)) kb_nil ?_
    refine g_v (listed' := bs 21 4095) 11 rfl (by kernel_rfl) rfl (fun _ => .plain rfl) rfl (fun _ hK => opv_not rfl (Ev.eq (.t .here)) rfl) kb_nil ?_
    refine g_v (listed' := bs 21 8191) 12 rfl (by kernel_rfl) rfl (fun _ => .plain rfl) rfl (fun _ hK => opv_move rfl (Ev.eq (.t .here))) kb_nil ?_
    refine gsplit (.n 23 2 rfl) (fun h23 => ?_) (fun h23 => ?_)
    ·
     have q23 := h23
     try simp only [zs, List.length_map] at q23
     refine g_v (listed' := bs 21 16383) 13 rfl (by kernel_rfl) rfl (fun _ => .on rfl rfl .here (congrArg not h23)) rfl (fun _ hK => opv_move rfl (Ev.eq (.t (.n 0 17 rfl)))) kb_nil ?_
     refine g_v (listed' := bs 21 32767) 14 rfl (by kernel_rfl) rfl (fun _ => .on rfl rfl (.n 25 1 rfl) (congrArg not h23)) rfl (fun _ hK => opv_move rfl (Ev.eq (.t (.n 3 19 rfl)))) kb_nil ?_
     refine g_v (listed' := bs 21 65535) 15 rfl (by kernel_rfl) rfl (fun _ => .on rfl rfl (.n 25 2 rfl) (congrArg not h23)) rfl (fun _ hK => p_index (slT22) rfl (Ev.eq (.t (.n 26 1 rfl))) (Ev.eq (.t .here)) (by omega) (by first | assumption | exact map_at (by assumption) | exact encTries_at (by assumption)) rfl) kb_nil ?_
     refine g_v (listed' := bs 21 131071) 16 rfl (by kernel_rfl) rfl (fun _ => .on rfl rfl (.n 25 3 rfl) (congrArg not h23)) rfl (fun _ hK => p_fieldf (fldT49_2) rfl (Ev.eq (.t .here)) rfl) kb_nil ?_
     refine g_v (listed' := bs 21 262143) 17 rfl (by kernel_rfl) rfl (fun _ => .on rfl rfl (.n 25 4 rfl) (congrArg not h23)) rfl (fun _ hK => p_loadnf (agT47) rfl (Ev.eq (.t .here)) (Nat.le_of_ble_eq_true rfl) rfl) kb_nil ?_
     refine g_v (listed' := bs 21 524287) 18 rfl (by kernel_rfl) rfl (fun _ => .on rfl rfl (.n 25 5 rfl) (congrArg not h23)) rfl (fun _ hK => q_call rfl .f Tryd.call129 (.cons (.t .here) .nil) rfl (f129_spec ⟨_, _, _⟩)) kb_nil ?_
     refine g_v (listed' := bs 21 1048575) 19 rfl (by kernel_rfl) rfl (fun _ => .on rfl rfl (.n 25 6 rfl) (congrArg not h23)) rfl (fun _ hK => opv_not rfl (Ev.eq (.t .here)) rfl) kb_nil ?_
     refine g_v (listed' := bs 21 2097151) 20 rfl (by kernel_rfl) rfl (fun _ => .plain rfl) rfl (fun _ hK => opv_pick_f rfl (Ev.eq (.t (.n 25 7 rfl))) (congrArg not h23) (Ev.eq (.t .here))) kb_nil ?_
     refine g_end (by kernel_rfl) ?_
     refine psplit (.n 31 2 rfl) (fun h31 => ?_) (fun h31 => ?_)
     ·
      have q31 := h31
      try simp only [zs, List.length_map] at q31
      refine pcond_f (.t .here) (congrArg not h31) ?_
      refine awp_skip ?_
      refine awp_seq ?_
      refine g_draw mixed kb_nil (by kernel_rfl) (fuel := 44) rfl rfl ?_
      refine g_v (listed' := bs 44 1) 0 rfl (by kernel_rfl) rfl (fun _ => .plain rfl) rfl (fun _ hK => opv_move rfl (Ev.eq (.t (.n 3 26 rfl)))) kb_nil ?_
      refine g_v (listed' := bs 44 3) 1 rfl (by kernel_rfl) rfl (fun _ => .plain rfl) rfl (fun _ hK => opv_gtr rfl (Ev.eq (.t .here)) (Ev.eq .i) rfl) kb_nil ?_
      refine g_v (listed' := bs 44 7) 2 rfl (by kernel_rfl) rfl (fun _ => .plain rfl) rfl (fun _ hK => opv_move rfl (Ev.eq (.t .here))) kb_nil ?_
      refine gsplit (.n 35 1 rfl) (fun h35 => ?_) (fun h35 => ?_)
      ·
       have q35 := h35
       try simp only [zs, List.length_map] at q35
       refine g_v (listed' := bs 44 15) 3 rfl (by kernel_rfl) rfl (fun _ => .on rfl rfl .here h35) rfl (fun _ hK => opv_move rfl (Ev.eq (.t (.n 0 28 rfl)))) kb_nil ?_
       refine g_v (listed' := bs 44 31) 4 rfl (by kernel_rfl) rfl (fun _ => .on rfl rfl (.n 36 1 rfl) h35) rfl (fun _ hK => opv_move rfl (Ev.eq (.t (.n 3 30 rfl)))) kb_nil ?_
       refine g_v (listed' := bs 44 63) 5 rfl (by kernel_rfl) rfl (fun _ => .on rfl rfl (.n 36 2 rfl) h35) rfl (fun _ hK => p_index (slT22) rfl (Ev.eq (.t (.n 37 1 rfl))) (Ev.eq (.t .here)) (by omega) (by first | assumption | exact map_at (by assumption) | exact encTries_at (by assumption)) rfl) kb_nil ?_
       refine g_v (listed' := bs 44 127) 6 rfl (by kernel_rfl) rfl (fun _ => .on rfl rfl (.n 36 3 rfl) h35) rfl (fun _ hK => p_fieldf (fldT49_0) rfl (Ev.eq (.t .here)) rfl) kb_nil ?_
       refine g_v (listed' := bs 44 255) 7 rfl (by kernel_rfl) rfl (fun _ => .on rfl rfl (.n 36 4 rfl) h35) rfl (fun _ hK => p_load1f (scT3) rfl (Ev.eq (.t .here))) kb_nil ?_
       refine g_v (listed' := bs 44 511) 8 rfl (by kernel_rfl) rfl (fun _ => .on rfl rfl (.n 36 5 rfl) h35) rfl (fun _ hK => opv_move rfl (Ev.eq (.t (.n 0 33 rfl)))) kb_nil ?_
       refine g_v (listed' := bs 44 1023) 9 rfl (by kernel_rfl) rfl (fun _ => .on rfl rfl (.n 36 6 rfl) h35) rfl (fun _ hK => opv_move rfl (Ev.eq (.t (.n 3 35 rfl)))) kb_nil ?_
       refine g_v (listed' := bs 44 2047) 10 rfl (by kernel_rfl) rfl (fun _ => .on rfl rfl (.n 36 7 rfl) h35) rfl (fun _ hK => opv_sub rfl (Ev.eq (.t .here)) (Ev.eq .i) (wr64 (by omega) (by omega)) rfl) kb_nil ?_
       obtain ⟨q, hq⟩ := some_at (l := l) (i := i - 1) (by omega)
       have hpv : prevAt l i = some q := by simp only [prevAt]; rw [if_neg (by omega), hq]
       have hq' : (l.map encRow)[(((i : Int) - 1)).toNat]? = some (encRow q) := by rw [show (((i : Int) - 1)).toNat = i - 1 by omega, List.getElem?_map, hq]; rfl
       refine g_v (listed' := bs 44 4095) 11 rfl (by kernel_rfl) rfl (fun _ => .on rfl rfl (.n 36 8 rfl) h35) rfl (fun _ hK => p_index (slT22) rfl (Ev.eq (.t (.n 42 2 rfl))) (Ev.eq (.t .here)) (by omega) (by first | assumption | exact map_at (by assumption) | exact encTries_at (by assumption)) rfl) kb_nil ?_
       refine g_v (listed' := bs 44 8191) 12 rfl (by kernel_rfl) rfl (fun _ => .on rfl rfl (.n 36 9 rfl) h35) rfl (fun _ hK => p_fieldf (fldT49_1) rfl (Ev.eq (.t .here)) rfl) kb_nil ?_
       refine g_v (listed' := bs 44 16383) 13 rfl (by kernel_rfl) rfl (fun _ => .on rfl rfl (.n 36 10 rfl) h35) rfl (fun _ hK => p_load1f (scT3) rfl (Ev.eq (.t .here))) kb_nil ?_
       refine g_v (listed' := bs 44 32767) 14 rfl (by kernel_rfl) rfl (fun _ => .on rfl rfl (.n 36 11 rfl) h35) rfl (fun _ hK => opv_lss rfl (Ev.eq (.t (.n 41 6 rfl))) (Ev.eq (.t .here)) rfl) kb_nil ?_
       refine g_v (listed' := bs 44 65535) 15 rfl (by kernel_rfl) rfl (fun _ => .on rfl rfl (.n 36 12 rfl) h35) rfl (fun _ hK => opv_move rfl (Ev.eq (.t .here))) kb_nil ?_
       refine gsplit (.n 48 1 rfl) (fun h48 => ?_) (fun h48 => ?_)
       ·
        have q48 := h48
        try simp only [zs, List.length_map] at q48
        refine g_o (listed' := bs 44 131071) 16 rfl (by kernel_rfl) rfl (fun _ => .off rfl rfl .here h48) rfl kb_nil ?_
        refine g_o (listed' := bs 44 262143) 17 rfl (by kernel_rfl) rfl (fun _ => .off rfl rfl (.n 49 1 rfl) h48) rfl kb_nil ?_
        refine g_o (listed' := bs 44 524287) 18 rfl (by kernel_rfl) rfl (fun _ => .off rfl rfl (.n 49 2 rfl) h48) rfl kb_nil ?_
        refine g_o (listed' := bs 44 1048575) 19 rfl (by kernel_rfl) rfl (fun _ => .off rfl rfl (.n 49 3 rfl) h48) rfl kb_nil ?_
        refine g_o (listed' := bs 44 2097151) 20 rfl (by kernel_rfl) rfl (fun _ => .off rfl rfl (.n 49 4 rfl) h48) rfl kb_nil ?_
        refine g_o (listed' := bs 44 4194303) 21 rfl (by kernel_rfl) rfl (fun _ => .off rfl rfl (.n 49 5 rfl) h48) rfl kb_nil ?_
        refine g_o (listed' := bs 44 8388607) 22 rfl (by kernel_rfl) rfl (fun _ => .off rfl rfl (.n 49 6 rfl) h48) rfl kb_nil ?_
        refine g_o (listed' := bs 44 16777215) 23 rfl (by kernel_rfl) rfl (fun _ => .off rfl rfl (.n 49 7 rfl) h48) rfl kb_nil ?_
        refine g_o (listed' := bs 44 33554431) 24 rfl (by kernel_rfl) rfl (fun _ => .off rfl rfl (.n 49 8 rfl) h48) rfl kb_nil ?_
        refine g_o (listed' := bs 44 67108863) 25 rfl (by kernel_rfl) rfl (fun _ => .off rfl rfl (.n 49 9 rfl) h48) rfl kb_nil ?_
        refine g_o (listed' := bs 44 134217727) 26 rfl (by kernel_rfl) rfl (fun _ => .off rfl rfl (.n 49 10 rfl) h48) rfl kb_nil ?_
        refine g_o (listed' := bs 44 268435455) 27 rfl (by kernel_rfl) rfl (fun _ => .off rfl rfl (.n 49 11 rfl) h48) rfl kb_nil ?_
        refine g_o (listed' := bs 44 536870911) 28 rfl (by kernel_rfl) rfl (fun _ => .off rfl rfl (.n 49 12 rfl) h48) rfl kb_nil ?_
        refine g_o (listed' := bs 44 1073741823) 29 rfl (by kernel_rfl) rfl (fun _ => .no rfl rfl .here) rfl kb_nil ?_
        refine g_o (listed' := bs 44 2147483647) 30 rfl (by kernel_rfl) rfl (fun _ => .no rfl rfl (.n 62 1 rfl)) rfl kb_nil ?_
        refine g_o (listed' := bs 44 4294967295) 31 rfl (by kernel_rfl) rfl (fun _ => .no rfl rfl (.n 62 2 rfl)) rfl kb_nil ?_
        refine g_o (listed' := bs 44 8589934591) 32 rfl (by kernel_rfl) rfl (fun _ => .no rfl rfl (.n 62 3 rfl)) rfl kb_nil ?_
        refine g_o (listed' := bs 44 17179869183) 33 rfl (by kernel_rfl) rfl (fun _ => .no rfl rfl (.n 62 4 rfl)) rfl kb_nil ?_
        refine g_o (listed' := bs 44 34359738367) 34 rfl (by kernel_rfl) rfl (fun _ => .no rfl rfl (.n 62 5 rfl)) rfl kb_nil ?_
        refine g_o (listed' := bs 44 68719476735) 35 rfl (by kernel_rfl) rfl (fun _ => .no rfl rfl (.n 62 6 rfl)) rfl kb_nil ?_
        refine g_o (listed' := bs 44 137438953471) 36 rfl (by kernel_rfl) rfl (fun _ => .no rfl rfl (.n 62 7 rfl)) rfl kb_nil ?_
        refine g_o (listed' := bs 44 274877906943) 37 rfl (by kernel_rfl) rfl (fun _ => .no rfl rfl (.n 62 8 rfl)) rfl kb_nil ?_
        refine g_o (listed' := bs 44 549755813887) 38 rfl (by kernel_rfl) rfl (fun _ => .no rfl rfl (.n 62 9 rfl)) rfl kb_nil ?_
        refine g_o (listed' := bs 44 1099511627775) 39 rfl (by kernel_rfl) rfl (fun _ => .no rfl rfl (.n 62 10 rfl)) rfl kb_nil ?_
        refine g_o (listed' := bs 44 2199023255551) 40 rfl (by kernel_rfl) rfl (fun _ => .no rfl rfl (.n 62 11 rfl)) rfl kb_nil ?_
        refine g_o (listed' := bs 44 4398046511103) 41 rfl (by kernel_rfl) rfl (fun _ => .off rfl rfl (.n 49 25 rfl) h48) rfl kb_nil ?_
        refine g_v (listed' := bs 44 8796093022207) 42 rfl (by kernel_rfl) rfl (fun _ => .on rfl rfl (.n 36 39 rfl) h35) rfl (fun _ hK => opv_pick_t rfl (Ev.eq (.t (.n 49 26 rfl))) h48 (Ev.eq .b)) kb_nil ?_
        refine g_v (listed' := bs 44 17592186044415) 43 rfl (by kernel_rfl) rfl (fun _ => .plain rfl) rfl (fun _ hK => opv_pick_t rfl (Ev.eq (.t (.n 36 40 rfl))) h35 (Ev.eq (.t .here))) kb_nil ?_
        refine g_end (by kernel_rfl) ?_
        refine pcond_t (.t .here) rfl ?_
        refine awp_seq ?_
        refine awp_region ?_
        refine lv (.plain rfl) rfl rfl (opv_assign rfl (Ev.eq .b)) ?_
        refine awpL_nil ?_
        refine awp_ret ?_
        refine ret_now (.one (rv_t .here)) (Cast.all _ _) ?_
        refine ⟨congrArg (fun x => AV.d (D.b x)) ?_, rfl⟩
        have : okFrom none l = false := by rw [hst]; simp_all [joinB, erI, val_eq, prevAt, stepB] <;> omega
        simp [rowsB, erI, this]
       ·
        have q48 := h48
        try simp only [zs, List.length_map] at q48
        refine g_v (listed' := bs 44 131071) 16 rfl (by kernel_rfl) rfl (fun _ => .on rfl rfl .here h48) rfl (fun _ hK => opv_move rfl (Ev.eq (.t (.n 0 41 rfl)))) kb_nil ?_
        refine g_v (listed' := bs 44 262143) 17 rfl (by kernel_rfl) rfl (fun _ => .on rfl rfl (.n 49 1 rfl) h48) rfl (fun _ hK => opv_move rfl (Ev.eq (.t (.n 3 43 rfl)))) kb_nil ?_
        refine g_v (listed' := bs 44 524287) 18 rfl (by kernel_rfl) rfl (fun _ => .on rfl rfl (.n 49 2 rfl) h48) rfl (fun _ hK => p_index (slT22) rfl (Ev.eq (.t (.n 50 1 rfl))) (Ev.eq (.t .here)) (by omega) (by first | assumption | exact map_at (by assumption) | exact encTries_at (by assumption)) rfl) kb_nil ?_
        refine g_v (listed' := bs 44 1048575) 19 rfl (by kernel_rfl) rfl (fun _ => .on rfl rfl (.n 49 3 rfl) h48) rfl (fun _ hK => p_fieldf (fldT49_0) rfl (Ev.eq (.t .here)) rfl) kb_nil ?_
        refine g_v (listed' := bs 44 2097151) 20 rfl (by kernel_rfl) rfl (fun _ => .on rfl rfl (.n 49 4 rfl) h48) rfl (fun _ hK => p_load1f (scT3) rfl (Ev.eq (.t .here))) kb_nil ?_
        refine g_v (listed' := bs 44 4194303) 21 rfl (by kernel_rfl) rfl (fun _ => .on rfl rfl (.n 49 5 rfl) h48) rfl (fun _ hK => opv_move rfl (Ev.eq (.t (.n 0 46 rfl)))) kb_nil ?_
        refine g_v (listed' := bs 44 8388607) 22 rfl (by kernel_rfl) rfl (fun _ => .on rfl rfl (.n 49 6 rfl) h48) rfl (fun _ hK => opv_move rfl (Ev.eq (.t (.n 3 48 rfl)))) kb_nil ?_
        refine g_v (listed' := bs 44 16777215) 23 rfl (by kernel_rfl) rfl (fun _ => .on rfl rfl (.n 49 7 rfl) h48) rfl (fun _ hK => opv_sub rfl (Ev.eq (.t .here)) (Ev.eq .i) (wr64 (by omega) (by omega)) rfl) kb_nil ?_
        refine g_v (listed' := bs 44 33554431) 24 rfl (by kernel_rfl) rfl (fun _ => .on rfl rfl (.n 49 8 rfl) h48) rfl (fun _ hK => p_index (slT22) rfl (Ev.eq (.t (.n 55 2 rfl))) (Ev.eq (.t .here)) (by omega) (by first | assumption | exact map_at (by assumption) | exact encTries_at (by assumption)) rfl) kb_nil ?_
        refine g_v (listed' := bs 44 67108863) 25 rfl (by kernel_rfl) rfl (fun _ => .on rfl rfl (.n 49 9 rfl) h48) rfl (fun _ hK => p_fieldf (fldT49_1) rfl (Ev.eq (.t .here)) rfl) kb_nil ?_
        refine g_v (listed' := bs 44 134217727) 26 rfl (by kernel_rfl) rfl (fun _ => .on rfl rfl (.n 49 10 rfl) h48) rfl (fun _ hK => p_load1f (scT3) rfl (Ev.eq (.t .here))) kb_nil ?_
        refine g_v (listed' := bs 44 268435455) 27 rfl (by kernel_rfl) rfl (fun _ => .on rfl rfl (.n 49 11 rfl) h48) rfl (fun _ hK => opv_eql_i rfl (Ev.eq (.t (.n 54 6 rfl))) (Ev.eq (.t .here)) rfl) kb_nil ?_
        refine g_v (listed' := bs 44 536870911) 28 rfl (by kernel_rfl) rfl (fun _ => .on rfl rfl (.n 49 12 rfl) h48) rfl (fun _ hK => opv_move rfl (Ev.eq (.t .here))) kb_nil ?_
        refine gsplit (.n 61 1 rfl) (fun h61 => ?_) (fun h61 => ?_)
        ·
         have q61 := h61
         try simp only [zs, List.length_map] at q61
         refine g_v (listed' := bs 44 1073741823) 29 rfl (by kernel_rfl) rfl (fun _ => .on rfl rfl .here h61) rfl (fun _ hK => opv_move rfl (Ev.eq (.t (.n 0 54 rfl)))) kb_nil ?_
         refine g_v (listed' := bs 44 2147483647) 30 rfl (by kernel_rfl) rfl (fun _ => .on rfl rfl (.n 62 1 rfl) h61) rfl (fun _ hK => opv_move rfl (Ev.eq (.t (.n 3 56 rfl)))) kb_nil ?_
         refine g_v (listed' := bs 44 4294967295) 31 rfl (by kernel_rfl) rfl (fun _ => .on rfl rfl (.n 62 2 rfl) h61) rfl (fun _ hK => p_index (slT22) rfl (Ev.eq (.t (.n 63 1 rfl))) (Ev.eq (.t .here)) (by omega) (by first | assumption | exact map_at (by assumption) | exact encTries_at (by assumption)) rfl) kb_nil ?_
         refine g_v (listed' := bs 44 8589934591) 32 rfl (by kernel_rfl) rfl (fun _ => .on rfl rfl (.n 62 3 rfl) h61) rfl (fun _ hK => p_fieldf (fldT49_2) rfl (Ev.eq (.t .here)) rfl) kb_nil ?_
         refine g_v (listed' := bs 44 17179869183) 33 rfl (by kernel_rfl) rfl (fun _ => .on rfl rfl (.n 62 4 rfl) h61) rfl (fun _ hK => p_loadnf (agT47) rfl (Ev.eq (.t .here)) (Nat.le_of_ble_eq_true rfl) rfl) kb_nil ?_
         refine g_v (listed' := bs 44 34359738367) 34 rfl (by kernel_rfl) rfl (fun _ => .on rfl rfl (.n 62 5 rfl) h61) rfl (fun _ hK => opv_move rfl (Ev.eq (.t (.n 0 59 rfl)))) kb_nil ?_
         refine g_v (listed' := bs 44 68719476735) 35 rfl (by kernel_rfl) rfl (fun _ => .on rfl rfl (.n 62 6 rfl) h61) rfl (fun _ hK => opv_move rfl (Ev.eq (.t (.n 3 61 rfl)))) kb_nil ?_
         refine g_v (listed' := bs 44 137438953471) 36 rfl (by kernel_rfl) rfl (fun _ => .on rfl rfl (.n 62 7 rfl) h61) rfl (fun _ hK => opv_sub rfl (Ev.eq (.t .here)) (Ev.eq .i) (wr64 (by omega) (by omega)) rfl) kb_nil ?_
         refine g_v (listed' := bs 44 274877906943) 37 rfl (by kernel_rfl) rfl (fun _ => .on rfl rfl (.n 62 8 rfl) h61) rfl (fun _ hK => p_index (slT22) rfl (Ev.eq (.t (.n 68 2 rfl))) (Ev.eq (.t .here)) (by omega) (by first | assumption | exact map_at (by assumption) | exact encTries_at (by assumption)) rfl) kb_nil ?_
         refine g_v (listed' := bs 44 549755813887) 38 rfl (by kernel_rfl) rfl (fun _ => .on rfl rfl (.n 62 9 rfl) h61) rfl (fun _ hK => p_fieldf (fldT49_2) rfl (Ev.eq (.t .here)) rfl) kb_nil ?_
         refine g_v (listed' := bs 44 1099511627775) 39 rfl (by kernel_rfl) rfl (fun _ => .on rfl rfl (.n 62 10 rfl) h61) rfl (fun _ hK => p_loadnf (agT47) rfl (Ev.eq (.t .here)) (Nat.le_of_ble_eq_true rfl) rfl) kb_nil ?_
         refine g_v (listed' := bs 44 2199023255551) 40 rfl (by kernel_rfl) rfl (fun _ => .on rfl rfl (.n 62 11 rfl) h61) rfl (fun _ hK => veq47 rfl (Ev.eq (.t (.n 67 6 rfl))) (Ev.eq (.t .here)) rfl) kb_nil ?_
         refine g_v (listed' := bs 44 4398046511103) 41 rfl (by kernel_rfl) rfl (fun _ => .on rfl rfl (.n 49 25 rfl) h48) rfl (fun _ hK => opv_pick_t rfl (Ev.eq (.t (.n 62 12 rfl))) h61 (Ev.eq (.t .here))) kb_nil ?_
         refine g_v (listed' := bs 44 8796093022207) 42 rfl (by kernel_rfl) rfl (fun _ => .on rfl rfl (.n 36 39 rfl) h35) rfl (fun _ hK => opv_pick_f rfl (Ev.eq (.t (.n 49 26 rfl))) h48 (Ev.eq (.t .here))) kb_nil ?_
         refine g_v (listed' := bs 44 17592186044415) 43 rfl (by kernel_rfl) rfl (fun _ => .plain rfl) rfl (fun _ hK => opv_pick_t rfl (Ev.eq (.t (.n 36 40 rfl))) h35 (Ev.eq (.t .here))) kb_nil ?_
         refine g_end (by kernel_rfl) ?_
         refine psplit (.n 74 3 rfl) (fun h74 => ?_) (fun h74 => ?_)
         ·
          have q74 := h74
          try simp only [zs, List.length_map] at q74
          refine pcond_t (.t .here) h74 ?_
          refine awp_seq ?_
          refine awp_region ?_
          refine lv (.plain rfl) rfl rfl (opv_assign rfl (Ev.eq .b)) ?_
          refine awpL_nil ?_
          refine awp_ret ?_
          refine ret_now (.one (rv_t .here)) (Cast.all _ _) ?_
          refine ⟨congrArg (fun x => AV.d (D.b x)) ?_, rfl⟩
          have : okFrom none l = false := by rw [hst]; simp_all [joinB, erI, val_eq, prevAt, stepB] <;> omega
          simp [rowsB, erI, this]
         ·
          have q74 := h74
          try simp only [zs, List.length_map] at q74
          refine pcond_f (.t .here) h74 ?_
          refine awp_skip ?_
          refine awp_region ?_
          refine lv (.plain rfl) rfl rfl (opv_move rfl (Ev.eq (.t (.n 3 70 rfl)))) ?_
          refine lv (.plain rfl) rfl rfl (opv_add rfl (Ev.eq (.t .here)) (Ev.eq .i) (wr64 (by omega) (by omega)) rfl) ?_
          refine lv (.plain rfl) rfl rfl (opv_assign rfl (Ev.eq (.t .here))) ?_
          refine awpL_nil ?_
          refine ⟨i + 1, by omega, ⟨by omega, by rw [prevAt_succ hk, hst]; simp_all [erI, joinB, val_eq, prevAt, stepB] <;> omega⟩, weak_both (.ce (.n 0 72 rfl) (by first | rfl | (simp; done) | (simp; omega)) (.ce .here (by first | rfl | (simp; done) | (simp; omega)) .nil)) (List.Sublist.refl _)⟩
        ·
         have q61 := h61
         try simp only [zs, List.length_map] at q61
         refine g_o (listed' := bs 44 1073741823) 29 rfl (by kernel_rfl) rfl (fun _ => .off rfl rfl .here h61) rfl kb_nil ?_
         refine g_o (listed' := bs 44 2147483647) 30 rfl (by kernel_rfl) rfl (fun _ => .off rfl rfl (.n 62 1 rfl) h61) rfl kb_nil ?_
         refine g_o (listed' := bs 44 4294967295) 31 rfl (by kernel_rfl) rfl (fun _ => .off rfl rfl (.n 62 2 rfl) h61) rfl kb_nil ?_
         refine g_o (listed' := bs 44 8589934591) 32 rfl (by kernel_rfl) rfl (fun _ => .off rfl rfl (.n 62 3 rfl) h61) rfl kb_nil ?_
         refine g_o (listed' := bs 44 17179869183) 33 rfl (by kernel_rfl) rfl (fun _ => .off rfl rfl (.n 62 4 rfl) h61) rfl kb_nil ?_
         refine g_o (listed' := bs 44 34359738367) 34 rfl (by kernel_rfl) rfl (fun _ => .off rfl rfl (.n 62 5 rfl) h61) rfl kb_nil ?_
         refine g_o (listed' := bs 44 68719476735) 35 rfl (by kernel_rfl) rfl (fun _ => .off rfl rfl (.n 62 6 rfl) h61) rfl kb_nil ?_
         refine g_o (listed' := bs 44 137438953471) 36 rfl (by kernel_rfl) rfl (fun _ => .off rfl rfl (.n 62 7 rfl) h61) rfl kb_nil ?_
         refine g_o (listed' := bs 44 274877906943) 37 rfl (by kernel_rfl) rfl (fun _ => .off rfl rfl (.n 62 8 rfl) h61) rfl kb_nil ?_
         refine g_o (listed' := bs 44 549755813887) 38 rfl (by kernel_rfl) rfl (fun _ => .off rfl rfl (.n 62 9 rfl) h61) rfl kb_nil ?_
         refine g_o (listed' := bs 44 1099511627775) 39 rfl (by kernel_rfl) rfl (fun _ => .off rfl rfl (.n 62 10 rfl) h61) rfl kb_nil ?_
         refine g_o (listed' := bs 44 2199023255551) 40 rfl (by kernel_rfl) rfl (fun _ => .off rfl rfl (.n 62 11 rfl) h61) rfl kb_nil ?_
         refine g_v (listed' := bs 44 4398046511103) 41 rfl (by kernel_rfl) rfl (fun _ => .on rfl rfl (.n 49 25 rfl) h48) rfl (fun _ hK => opv_pick_f rfl (Ev.eq (.t (.n 62 12 rfl))) h61 (Ev.eq .b)) kb_nil ?_
         refine g_v (listed' := bs 44 8796093022207) 42 rfl (by kernel_rfl) rfl (fun _ => .on rfl rfl (.n 36 39 rfl) h35) rfl (fun _ hK => opv_pick_f rfl (Ev.eq (.t (.n 49 26 rfl))) h48 (Ev.eq (.t .here))) kb_nil ?_
         refine g_v (listed' := bs 44 17592186044415) 43 rfl (by kernel_rfl) rfl (fun _ => .plain rfl) rfl (fun _ hK => opv_pick_t rfl (Ev.eq (.t (.n 36 40 rfl))) h35 (Ev.eq (.t .here))) kb_nil ?_
         refine g_end (by kernel_rfl) ?_
         refine pcond_f (.t .here) rfl ?_
         refine awp_skip ?_
         refine awp_region ?_
         refine lv (.plain rfl) rfl rfl (opv_move rfl (Ev.eq (.t (.n 3 70 rfl)))) ?_
         refine lv (.plain rfl) rfl rfl (opv_add rfl (Ev.eq (.t .here)) (Ev.eq .i) (wr64 (by omega) (by omega)) rfl) ?_
         refine lv (.plain rfl) rfl rfl (opv_assign rfl (Ev.eq (.t .here))) ?_
         refine awpL_nil ?_
         refine ⟨i + 1, by omega, ⟨by omega, by rw [prevAt_succ hk, hst]; simp_all [erI, joinB, val_eq, prevAt, stepB] <;> omega⟩, weak_both (.ce (.n 0 72 rfl) (by first | rfl | (simp; done) | (simp; omega)) (.ce .here (by first | rfl | (simp; done) | (simp; omega)) .nil)) (List.Sublist.refl _)⟩
      ·
       have q35 := h35
       try simp only [zs, List.length_map] at q35
       refine g_o (listed' := bs 44 15) 3 rfl (by kernel_rfl) rfl (fun _ => .off rfl rfl .here h35) rfl kb_nil ?_
       refine g_o (listed' := bs 44 31) 4 rfl (by kernel_rfl) rfl (fun _ => .off rfl rfl (.n 36 1 rfl) h35) rfl kb_nil ?_
       refine g_o (listed' := bs 44 63) 5 rfl (by kernel_rfl) rfl (fun _ => .off rfl rfl (.n 36 2 rfl) h35) rfl kb_nil ?_
       refine g_o (listed' := bs 44 127) 6 rfl (by kernel_rfl) rfl (fun _ => .off rfl rfl (.n 36 3 rfl) h35) rfl kb_nil ?_
       refine g_o (listed' := bs 44 255) 7 rfl (by kernel_rfl) rfl (fun _ => .off rfl rfl (.n 36 4 rfl) h35) rfl kb_nil ?_
       refine g_o (listed' := bs 44 511) 8 rfl (by kernel_rfl) rfl (fun _ => .off rfl rfl (.n 36 5 rfl) h35) rfl kb_nil ?_
       refine g_o (listed' := bs 44 1023) 9 rfl (by kernel_rfl) rfl (fun _ => .off rfl rfl (.n 36 6 rfl) h35) rfl kb_nil ?_
       refine g_o (listed' := bs 44 2047) 10 rfl (by kernel_rfl) rfl (fun _ => .off rfl rfl (.n 36 7 rfl) h35) rfl kb_nil ?_
       refine g_o (listed' := bs 44 4095) 11 rfl (by kernel_rfl) rfl (fun _ => .off rfl rfl (.n 36 8 rfl) h35) rfl kb_nil ?_
       refine g_o (listed' := bs 44 8191) 12 rfl (by kernel_rfl) rfl (fun _ => .off rfl rfl (.n 36 9 rfl) h35) rfl kb_nil ?_
       refine g_o (listed' := bs 44 16383) 13 rfl (by kernel_rfl) rfl (fun _ => .off rfl rfl (.n 36 10 rfl) h35) rfl kb_nil ?_
       refine g_o (listed' := bs 44 32767) 14 rfl (by kernel_rfl) rfl (fun _ => .off rfl rfl (.n 36 11 rfl) h35) rfl kb_nil ?_
       refine g_o (listed' := bs 44 65535) 15 rfl (by kernel_rfl) rfl (fun _ => .off rfl rfl (.n 36 12 rfl) h35) rfl kb_nil ?_
       refine g_o (listed' := bs 44 131071) 16 rfl (by kernel_rfl) rfl (fun _ => .no rfl rfl .here) rfl kb_nil ?_
       refine g_o (listed' := bs 44 262143) 17 rfl (by kernel_rfl) rfl (fun _ => .no rfl rfl (.n 49 1 rfl)) rfl kb_nil ?_
       refine g_o (listed' := bs 44 524287) 18 rfl (by kernel_rfl) rfl (fun _ => .no rfl rfl (.n 49 2 rfl)) rfl kb_nil ?_
       refine g_o (listed' := bs 44 1048575) 19 rfl (by kernel_rfl) rfl (fun _ => .no rfl rfl (.n 49 3 rfl)) rfl kb_nil ?_
       refine g_o (listed' := bs 44 2097151) 20 rfl (by kernel_rfl) rfl (fun _ => .no rfl rfl (.n 49 4 rfl)) rfl kb_nil ?_
       refine g_o (listed' := bs 44 4194303) 21 rfl (by kernel_rfl) rfl (fun _ => .no rfl rfl (.n 49 5 rfl)) rfl kb_nil ?_
       refine g_o (listed' := bs 44 8388607) 22 rfl (by kernel_rfl) rfl (fun _ => .no rfl rfl (.n 49 6 rfl)) rfl kb_nil ?_
       refine g_o (listed' := bs 44 16777215) 23 rfl (by kernel_rfl) rfl (fun _ => .no rfl rfl (.n 49 7 rfl)) rfl kb_nil ?_
       refine g_o (listed' := bs 44 33554431) 24 rfl (by kernel_rfl) rfl (fun _ => .no rfl rfl (.n 49 8 rfl)) rfl kb_nil ?_
       refine g_o (listed' := bs 44 67108863) 25 rfl (by kernel_rfl) rfl (fun _ => .no rfl rfl (.n 49 9 rfl)) rfl kb_nil ?_
       refine g_o (listed' := bs 44 134217727) 26 rfl (by kernel_rfl) rfl (fun _ => .no rfl rfl (.n 49 10 rfl)) rfl kb_nil ?_
       refine g_o (listed' := bs 44 268435455) 27 rfl (by kernel_rfl) rfl (fun _ => .no rfl rfl (.n 49 11 rfl)) rfl kb_nil ?_
       refine g_o (listed' := bs 44 536870911) 28 rfl (by kernel_rfl) rfl (fun _ => .no rfl rfl (.n 49 12 rfl)) rfl kb_nil ?_
       refine g_o (listed' := bs 44 1073741823) 29 rfl (by kernel_rfl) rfl (fun _ => .no rfl rfl .here) rfl kb_nil ?_
       refine g_o (listed' := bs 44 2147483647) 30 rfl (by kernel_rfl) rfl (fun _ => .no rfl rfl (.n 62 1 rfl)) rfl kb_nil ?_
       refine g_o (listed' := bs 44 4294967295) 31 rfl (by kernel_rfl) rfl (fun _ => .no rfl rfl (.n 62 2 rfl)) rfl kb_nil ?_
       refine g_o (listed' := bs 44 8589934591) 32 rfl (by kernel_rfl) rfl (fun _ => .no rfl rfl (.n 62 3 rfl)) rfl kb_nil ?_
       refine g_o (listed' := bs 44 17179869183) 33 rfl (by kernel_rfl) rfl (fun _ => .no rfl rfl (.n 62 4 rfl)) rfl kb_nil ?_
       refine g_o (listed' := bs 44 34359738367) 34 rfl (by kernel_rfl) rfl (fun _ => .no rfl rfl (.n 62 5 rfl)) rfl kb_nil ?_
       refine g_o (listed' := bs 44 68719476735) 35 rfl (by kernel_rfl) rfl (fun _ => .no rfl rfl (.n 62 6 rfl)) rfl kb_nil ?_
       refine g_o (listed' := bs 44 137438953471) 36 rfl (by kernel_rfl) rfl (fun _ => .no rfl rfl (.n 62 7 rfl)) rfl kb_nil ?_
       refine g_o (listed' := bs 44 274877906943) 37 rfl (by kernel_rfl) rfl (fun _ => .no rfl rfl (.n 62 8 rfl)) rfl kb_nil ?_
       refine g_o (listed' := bs 44 549755813887) 38 rfl (by kernel_rfl) rfl (fun _ => .no rfl rfl (.n 62 9 rfl)) rfl kb_nil ?_
       refine g_o (listed' := bs 44 1099511627775) 39 rfl (by kernel_rfl) rfl (fun _ => .no rfl rfl (.n 62 10 rfl)) rfl kb_nil ?_
       refine g_o (listed' := bs 44 2199023255551) 40 rfl (by kernel_rfl) rfl (fun _ => .no rfl rfl (.n 62 11 rfl)) rfl kb_nil ?_
       refine g_o (listed' := bs 44 4398046511103) 41 rfl (by kernel_rfl) rfl (fun _ => .no rfl rfl (.n 49 25 rfl)) rfl kb_nil ?_
       refine g_o (listed' := bs 44 8796093022207) 42 rfl (by kernel_rfl) rfl (fun _ => .off rfl rfl (.n 36 39 rfl) h35) rfl kb_nil ?_
       refine g_v (listed' := bs 44 17592186044415) 43 rfl (by kernel_rfl) rfl (fun _ => .plain rfl) rfl (fun _ hK => opv_pick_f rfl (Ev.eq (.t (.n 36 40 rfl))) h35 (Ev.eq .b)) kb_nil ?_
       refine g_end (by kernel_rfl) ?_
       refine pcond_f (.t .here) rfl ?_
       refine awp_skip ?_
       refine awp_region ?_
       refine lv (.plain rfl) rfl rfl (opv_move rfl (Ev.eq (.t (.n 3 70 rfl)))) ?_
       refine lv (.plain rfl) rfl rfl (opv_add rfl (Ev.eq (.t .here)) (Ev.eq .i) (wr64 (by omega) (by omega)) rfl) ?_
       refine lv (.plain rfl) rfl rfl (opv_assign rfl (Ev.eq (.t .here))) ?_
       refine awpL_nil ?_
       refine ⟨i + 1, by omega, ⟨by omega, by rw [prevAt_succ hk, hst]; simp_all [erI, joinB, val_eq, prevAt, stepB] <;> omega⟩, weak_both (.ce (.n 0 72 rfl) (by first | rfl | (simp; done) | (simp; omega)) (.ce .here (by first | rfl | (simp; done) | (simp; omega)) .nil)) (List.Sublist.refl _)⟩
     ·
      have q31 := h31
      try simp only [zs, List.length_map] at q31
      refine pcond_t (.t .here) (congrArg not h31) ?_
      refine awp_seq ?_
      refine awp_region ?_
      refine lv (.plain rfl) rfl rfl (opv_assign rfl (Ev.eq .b)) ?_
      refine awpL_nil ?_
      refine awp_ret ?_
      refine ret_now (.one (rv_t .here)) (Cast.all _ _) ?_
      refine ⟨congrArg (fun x => AV.d (D.b x)) ?_, rfl⟩
      have : okFrom none l = false := by rw [hst]; simp_all [joinB, erI, val_eq, prevAt, stepB] <;> omega
      simp [rowsB, erI, this]
    ·
     have q23 := h23
     try simp only [zs, List.length_map] at q23
     refine g_o (listed' := bs 21 16383) 13 rfl (by kernel_rfl) rfl (fun _ => .off rfl rfl .here (congrArg not h23)) rfl kb_nil ?_
     refine g_o (listed' := bs 21 32767) 14 rfl (by kernel_rfl) rfl (fun _ => .off rfl rfl (.n 25 1 rfl) (congrArg not h23)) rfl kb_nil ?_
     refine g_o (listed' := bs 21 65535) 15 rfl (by kernel_rfl) rfl (fun _ => .off rfl rfl (.n 25 2 rfl) (congrArg not h23)) rfl kb_nil ?_
     refine g_o (listed' := bs 21 131071) 16 rfl (by kernel_rfl) rfl (fun _ => .off rfl rfl (.n 25 3 rfl) (congrArg not h23)) rfl kb_nil ?_
     refine g_o (listed' := bs 21 262143) 17 rfl (by kernel_rfl) rfl (fun _ => .off rfl rfl (.n 25 4 rfl) (congrArg not h23)) rfl kb_nil ?_
     refine g_o (listed' := bs 21 524287) 18 rfl (by kernel_rfl) rfl (fun _ => .off rfl rfl (.n 25 5 rfl) (congrArg not h23)) rfl kb_nil ?_
     refine g_o (listed' := bs 21 1048575) 19 rfl (by kernel_rfl) rfl (fun _ => .off rfl rfl (.n 25 6 rfl) (congrArg not h23)) rfl kb_nil ?_
     refine g_v (listed' := bs 21 2097151) 20 rfl (by kernel_rfl) rfl (fun _ => .plain rfl) rfl (fun _ hK => opv_pick_t rfl (Ev.eq (.t (.n 25 7 rfl))) (congrArg not h23) (Ev.eq .b)) kb_nil ?_
     refine g_end (by kernel_rfl) ?_
     refine pcond_t (.t .here) rfl ?_
     refine awp_seq ?_
     refine awp_region ?_
     refine lv (.plain rfl) rfl rfl (opv_assign rfl (Ev.eq .b)) ?_
     refine awpL_nil ?_
     refine awp_ret ?_
     refine ret_now (.one (rv_t .here)) (Cast.all _ _) ?_
     refine ⟨congrArg (fun x => AV.d (D.b x)) ?_, rfl⟩
     have : okFrom none l = false := by rw [hst]; simp_all [joinB, erI, val_eq, prevAt, stepB] <;> omega
     simp [rowsB, erI, this]
   ·
    have q10 := h10
    try simp only [zs, List.length_map] at q10
    refine pcond_f (.t .here) h10 ?_
    refine awp_exit ?_
    refine awp_seq ?_
    refine awp_region ?_
    refine lv (.plain rfl) rfl rfl (opv_assign rfl (Ev.eq .b)) ?_
    refine awpL_nil ?_
    refine awp_ret ?_
    refine ret_now (.one (rv_t .here)) (Cast.all _ _) ?_
    refine ⟨congrArg (fun x => AV.d (D.b x)) ?_, rfl⟩
    obtain rfl : i = l.length := by omega
    rw [List.drop_length] at hEQ
    have h64 : l.length ≤ 64 := by omega
    simp [rowsB, erI, ← hEQ, okFrom, h64]
end Go.Proofs.YtjnkbmodcddbkaaDoor
