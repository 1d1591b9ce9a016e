/- Trees that are right. -/
import Derived.Test.YtjnkbmodcddbkaaDoorTy
import Derived.Test.YtjnkbmodcddbkaaDoorS3
set_option linter.unusedVariables false
set_option linter.unusedSimpArgs false
namespace Go.Proofs.YtjnkbmodcddbkaaDoor
open Go Go.RowKit
theorem erI_ne (b : Bool) : (erI b ≠ 0) ↔ b = false := by cases b <;> simp [erI]
theorem erI_eq (b : Bool) : (erI b = 0) ↔ b = true := by cases b <;> simp [erI]
theorem f41_ind : ∀ (t : Trie) (left : Int), -4611686018427387904 ≤ left ∧ left ≤ 4611686018427387904 → FSpec Tryd.prog 41 [.d (.sl (encTries t.kids)), .d (.i .i64 left)] (.d (.b (kidsB t.kids left (-1)))) := by
  intro t
  induction t using Trie.ind with
  | h l r ks ih =>
  intro left hb
  simp only [Trie.kids]
  refine acalls_of Tryd.func41 rfl Tryd.ntmps41 Tryd.results41 (by simp) ?_
  refine wlen .here (fun hlen => ?_)
  rw [encTries_len] at hlen
  refine awp_seq ?_
  refine awp_region ?_
  refine lv (.plain rfl) rfl rfl (opv_assign rfl (Ev.eq .b)) ?_
  refine awpL_nil ?_
  refine awp_seq ?_
  refine awp_region ?_
  refine lv (.plain rfl) rfl rfl (opv_assign rfl (Ev.eq .i)) ?_
  refine awpL_nil ?_
  refine awp_seq ?_
  refine awp_seq ?_
  refine awp_region ?_
  refine lv (.plain rfl) rfl rfl (opv_move rfl (Ev.eq (.t (.n 0 2 rfl)))) ?_
  refine lv (.plain rfl) rfl rfl (opv_len_sl Tryd.underlying23 rfl (Ev.eq (.t .here)) rfl) ?_
  refine lv (.plain rfl) rfl rfl (opv_move rfl (Ev.eq .i)) ?_
  refine awpL_nil ?_
  refine awp_block ?_
  refine ploop (fun (a : Nat × Int) => ⟨64, [(0, .d (.sl (encTries ks))), (1, .d (.i .i64 left)), (5, .d (.i .i64 a.2)), (8, .d (.sl (encTries ks))), (9, .d (.i .i64 (ks.length : Int))), (10, .d (.i .i64 (a.1 : Int)))], [], []⟩) (fun a => a.1 ≤ ks.length ∧ kidsB (ks.drop a.1) left a.2 = kidsB ks left (-1)) (fun a => ks.length - a.1) ((0, -1)) (weak_both (.ce (.n 0 5 rfl) (by first | rfl | (simp; done) | (simp; omega)) (.ce (.n 1 6 rfl) (by first | rfl | (simp; done) | (simp; omega)) (.ce (.n 5 3 rfl) (by first | rfl | (simp; done) | (simp; omega)) (.ce (.n 8 2 rfl) (by first | rfl | (simp; done) | (simp; omega)) (.ce (.n 9 1 rfl) (by first | rfl | (simp; done) | (simp; omega)) (.ce .here (by first | rfl | (simp; done) | (simp; omega)) .nil)))))) (List.Sublist.refl _)) (⟨by dsimp only; omega, rfl⟩) ?_
  rintro ⟨i, first⟩ ⟨hi, hEQ⟩
  dsimp only at hi hEQ
  refine awp_seq ?_
  refine awp_region ?_
  refine lv (.plain rfl) rfl rfl (opv_lss rfl (Ev.eq (.t (.n 10 5 rfl))) (Ev.eq (.t (.n 9 4 rfl))) rfl) ?_
  refine awpL_nil ?_
  refine awp_seq ?_
  refine psplit .here (fun h11 => ?_) (fun h11 => ?_)
  ·
   have q11 := h11
   try simp only [zs, encTries_len, bl_inj] at q11
   refine pcond_t (.t .here) h11 ?_
   refine awp_skip ?_
   refine awp_seq ?_
   refine awp_block ?_
   refine awp_seq ?_
   refine awp_region ?_
   obtain ⟨kd, hk⟩ := some_at (l := ks) (i := i) (by omega)
   obtain ⟨kl, kr, kk⟩ := kd
   have hst : kidsB ks left (-1) = (nodeB (.mk kl kr kk) left && decide (first < bt kl 0) && kidsB (ks.drop (i + 1)) left (bt kl 0)) := by rw [← hEQ, drop_cons hk, kidsB]; rfl
   rw [nodeB] at hst
   have hrec := ih _ (List.mem_of_getElem? hk)
   simp only [Trie.kids] at hrec
   refine lv (.plain rfl) rfl rfl (p_index (slT23) rfl (Ev.eq (.t (.n 8 4 rfl))) (Ev.eq (.t (.n 10 6 rfl))) (by omega) (by first | assumption | exact map_at (by assumption) | exact encTries_at (by assumption)) rfl) ?_
   refine lv (.plain rfl) rfl rfl (p_loadnf (agT25) rfl (Ev.eq (.t .here)) (Nat.le_of_ble_eq_true rfl) rfl) ?_
   refine l_alloc zT25 (.plain rfl) rfl rfl rfl (fun g2 ng2 => ?_)
   refine l_storen Tryd.sizeOf25 (.plain rfl) rfl rfl (.t .here) (.t (.n 13 1 rfl)) rfl rfl rfl .here ?_
   refine awpL_nil ?_
   refine awp_seq ?_
   refine awp_seq ?_
   refine awp_region ?_
   refine lv (.plain rfl) rfl rfl (p_field (fldT25_0) rfl (Ev.eq (.t .here)) (off' := 0) rfl) ?_
   refine lv (.plain rfl) rfl rfl (q_load1 (scT9) rfl (Ev.eq (.t .here)) .here .here) ?_
   refine lv (.plain rfl) rfl rfl (opv_eql_s rfl (Ev.eq (.t .here)) (Ev.eq .s) rfl) ?_
   refine lv (.plain rfl) rfl rfl (opv_move rfl (Ev.eq (.t .here))) ?_
   refine lsplit (.n 16 1 rfl) (fun h16 => ?_) (fun h16 => ?_)
   ·
    have q16 := h16
    try simp only [zs, encTries_len, bl_inj] at q16
    refine lo (.off rfl rfl .here h16) rfl rfl ?_
    refine lo (.off rfl rfl (.n 17 1 rfl) h16) rfl rfl ?_
    refine lo (.off rfl rfl (.n 17 2 rfl) h16) rfl rfl ?_
    refine lo (.off rfl rfl (.n 17 3 rfl) h16) rfl rfl ?_
    refine lo (.off rfl rfl (.n 17 4 rfl) h16) rfl rfl ?_
    refine lv (.plain rfl) rfl rfl (opv_pick_t rfl (Ev.eq (.t (.n 17 5 rfl))) h16 (Ev.eq .b)) ?_
    refine lv (.plain rfl) rfl rfl (opv_move rfl (Ev.eq (.t .here))) ?_
    refine lo (.off rfl rfl .here rfl) rfl rfl ?_
    refine lo (.off rfl rfl (.n 24 1 rfl) rfl) rfl rfl ?_
    refine lo (.off rfl rfl (.n 24 2 rfl) rfl) rfl rfl ?_
    refine lo (.off rfl rfl (.n 24 3 rfl) rfl) rfl rfl ?_
    refine lo (.off rfl rfl (.n 24 4 rfl) rfl) rfl rfl ?_
    refine lo (.off rfl rfl (.n 24 5 rfl) rfl) rfl rfl ?_
    refine lv (.plain rfl) rfl rfl (opv_pick_t rfl (Ev.eq (.t (.n 24 6 rfl))) rfl (Ev.eq .b)) ?_
    refine lv (.plain rfl) rfl rfl (opv_move rfl (Ev.eq (.t .here))) ?_
    refine lo (.off rfl rfl .here rfl) rfl rfl ?_
    refine lo (.off rfl rfl (.n 32 1 rfl) rfl) rfl rfl ?_
    refine lo (.off rfl rfl (.n 32 2 rfl) rfl) rfl rfl ?_
    refine lo (.off rfl rfl (.n 32 3 rfl) rfl) rfl rfl ?_
    refine lv (.plain rfl) rfl rfl (opv_pick_t rfl (Ev.eq (.t (.n 32 4 rfl))) rfl (Ev.eq .b)) ?_
    refine awpL_nil ?_
    refine pcond_t (.t .here) rfl ?_
    refine awp_seq ?_
    refine awp_region ?_
    refine lv (.plain rfl) rfl rfl (opv_assign rfl (Ev.eq .b)) ?_
    refine awpL_nil ?_
    refine awp_ret ?_
    refine ret_now (.one (rv_t .here)) (Cast.all _ _) ?_
    refine ⟨congrArg (fun x => AV.d (D.b x)) ?_, rfl⟩
    rw [hst]
    simp_all [erI]
    try omega
   ·
    have q16 := h16
    try simp only [zs, encTries_len, bl_inj] at q16
    refine lv (.on rfl rfl .here h16) rfl rfl (p_field (fldT25_0) rfl (Ev.eq (.t (.n 7 4 rfl))) (off' := 0) rfl) ?_
    refine lv (.on rfl rfl (.n 17 1 rfl) h16) rfl rfl (q_load1 (scT9) rfl (Ev.eq (.t .here)) .here .here) ?_
    refine lv (.on rfl rfl (.n 17 2 rfl) h16) rfl rfl (opv_len_s Tryd.underlying9 rfl (Ev.eq (.t .here)) rfl) ?_
    refine lv (.on rfl rfl (.n 17 3 rfl) h16) rfl rfl (opv_move rfl (Ev.eq (.t (.n 1 12 rfl)))) ?_
    refine lv (.on rfl rfl (.n 17 4 rfl) h16) rfl rfl (opv_gtr rfl (Ev.eq (.t (.n 20 1 rfl))) (Ev.eq (.t .here)) rfl) ?_
    refine lv (.plain rfl) rfl rfl (opv_pick_f rfl (Ev.eq (.t (.n 17 5 rfl))) h16 (Ev.eq (.t .here))) ?_
    refine lv (.plain rfl) rfl rfl (opv_move rfl (Ev.eq (.t .here))) ?_
    refine lsplit (.n 22 2 rfl) (fun h22 => ?_) (fun h22 => ?_)
    ·
     have q22 := h22
     try simp only [zs, encTries_len, bl_inj] at q22
     refine lo (.off rfl rfl .here h22) rfl rfl ?_
     refine lo (.off rfl rfl (.n 24 1 rfl) h22) rfl rfl ?_
     refine lo (.off rfl rfl (.n 24 2 rfl) h22) rfl rfl ?_
     refine lo (.off rfl rfl (.n 24 3 rfl) h22) rfl rfl ?_
     refine lo (.off rfl rfl (.n 24 4 rfl) h22) rfl rfl ?_
     refine lo (.off rfl rfl (.n 24 5 rfl) h22) rfl rfl ?_
     refine lv (.plain rfl) rfl rfl (opv_pick_t rfl (Ev.eq (.t (.n 24 6 rfl))) h22 (Ev.eq .b)) ?_
     refine lv (.plain rfl) rfl rfl (opv_move rfl (Ev.eq (.t .here))) ?_
     refine lo (.off rfl rfl .here rfl) rfl rfl ?_
     refine lo (.off rfl rfl (.n 32 1 rfl) rfl) rfl rfl ?_
     refine lo (.off rfl rfl (.n 32 2 rfl) rfl) rfl rfl ?_
     refine lo (.off rfl rfl (.n 32 3 rfl) rfl) rfl rfl ?_
     refine lv (.plain rfl) rfl rfl (opv_pick_t rfl (Ev.eq (.t (.n 32 4 rfl))) rfl (Ev.eq .b)) ?_
     refine awpL_nil ?_
     refine pcond_t (.t .here) rfl ?_
     refine awp_seq ?_
     refine awp_region ?_
     refine lv (.plain rfl) rfl rfl (opv_assign rfl (Ev.eq .b)) ?_
     refine awpL_nil ?_
     refine awp_ret ?_
     refine ret_now (.one (rv_t .here)) (Cast.all _ _) ?_
     refine ⟨congrArg (fun x => AV.d (D.b x)) ?_, rfl⟩
     rw [hst]
     simp_all [erI]
     try omega
    ·
     have q22 := h22
     try simp only [zs, encTries_len, bl_inj] at q22
     refine lv (.on rfl rfl .here h22) rfl rfl (p_field (fldT25_0) rfl (Ev.eq (.t (.n 7 11 rfl))) (off' := 0) rfl) ?_
     refine lv (.on rfl rfl (.n 24 1 rfl) h22) rfl rfl (q_load1 (scT9) rfl (Ev.eq (.t .here)) .here .here) ?_
     have hpos : 0 < kl.size := ne_pos q16
     refine lv (.on rfl rfl (.n 24 2 rfl) h22) rfl rfl (opv_index_s Tryd.underlying9 rfl (Ev.eq (.t .here)) (Ev.eq .i) (by omega) (by omega) rfl) ?_
     refine lv (.on rfl rfl (.n 24 3 rfl) h22) rfl rfl (opv_convert Tryd.underlying5 Tryd.underlying3 rfl (Ev.eq (.t .here)) (wr_bt _ _) rfl) ?_
     refine lv (.on rfl rfl (.n 24 4 rfl) h22) rfl rfl (opv_move rfl (Ev.eq (.t (.n 5 21 rfl)))) ?_
     refine lv (.on rfl rfl (.n 24 5 rfl) h22) rfl rfl (opv_leq rfl (Ev.eq (.t (.n 28 1 rfl))) (Ev.eq (.t .here)) rfl) ?_
     refine lv (.plain rfl) rfl rfl (opv_pick_f rfl (Ev.eq (.t (.n 24 6 rfl))) h22 (Ev.eq (.t .here))) ?_
     refine lv (.plain rfl) rfl rfl (opv_move rfl (Ev.eq (.t .here))) ?_
     refine lsplit (.n 30 2 rfl) (fun h30 => ?_) (fun h30 => ?_)
     ·
      have q30 := h30
      try simp only [zs, encTries_len, bl_inj] at q30
      refine lo (.off rfl rfl .here h30) rfl rfl ?_
      refine lo (.off rfl rfl (.n 32 1 rfl) h30) rfl rfl ?_
      refine lo (.off rfl rfl (.n 32 2 rfl) h30) rfl rfl ?_
      refine lo (.off rfl rfl (.n 32 3 rfl) h30) rfl rfl ?_
      refine lv (.plain rfl) rfl rfl (opv_pick_t rfl (Ev.eq (.t (.n 32 4 rfl))) h30 (Ev.eq .b)) ?_
      refine awpL_nil ?_
      refine pcond_t (.t .here) rfl ?_
      refine awp_seq ?_
      refine awp_region ?_
      refine lv (.plain rfl) rfl rfl (opv_assign rfl (Ev.eq .b)) ?_
      refine awpL_nil ?_
      refine awp_ret ?_
      refine ret_now (.one (rv_t .here)) (Cast.all _ _) ?_
      refine ⟨congrArg (fun x => AV.d (D.b x)) ?_, rfl⟩
      rw [hst]
      simp_all [erI]
      try omega
     ·
      have q30 := h30
      try simp only [zs, encTries_len, bl_inj] at q30
      refine lv (.on rfl rfl .here h30) rfl rfl (p_field (fldT25_1) rfl (Ev.eq (.t (.n 7 19 rfl))) (off' := 1) rfl) ?_
      refine lv (.on rfl rfl (.n 32 1 rfl) h30) rfl rfl (q_load1 (scT22) rfl (Ev.eq (.t .here)) .here (.there .here)) ?_
      refine lv (.on rfl rfl (.n 32 2 rfl) h30) rfl rfl (q_call rfl .f Tryd.call57 (.cons (.t .here) .nil) rfl (f57_spec _)) ?_
      refine lv (.on rfl rfl (.n 32 3 rfl) h30) rfl rfl (opv_neq_i rfl (Ev.eq (.t .here)) (Ev.eq .i) rfl) ?_
      refine lv (.plain rfl) rfl rfl (opv_pick_f rfl (Ev.eq (.t (.n 32 4 rfl))) h30 (Ev.eq (.t .here))) ?_
      refine awpL_nil ?_
      refine psplit (.n 36 1 rfl) (fun h36 => ?_) (fun h36 => ?_)
      ·
       have q36 := h36
       try simp only [zs, encTries_len, bl_inj] at q36
       refine pcond_t (.t .here) h36 ?_
       refine awp_seq ?_
       refine awp_region ?_
       refine lv (.plain rfl) rfl rfl (opv_assign rfl (Ev.eq .b)) ?_
       refine awpL_nil ?_
       refine awp_ret ?_
       refine ret_now (.one (rv_t .here)) (Cast.all _ _) ?_
       refine ⟨congrArg (fun x => AV.d (D.b x)) ?_, rfl⟩
       rw [hst]
       simp_all [erI]
       try omega
      ·
       have q36 := h36
       try simp only [zs, encTries_len, bl_inj] at q36
       refine pcond_f (.t .here) h36 ?_
       refine awp_skip ?_
       refine awp_seq ?_
       refine awp_seq ?_
       refine awp_region ?_
       refine lv (.plain rfl) rfl rfl (p_field (fldT25_1) rfl (Ev.eq (.t (.n 7 24 rfl))) (off' := 1) rfl) ?_
       refine lv (.plain rfl) rfl rfl (q_load1 (scT22) rfl (Ev.eq (.t .here)) .here (.there .here)) ?_
       refine lv (.plain rfl) rfl rfl (opv_len_sl Tryd.underlying22 rfl (Ev.eq (.t .here)) rfl) ?_
       refine lv (.plain rfl) rfl rfl (opv_eql_i rfl (Ev.eq (.t .here)) (Ev.eq .i) rfl) ?_
       refine lv (.plain rfl) rfl rfl (opv_move rfl (Ev.eq (.t .here))) ?_
       refine lsplit (.n 41 1 rfl) (fun h41 => ?_) (fun h41 => ?_)
       ·
        have q41 := h41
        try simp only [zs, encTries_len, bl_inj] at q41
        refine lv (.on rfl rfl .here h41) rfl rfl (p_field (fldT25_2) rfl (Ev.eq (.t (.n 7 29 rfl))) (off' := 2) rfl) ?_
        refine lv (.on rfl rfl (.n 42 1 rfl) h41) rfl rfl (q_load1 (scT23) rfl (Ev.eq (.t .here)) .here (.there (.there .here))) ?_
        refine lv (.on rfl rfl (.n 42 2 rfl) h41) rfl rfl (opv_len_sl Tryd.underlying23 rfl (Ev.eq (.t .here)) rfl) ?_
        refine lv (.on rfl rfl (.n 42 3 rfl) h41) rfl rfl (opv_lss rfl (Ev.eq (.t .here)) (Ev.eq .i) rfl) ?_
        refine lv (.plain rfl) rfl rfl (opv_pick_t rfl (Ev.eq (.t (.n 42 4 rfl))) h41 (Ev.eq (.t .here))) ?_
        refine lv (.plain rfl) rfl rfl (opv_move rfl (Ev.eq (.t .here))) ?_
        refine lsplit (.n 46 2 rfl) (fun h46 => ?_) (fun h46 => ?_)
        ·
         have q46 := h46
         try simp only [zs, encTries_len, bl_inj] at q46
         refine lo (.off rfl rfl .here h46) rfl rfl ?_
         refine lo (.off rfl rfl (.n 48 1 rfl) h46) rfl rfl ?_
         refine lo (.off rfl rfl (.n 48 2 rfl) h46) rfl rfl ?_
         refine lo (.off rfl rfl (.n 48 3 rfl) h46) rfl rfl ?_
         refine lo (.off rfl rfl (.n 48 4 rfl) h46) rfl rfl ?_
         refine lo (.off rfl rfl (.n 48 5 rfl) h46) rfl rfl ?_
         refine lo (.off rfl rfl (.n 48 6 rfl) h46) rfl rfl ?_
         refine lo (.off rfl rfl (.n 48 7 rfl) h46) rfl rfl ?_
         refine lo (.off rfl rfl (.n 48 8 rfl) h46) rfl rfl ?_
         refine lv (.plain rfl) rfl rfl (opv_pick_t rfl (Ev.eq (.t (.n 48 9 rfl))) h46 (Ev.eq .b)) ?_
         refine awpL_nil ?_
         refine pcond_t (.t .here) rfl ?_
         refine awp_seq ?_
         refine awp_region ?_
         refine lv (.plain rfl) rfl rfl (opv_assign rfl (Ev.eq .b)) ?_
         refine awpL_nil ?_
         refine awp_ret ?_
         refine ret_now (.one (rv_t .here)) (Cast.all _ _) ?_
         refine ⟨congrArg (fun x => AV.d (D.b x)) ?_, rfl⟩
         rw [hst]
         simp_all [erI]
         try omega
        ·
         have q46 := h46
         try simp only [zs, encTries_len, bl_inj] at q46
         refine lv (.on rfl rfl .here h46) rfl rfl (p_field (fldT25_2) rfl (Ev.eq (.t (.n 7 35 rfl))) (off' := 2) rfl) ?_
         refine lv (.on rfl rfl (.n 48 1 rfl) h46) rfl rfl (q_load1 (scT23) rfl (Ev.eq (.t .here)) .here (.there (.there .here))) ?_
         refine lv (.on rfl rfl (.n 48 2 rfl) h46) rfl rfl (opv_move rfl (Ev.eq (.t (.n 1 42 rfl)))) ?_
         refine lv (.on rfl rfl (.n 48 3 rfl) h46) rfl rfl (p_field (fldT25_0) rfl (Ev.eq (.t (.n 7 38 rfl))) (off' := 0) rfl) ?_
         refine lv (.on rfl rfl (.n 48 4 rfl) h46) rfl rfl (q_load1 (scT9) rfl (Ev.eq (.t .here)) .here .here) ?_
         refine lv (.on rfl rfl (.n 48 5 rfl) h46) rfl rfl (opv_len_s Tryd.underlying9 rfl (Ev.eq (.t .here)) rfl) ?_
         refine lv (.on rfl rfl (.n 48 6 rfl) h46) rfl rfl (opv_sub rfl (Ev.eq (.t (.n 51 3 rfl))) (Ev.eq (.t .here)) (wr64 (by omega) (by omega)) rfl) ?_
         refine lv (.on rfl rfl (.n 48 7 rfl) h46) rfl rfl (q_call rfl .f Tryd.call41 (.cons (.t (.n 50 5 rfl)) (.cons (.t .here) .nil)) rfl (hrec _ ⟨by omega, by omega⟩)) ?_
         refine lv (.on rfl rfl (.n 48 8 rfl) h46) rfl rfl (opv_not rfl (Ev.eq (.t .here)) rfl) ?_
         refine lv (.plain rfl) rfl rfl (opv_pick_f rfl (Ev.eq (.t (.n 48 9 rfl))) h46 (Ev.eq (.t .here))) ?_
         refine awpL_nil ?_
         refine psplit (.n 56 2 rfl) (fun h56 => ?_) (fun h56 => ?_)
         ·
          have q56 := h56
          try simp only [zs, encTries_len, bl_inj] at q56
          refine pcond_f (.t .here) (congrArg not h56) ?_
          refine awp_skip ?_
          refine awp_region ?_
          refine lv (.plain rfl) rfl rfl (p_field (fldT25_0) rfl (Ev.eq (.t (.n 7 45 rfl))) (off' := 0) rfl) ?_
          refine lv (.plain rfl) rfl rfl (q_load1 (scT9) rfl (Ev.eq (.t .here)) .here .here) ?_
          refine lv (.plain rfl) rfl rfl (opv_index_s Tryd.underlying9 rfl (Ev.eq (.t .here)) (Ev.eq .i) (by omega) (by omega) rfl) ?_
          refine lv (.plain rfl) rfl rfl (opv_convert Tryd.underlying5 Tryd.underlying3 rfl (Ev.eq (.t .here)) (wr_bt _ _) rfl) ?_
          refine lv (.plain rfl) rfl rfl (opv_assign rfl (Ev.eq (.t .here))) ?_
          refine awpL_nil ?_
          refine awp_region ?_
          refine lv (.plain rfl) rfl rfl (opv_add rfl (Ev.eq (.t (.n 10 59 rfl))) (Ev.eq .i) (wr64 (by omega) (by omega)) rfl) ?_
          refine lv (.plain rfl) rfl rfl (opv_move rfl (Ev.eq (.t .here))) ?_
          refine awpL_nil ?_
          refine ⟨(i + 1, bt kl 0), by dsimp only; omega, ⟨by dsimp only; omega, by rw [hst]; dsimp only; simp_all [erI] <;> omega⟩, weak_both (.ce (.n 0 56 rfl) (by first | rfl | (simp; done) | (simp; omega)) (.ce (.n 1 57 rfl) (by first | rfl | (simp; done) | (simp; omega)) (.ce (.n 5 2 rfl) (by first | rfl | (simp; done) | (simp; omega)) (.ce (.n 8 59 rfl) (by first | rfl | (simp; done) | (simp; omega)) (.ce (.n 9 60 rfl) (by first | rfl | (simp; done) | (simp; omega)) (.ce .here (by first | rfl | (simp; done) | (simp; omega)) .nil)))))) (.cons _ (List.Sublist.refl _))⟩
         ·
          have q56 := h56
          try simp only [zs, encTries_len, bl_inj] at q56
          refine pcond_t (.t .here) (congrArg not h56) ?_
          refine awp_seq ?_
          refine awp_region ?_
          refine lv (.plain rfl) rfl rfl (opv_assign rfl (Ev.eq .b)) ?_
          refine awpL_nil ?_
          refine awp_ret ?_
          refine ret_now (.one (rv_t .here)) (Cast.all _ _) ?_
          refine ⟨congrArg (fun x => AV.d (D.b x)) ?_, rfl⟩
          rw [hst]
          simp_all [erI]
          try omega
       ·
        have q41 := h41
        try simp only [zs, encTries_len, bl_inj] at q41
        refine lo (.off rfl rfl .here h41) rfl rfl ?_
        refine lo (.off rfl rfl (.n 42 1 rfl) h41) rfl rfl ?_
        refine lo (.off rfl rfl (.n 42 2 rfl) h41) rfl rfl ?_
        refine lo (.off rfl rfl (.n 42 3 rfl) h41) rfl rfl ?_
        refine lv (.plain rfl) rfl rfl (opv_pick_f rfl (Ev.eq (.t (.n 42 4 rfl))) h41 (Ev.eq .b)) ?_
        refine lv (.plain rfl) rfl rfl (opv_move rfl (Ev.eq (.t .here))) ?_
        refine lv (.on rfl rfl .here rfl) rfl rfl (p_field (fldT25_2) rfl (Ev.eq (.t (.n 7 35 rfl))) (off' := 2) rfl) ?_
        refine lv (.on rfl rfl (.n 48 1 rfl) rfl) rfl rfl (q_load1 (scT23) rfl (Ev.eq (.t .here)) .here (.there (.there .here))) ?_
        refine lv (.on rfl rfl (.n 48 2 rfl) rfl) rfl rfl (opv_move rfl (Ev.eq (.t (.n 1 42 rfl)))) ?_
        refine lv (.on rfl rfl (.n 48 3 rfl) rfl) rfl rfl (p_field (fldT25_0) rfl (Ev.eq (.t (.n 7 38 rfl))) (off' := 0) rfl) ?_
        refine lv (.on rfl rfl (.n 48 4 rfl) rfl) rfl rfl (q_load1 (scT9) rfl (Ev.eq (.t .here)) .here .here) ?_
        refine lv (.on rfl rfl (.n 48 5 rfl) rfl) rfl rfl (opv_len_s Tryd.underlying9 rfl (Ev.eq (.t .here)) rfl) ?_
        refine lv (.on rfl rfl (.n 48 6 rfl) rfl) rfl rfl (opv_sub rfl (Ev.eq (.t (.n 51 3 rfl))) (Ev.eq (.t .here)) (wr64 (by omega) (by omega)) rfl) ?_
        refine lv (.on rfl rfl (.n 48 7 rfl) rfl) rfl rfl (q_call rfl .f Tryd.call41 (.cons (.t (.n 50 5 rfl)) (.cons (.t .here) .nil)) rfl (hrec _ ⟨by omega, by omega⟩)) ?_
        refine lv (.on rfl rfl (.n 48 8 rfl) rfl) rfl rfl (opv_not rfl (Ev.eq (.t .here)) rfl) ?_
        refine lv (.plain rfl) rfl rfl (opv_pick_f rfl (Ev.eq (.t (.n 48 9 rfl))) rfl (Ev.eq (.t .here))) ?_
        refine awpL_nil ?_
        refine psplit (.n 56 2 rfl) (fun h56 => ?_) (fun h56 => ?_)
        ·
         have q56 := h56
         try simp only [zs, encTries_len, bl_inj] at q56
         refine pcond_f (.t .here) (congrArg not h56) ?_
         refine awp_skip ?_
         refine awp_region ?_
         refine lv (.plain rfl) rfl rfl (p_field (fldT25_0) rfl (Ev.eq (.t (.n 7 45 rfl))) (off' := 0) rfl) ?_
         refine lv (.plain rfl) rfl rfl (q_load1 (scT9) rfl (Ev.eq (.t .here)) .here .here) ?_
         refine lv (.plain rfl) rfl rfl (opv_index_s Tryd.underlying9 rfl (Ev.eq (.t .here)) (Ev.eq .i) (by omega) (by omega) rfl) ?_
         refine lv (.plain rfl) rfl rfl (opv_convert Tryd.underlying5 Tryd.underlying3 rfl (Ev.eq (.t .here)) (wr_bt _ _) rfl) ?_
         refine lv (.plain rfl) rfl rfl (opv_assign rfl (Ev.eq (.t .here))) ?_
         refine awpL_nil ?_
         refine awp_region ?_
         refine lv (.plain rfl) rfl rfl (opv_add rfl (Ev.eq (.t (.n 10 59 rfl))) (Ev.eq .i) (wr64 (by omega) (by omega)) rfl) ?_
         refine lv (.plain rfl) rfl rfl (opv_move rfl (Ev.eq (.t .here))) ?_
         refine awpL_nil ?_
         refine ⟨(i + 1, bt kl 0), by dsimp only; omega, ⟨by dsimp only; omega, by rw [hst]; dsimp only; simp_all [erI] <;> omega⟩, weak_both (.ce (.n 0 56 rfl) (by first | rfl | (simp; done) | (simp; omega)) (.ce (.n 1 57 rfl) (by first | rfl | (simp; done) | (simp; omega)) (.ce (.n 5 2 rfl) (by first | rfl | (simp; done) | (simp; omega)) (.ce (.n 8 59 rfl) (by first | rfl | (simp; done) | (simp; omega)) (.ce (.n 9 60 rfl) (by first | rfl | (simp; done) | (simp; omega)) (.ce .here (by first | rfl | (simp; done) | (simp; omega)) .nil)))))) (.cons _ (List.Sublist.refl _))⟩
        ·
         have q56 := h56
         try simp only [zs, encTries_len, bl_inj] at q56
         refine pcond_t (.t .here) (congrArg not h56) ?_
         refine awp_seq ?_
         refine awp_region ?_
         refine lv (.plain rfl) rfl rfl (opv_assign rfl (Ev.eq .b)) ?_
         refine awpL_nil ?_
         refine awp_ret ?_
         refine ret_now (.one (rv_t .here)) (Cast.all _ _) ?_
         refine ⟨congrArg (fun x => AV.d (D.b x)) ?_, rfl⟩
         rw [hst]
         simp_all [erI]
         try omega
  ·
   have q11 := h11
   try simp only [zs, encTries_len, bl_inj] at q11
   refine pcond_f (.t .here) h11 ?_
   refine awp_exit ?_
   refine awp_seq ?_
   refine awp_region ?_
   refine lv (.plain rfl) rfl rfl (opv_assign rfl (Ev.eq .b)) ?_
   refine awpL_nil ?_
   refine awp_ret ?_
   refine ret_now (.one (rv_t .here)) (Cast.all _ _) ?_
   refine ⟨congrArg (fun x => AV.d (D.b x)) ?_, rfl⟩
   obtain rfl : i = ks.length := by omega
   rw [List.drop_length, kidsB] at hEQ
   rw [← hEQ]
theorem f41_spec (l : List Trie) (left : Int) (hb : -4611686018427387904 ≤ left ∧ left ≤ 4611686018427387904) : FSpec Tryd.prog 41 [.d (.sl (encTries l)), .d (.i .i64 left)] (.d (.b (kidsB l left (-1)))) := f41_ind (.mk ⟨#[]⟩ [] l) left hb
theorem f15_spec (t : Trie) : FSpec Tryd.prog 15 [aTrie t] (.d (.i .i64 (erI (rightB t)))) := by
  obtain ⟨l, r, ks⟩ := t
  simp only [aTrie, Trie.label, Trie.rows, Trie.kids]
  refine acalls_of Tryd.func15 rfl Tryd.ntmps15 Tryd.results15 (by simp) ?_
  refine awp_seq ?_
  refine awp_region ?_
  refine l_box (.plain rfl) rfl rfl rfl (.t .here) rfl rfl (fun g1 ng1 => ?_)
  refine lv (.plain rfl) rfl rfl (opv_assign rfl (Ev.eq .i)) ?_
  refine awpL_nil ?_
  refine awp_seq ?_
  refine awp_seq ?_
  refine awp_region ?_
  refine lv (.plain rfl) rfl rfl (p_field (fldT25_0) rfl (Ev.eq (.t (.n 1 1 rfl))) (off' := 0) rfl) ?_
  refine lv (.plain rfl) rfl rfl (q_load1 (scT9) rfl (Ev.eq (.t .here)) .here .here) ?_
  refine lv (.plain rfl) rfl rfl (opv_neq_s rfl (Ev.eq (.t .here)) (Ev.eq .s) rfl) ?_
  refine lv (.plain rfl) rfl rfl (opv_move rfl (Ev.eq (.t .here))) ?_
  refine lsplit (.n 5 1 rfl) (fun h5 => ?_) (fun h5 => ?_)
  ·
   have q5 := h5
   try simp only [zs, List.length_map, bl_inj] at q5
   refine lo (.off rfl rfl .here h5) rfl rfl ?_
   refine lo (.off rfl rfl (.n 6 1 rfl) h5) rfl rfl ?_
   refine lo (.off rfl rfl (.n 6 2 rfl) h5) rfl rfl ?_
   refine lo (.off rfl rfl (.n 6 3 rfl) h5) rfl rfl ?_
   refine lv (.plain rfl) rfl rfl (opv_pick_t rfl (Ev.eq (.t (.n 6 4 rfl))) h5 (Ev.eq .b)) ?_
   refine lv (.plain rfl) rfl rfl (opv_move rfl (Ev.eq (.t .here))) ?_
   refine lo (.off rfl rfl .here rfl) rfl rfl ?_
   refine lo (.off rfl rfl (.n 12 1 rfl) rfl) rfl rfl ?_
   refine lo (.off rfl rfl (.n 12 2 rfl) rfl) rfl rfl ?_
   refine lo (.off rfl rfl (.n 12 3 rfl) rfl) rfl rfl ?_
   refine lv (.plain rfl) rfl rfl (opv_pick_t rfl (Ev.eq (.t (.n 12 4 rfl))) rfl (Ev.eq .b)) ?_
   refine awpL_nil ?_
   refine pcond_t (.t .here) rfl ?_
   refine awp_seq ?_
   refine awp_region ?_
   refine lv (.plain rfl) rfl rfl (opv_assign rfl (Ev.eq .i)) ?_
   refine awpL_nil ?_
   refine awp_ret ?_
   refine ret_now (.one (rv_t .here)) (Cast.all _ _) ?_
   refine ⟨congrArg (fun x => AV.d (D.i .i64 x)) ?_, rfl⟩
   cases r <;> simp_all [erI, rightB, Trie.label, Trie.rows, Trie.kids, bl_inj]
  ·
   have q5 := h5
   try simp only [zs, List.length_map, bl_inj] at q5
   refine lv (.on rfl rfl .here h5) rfl rfl (p_field (fldT25_1) rfl (Ev.eq (.t (.n 1 5 rfl))) (off' := 1) rfl) ?_
   refine lv (.on rfl rfl (.n 6 1 rfl) h5) rfl rfl (q_load1 (scT22) rfl (Ev.eq (.t .here)) .here (.there .here)) ?_
   refine lv (.on rfl rfl (.n 6 2 rfl) h5) rfl rfl (opv_len_sl Tryd.underlying22 rfl (Ev.eq (.t .here)) rfl) ?_
   refine lv (.on rfl rfl (.n 6 3 rfl) h5) rfl rfl (opv_gtr rfl (Ev.eq (.t .here)) (Ev.eq .i) rfl) ?_
   refine lv (.plain rfl) rfl rfl (opv_pick_f rfl (Ev.eq (.t (.n 6 4 rfl))) h5 (Ev.eq (.t .here))) ?_
   refine lv (.plain rfl) rfl rfl (opv_move rfl (Ev.eq (.t .here))) ?_
   refine lsplit (.n 10 2 rfl) (fun h10 => ?_) (fun h10 => ?_)
   ·
    have q10 := h10
    try simp only [zs, List.length_map, bl_inj] at q10
    refine lo (.off rfl rfl .here h10) rfl rfl ?_
    refine lo (.off rfl rfl (.n 12 1 rfl) h10) rfl rfl ?_
    refine lo (.off rfl rfl (.n 12 2 rfl) h10) rfl rfl ?_
    refine lo (.off rfl rfl (.n 12 3 rfl) h10) rfl rfl ?_
    refine lv (.plain rfl) rfl rfl (opv_pick_t rfl (Ev.eq (.t (.n 12 4 rfl))) h10 (Ev.eq .b)) ?_
    refine awpL_nil ?_
    refine pcond_t (.t .here) rfl ?_
    refine awp_seq ?_
    refine awp_region ?_
    refine lv (.plain rfl) rfl rfl (opv_assign rfl (Ev.eq .i)) ?_
    refine awpL_nil ?_
    refine awp_ret ?_
    refine ret_now (.one (rv_t .here)) (Cast.all _ _) ?_
    refine ⟨congrArg (fun x => AV.d (D.i .i64 x)) ?_, rfl⟩
    cases r <;> simp_all [erI, rightB, Trie.label, Trie.rows, Trie.kids, bl_inj]
   ·
    have q10 := h10
    try simp only [zs, List.length_map, bl_inj] at q10
    refine lv (.on rfl rfl .here h10) rfl rfl (p_field (fldT25_2) rfl (Ev.eq (.t (.n 1 11 rfl))) (off' := 2) rfl) ?_
    refine lv (.on rfl rfl (.n 12 1 rfl) h10) rfl rfl (q_load1 (scT23) rfl (Ev.eq (.t .here)) .here (.there (.there .here))) ?_
    refine lv (.on rfl rfl (.n 12 2 rfl) h10) rfl rfl (q_call rfl .f Tryd.call41 (.cons (.t .here) (.cons .i .nil)) rfl (f41_spec _ _ ⟨by omega, by omega⟩)) ?_
    refine lv (.on rfl rfl (.n 12 3 rfl) h10) rfl rfl (opv_not rfl (Ev.eq (.t .here)) rfl) ?_
    refine lv (.plain rfl) rfl rfl (opv_pick_f rfl (Ev.eq (.t (.n 12 4 rfl))) h10 (Ev.eq (.t .here))) ?_
    refine awpL_nil ?_
    refine psplit (.n 15 2 rfl) (fun h15 => ?_) (fun h15 => ?_)
    ·
     have q15 := h15
     try simp only [zs, List.length_map, bl_inj] at q15
     refine pcond_f (.t .here) (congrArg not h15) ?_
     refine awp_skip ?_
     refine awp_seq ?_
     refine awp_region ?_
     refine lv (.plain rfl) rfl rfl (opv_assign rfl (Ev.eq .i)) ?_
     refine awpL_nil ?_
     refine awp_ret ?_
     refine ret_now (.one (rv_t .here)) (Cast.all _ _) ?_
     refine ⟨congrArg (fun x => AV.d (D.i .i64 x)) ?_, rfl⟩
     cases r <;> simp_all [erI, rightB, Trie.label, Trie.rows, Trie.kids, bl_inj]
    ·
     have q15 := h15
     try simp only [zs, List.length_map, bl_inj] at q15
     refine pcond_t (.t .here) (congrArg not h15) ?_
     refine awp_seq ?_
     refine awp_region ?_
     refine lv (.plain rfl) rfl rfl (opv_assign rfl (Ev.eq .i)) ?_
     refine awpL_nil ?_
     refine awp_ret ?_
     refine ret_now (.one (rv_t .here)) (Cast.all _ _) ?_
     refine ⟨congrArg (fun x => AV.d (D.i .i64 x)) ?_, rfl⟩
     cases r <;> simp_all [erI, rightB, Trie.label, Trie.rows, Trie.kids, bl_inj]
theorem f100_of (l : ByteArray) (r : List Row) (ks : List Trie) (left : Int) (hb : -4611686018427387904 ≤ left ∧ left ≤ 4611686018427387904) (ih : ∀ left : Int, -4611686018427387904 ≤ left ∧ left ≤ 4611686018427387904 → FSpec Tryd.prog 74 [aTrie (.mk l r ks), .d (.i .i64 left)] (.d (.b (kidsB ks left (-1))))) : FSpec Tryd.prog 100 [aTrie (.mk l r ks), .d (.i .i64 left)] (.d (.b (nodeB (.mk l r ks) left))) := by
  simp only [aTrie, Trie.label, Trie.rows, Trie.kids] at ih
  simp only [aTrie, Trie.label, Trie.rows, Trie.kids]
  refine acalls_of Tryd.func100 rfl Tryd.ntmps100 Tryd.results100 (by simp) ?_
  refine awp_seq ?_
  refine awp_region ?_
  refine l_box (.plain rfl) rfl rfl rfl (.t .here) rfl rfl (fun g1 ng1 => ?_)
  refine lv (.plain rfl) rfl rfl (opv_assign rfl (Ev.eq .b)) ?_
  refine awpL_nil ?_
  refine awp_seq ?_
  refine awp_seq ?_
  refine awp_region ?_
  refine lv (.plain rfl) rfl rfl (p_field (fldT25_0) rfl (Ev.eq (.t (.n 2 1 rfl))) (off' := 0) rfl) ?_
  refine lv (.plain rfl) rfl rfl (q_load1 (scT9) rfl (Ev.eq (.t .here)) .here .here) ?_
  refine lv (.plain rfl) rfl rfl (opv_eql_s rfl (Ev.eq (.t .here)) (Ev.eq .s) rfl) ?_
  refine lv (.plain rfl) rfl rfl (opv_move rfl (Ev.eq (.t .here))) ?_
  refine lsplit (.n 7 1 rfl) (fun h7 => ?_) (fun h7 => ?_)
  ·
   have q7 := h7
   try simp only [zs, List.length_map, encTries_len, bl_inj] at q7
   refine lo (.off rfl rfl .here h7) rfl rfl ?_
   refine lo (.off rfl rfl (.n 8 1 rfl) h7) rfl rfl ?_
   refine lo (.off rfl rfl (.n 8 2 rfl) h7) rfl rfl ?_
   refine lo (.off rfl rfl (.n 8 3 rfl) h7) rfl rfl ?_
   refine lo (.off rfl rfl (.n 8 4 rfl) h7) rfl rfl ?_
   refine lv (.plain rfl) rfl rfl (opv_pick_t rfl (Ev.eq (.t (.n 8 5 rfl))) h7 (Ev.eq .b)) ?_
   refine lv (.plain rfl) rfl rfl (opv_move rfl (Ev.eq (.t .here))) ?_
   refine lo (.off rfl rfl .here rfl) rfl rfl ?_
   refine lo (.off rfl rfl (.n 15 1 rfl) rfl) rfl rfl ?_
   refine lo (.off rfl rfl (.n 15 2 rfl) rfl) rfl rfl ?_
   refine lo (.off rfl rfl (.n 15 3 rfl) rfl) rfl rfl ?_
   refine lv (.plain rfl) rfl rfl (opv_pick_t rfl (Ev.eq (.t (.n 15 4 rfl))) rfl (Ev.eq .b)) ?_
   refine lv (.plain rfl) rfl rfl (opv_move rfl (Ev.eq (.t .here))) ?_
   refine lo (.off rfl rfl .here rfl) rfl rfl ?_
   refine lo (.off rfl rfl (.n 21 1 rfl) rfl) rfl rfl ?_
   refine lo (.off rfl rfl (.n 21 2 rfl) rfl) rfl rfl ?_
   refine lo (.off rfl rfl (.n 21 3 rfl) rfl) rfl rfl ?_
   refine lo (.off rfl rfl (.n 21 4 rfl) rfl) rfl rfl ?_
   refine lo (.no rfl rfl .here) rfl rfl ?_
   refine lo (.no rfl rfl (.n 26 1 rfl)) rfl rfl ?_
   refine lo (.no rfl rfl (.n 26 2 rfl)) rfl rfl ?_
   refine lo (.no rfl rfl (.n 26 3 rfl)) rfl rfl ?_
   refine lo (.off rfl rfl (.n 21 9 rfl) rfl) rfl rfl ?_
   refine lv (.plain rfl) rfl rfl (opv_pick_t rfl (Ev.eq (.t (.n 21 10 rfl))) rfl (Ev.eq .b)) ?_
   refine awpL_nil ?_
   refine pcond_t (.t .here) rfl ?_
   refine awp_seq ?_
   refine awp_region ?_
   refine lv (.plain rfl) rfl rfl (opv_assign rfl (Ev.eq .b)) ?_
   refine awpL_nil ?_
   refine awp_ret ?_
   refine ret_now (.one (rv_t .here)) (Cast.all _ _) ?_
   refine ⟨congrArg (fun x => AV.d (D.b x)) ?_, rfl⟩
   rw [nodeB]
   cases r <;> simp_all <;> omega
  ·
   have q7 := h7
   try simp only [zs, List.length_map, encTries_len, bl_inj] at q7
   refine lv (.on rfl rfl .here h7) rfl rfl (p_field (fldT25_0) rfl (Ev.eq (.t (.n 2 5 rfl))) (off' := 0) rfl) ?_
   refine lv (.on rfl rfl (.n 8 1 rfl) h7) rfl rfl (q_load1 (scT9) rfl (Ev.eq (.t .here)) .here .here) ?_
   refine lv (.on rfl rfl (.n 8 2 rfl) h7) rfl rfl (opv_len_s Tryd.underlying9 rfl (Ev.eq (.t .here)) rfl) ?_
   refine lv (.on rfl rfl (.n 8 3 rfl) h7) rfl rfl (opv_move rfl (Ev.eq (.t (.n 1 10 rfl)))) ?_
   refine lv (.on rfl rfl (.n 8 4 rfl) h7) rfl rfl (opv_gtr rfl (Ev.eq (.t (.n 11 1 rfl))) (Ev.eq (.t .here)) rfl) ?_
   refine lv (.plain rfl) rfl rfl (opv_pick_f rfl (Ev.eq (.t (.n 8 5 rfl))) h7 (Ev.eq (.t .here))) ?_
   refine lv (.plain rfl) rfl rfl (opv_move rfl (Ev.eq (.t .here))) ?_
   refine lsplit (.n 13 2 rfl) (fun h13 => ?_) (fun h13 => ?_)
   ·
    have q13 := h13
    try simp only [zs, List.length_map, encTries_len, bl_inj] at q13
    refine lo (.off rfl rfl .here h13) rfl rfl ?_
    refine lo (.off rfl rfl (.n 15 1 rfl) h13) rfl rfl ?_
    refine lo (.off rfl rfl (.n 15 2 rfl) h13) rfl rfl ?_
    refine lo (.off rfl rfl (.n 15 3 rfl) h13) rfl rfl ?_
    refine lv (.plain rfl) rfl rfl (opv_pick_t rfl (Ev.eq (.t (.n 15 4 rfl))) h13 (Ev.eq .b)) ?_
    refine lv (.plain rfl) rfl rfl (opv_move rfl (Ev.eq (.t .here))) ?_
    refine lo (.off rfl rfl .here rfl) rfl rfl ?_
    refine lo (.off rfl rfl (.n 21 1 rfl) rfl) rfl rfl ?_
    refine lo (.off rfl rfl (.n 21 2 rfl) rfl) rfl rfl ?_
    refine lo (.off rfl rfl (.n 21 3 rfl) rfl) rfl rfl ?_
    refine lo (.off rfl rfl (.n 21 4 rfl) rfl) rfl rfl ?_
    refine lo (.no rfl rfl .here) rfl rfl ?_
    refine lo (.no rfl rfl (.n 26 1 rfl)) rfl rfl ?_
    refine lo (.no rfl rfl (.n 26 2 rfl)) rfl rfl ?_
    refine lo (.no rfl rfl (.n 26 3 rfl)) rfl rfl ?_
    refine lo (.off rfl rfl (.n 21 9 rfl) rfl) rfl rfl ?_
    refine lv (.plain rfl) rfl rfl (opv_pick_t rfl (Ev.eq (.t (.n 21 10 rfl))) rfl (Ev.eq .b)) ?_
    refine awpL_nil ?_
    refine pcond_t (.t .here) rfl ?_
    refine awp_seq ?_
    refine awp_region ?_
    refine lv (.plain rfl) rfl rfl (opv_assign rfl (Ev.eq .b)) ?_
    refine awpL_nil ?_
    refine awp_ret ?_
    refine ret_now (.one (rv_t .here)) (Cast.all _ _) ?_
    refine ⟨congrArg (fun x => AV.d (D.b x)) ?_, rfl⟩
    rw [nodeB]
    cases r <;> simp_all <;> omega
   ·
    have q13 := h13
    try simp only [zs, List.length_map, encTries_len, bl_inj] at q13
    refine lv (.on rfl rfl .here h13) rfl rfl (p_field (fldT25_1) rfl (Ev.eq (.t (.n 2 12 rfl))) (off' := 1) rfl) ?_
    refine lv (.on rfl rfl (.n 15 1 rfl) h13) rfl rfl (q_load1 (scT22) rfl (Ev.eq (.t .here)) .here (.there .here)) ?_
    refine lv (.on rfl rfl (.n 15 2 rfl) h13) rfl rfl (q_call rfl .f Tryd.call118 (.cons (.t .here) .nil) rfl (f118_spec _)) ?_
    refine lv (.on rfl rfl (.n 15 3 rfl) h13) rfl rfl (opv_not rfl (Ev.eq (.t .here)) rfl) ?_
    refine lv (.plain rfl) rfl rfl (opv_pick_f rfl (Ev.eq (.t (.n 15 4 rfl))) h13 (Ev.eq (.t .here))) ?_
    refine lv (.plain rfl) rfl rfl (opv_move rfl (Ev.eq (.t .here))) ?_
    refine lsplit (.n 18 3 rfl) (fun h18 => ?_) (fun h18 => ?_)
    ·
     have q18 := h18
     try simp only [zs, List.length_map, encTries_len, bl_inj] at q18
     refine lv (.on rfl rfl .here (congrArg not h18)) rfl rfl (p_field (fldT25_1) rfl (Ev.eq (.t (.n 2 18 rfl))) (off' := 1) rfl) ?_
     refine lv (.on rfl rfl (.n 21 1 rfl) (congrArg not h18)) rfl rfl (q_load1 (scT22) rfl (Ev.eq (.t .here)) .here (.there .here)) ?_
     refine lv (.on rfl rfl (.n 21 2 rfl) (congrArg not h18)) rfl rfl (opv_len_sl Tryd.underlying22 rfl (Ev.eq (.t .here)) rfl) ?_
     refine lv (.on rfl rfl (.n 21 3 rfl) (congrArg not h18)) rfl rfl (opv_eql_i rfl (Ev.eq (.t .here)) (Ev.eq .i) rfl) ?_
     refine lv (.on rfl rfl (.n 21 4 rfl) (congrArg not h18)) rfl rfl (opv_move rfl (Ev.eq (.t .here))) ?_
     refine lsplit (.n 25 1 rfl) (fun h25 => ?_) (fun h25 => ?_)
     ·
      have q25 := h25
      try simp only [zs, List.length_map, encTries_len, bl_inj] at q25
      refine lv (.on rfl rfl .here h25) rfl rfl (p_field (fldT25_2) rfl (Ev.eq (.t (.n 2 23 rfl))) (off' := 2) rfl) ?_
      refine lv (.on rfl rfl (.n 26 1 rfl) h25) rfl rfl (q_load1 (scT23) rfl (Ev.eq (.t .here)) .here (.there (.there .here))) ?_
      refine lv (.on rfl rfl (.n 26 2 rfl) h25) rfl rfl (opv_len_sl Tryd.underlying23 rfl (Ev.eq (.t .here)) rfl) ?_
      refine lv (.on rfl rfl (.n 26 3 rfl) h25) rfl rfl (opv_lss rfl (Ev.eq (.t .here)) (Ev.eq .i) rfl) ?_
      refine lv (.on rfl rfl (.n 21 9 rfl) (congrArg not h18)) rfl rfl (opv_pick_t rfl (Ev.eq (.t (.n 26 4 rfl))) h25 (Ev.eq (.t .here))) ?_
      refine lv (.plain rfl) rfl rfl (opv_pick_f rfl (Ev.eq (.t (.n 21 10 rfl))) (congrArg not h18) (Ev.eq (.t .here))) ?_
      refine awpL_nil ?_
      refine psplit (.n 30 2 rfl) (fun h30 => ?_) (fun h30 => ?_)
      ·
       have q30 := h30
       try simp only [zs, List.length_map, encTries_len, bl_inj] at q30
       refine pcond_t (.t .here) h30 ?_
       refine awp_seq ?_
       refine awp_region ?_
       refine lv (.plain rfl) rfl rfl (opv_assign rfl (Ev.eq .b)) ?_
       refine awpL_nil ?_
       refine awp_ret ?_
       refine ret_now (.one (rv_t .here)) (Cast.all _ _) ?_
       refine ⟨congrArg (fun x => AV.d (D.b x)) ?_, rfl⟩
       rw [nodeB]
       cases r <;> simp_all <;> omega
      ·
       have q30 := h30
       try simp only [zs, List.length_map, encTries_len, bl_inj] at q30
       refine pcond_f (.t .here) h30 ?_
       refine awp_skip ?_
       refine awp_seq ?_
       refine awp_region ?_
       refine lv (.plain rfl) rfl rfl (q_loadn (agT25) rfl (Ev.eq (.t (.n 2 29 rfl))) .here rfl) ?_
       refine lv (.plain rfl) rfl rfl (opv_move rfl (Ev.eq (.t (.n 1 32 rfl)))) ?_
       refine lv (.plain rfl) rfl rfl (p_field (fldT25_0) rfl (Ev.eq (.t (.n 2 31 rfl))) (off' := 0) rfl) ?_
       refine lv (.plain rfl) rfl rfl (q_load1 (scT9) rfl (Ev.eq (.t .here)) .here .here) ?_
       refine lv (.plain rfl) rfl rfl (opv_len_s Tryd.underlying9 rfl (Ev.eq (.t .here)) rfl) ?_
       refine lv (.plain rfl) rfl rfl (opv_sub rfl (Ev.eq (.t (.n 34 3 rfl))) (Ev.eq (.t .here)) (wr64 (by omega) (by omega)) rfl) ?_
       refine lv (.plain rfl) rfl rfl (q_call rfl .f Tryd.call74 (.cons (.t (.n 33 5 rfl)) (.cons (.t .here) .nil)) rfl (ih _ ⟨by omega, by omega⟩)) ?_
       refine lv (.plain rfl) rfl rfl (opv_assign rfl (Ev.eq (.t .here))) ?_
       refine awpL_nil ?_
       refine awp_ret ?_
       refine ret_now (.one (rv_t .here)) (Cast.all _ _) ?_
       refine ⟨congrArg (fun x => AV.d (D.b x)) ?_, rfl⟩
       rw [nodeB]
       cases r <;> simp_all <;> omega
     ·
      have q25 := h25
      try simp only [zs, List.length_map, encTries_len, bl_inj] at q25
      refine lo (.off rfl rfl .here h25) rfl rfl ?_
      refine lo (.off rfl rfl (.n 26 1 rfl) h25) rfl rfl ?_
      refine lo (.off rfl rfl (.n 26 2 rfl) h25) rfl rfl ?_
      refine lo (.off rfl rfl (.n 26 3 rfl) h25) rfl rfl ?_
      refine lv (.on rfl rfl (.n 21 9 rfl) (congrArg not h18)) rfl rfl (opv_pick_f rfl (Ev.eq (.t (.n 26 4 rfl))) h25 (Ev.eq .b)) ?_
      refine lv (.plain rfl) rfl rfl (opv_pick_f rfl (Ev.eq (.t (.n 21 10 rfl))) (congrArg not h18) (Ev.eq (.t .here))) ?_
      refine awpL_nil ?_
      refine pcond_f (.t .here) rfl ?_
      refine awp_skip ?_
      refine awp_seq ?_
      refine awp_region ?_
      refine lv (.plain rfl) rfl rfl (q_loadn (agT25) rfl (Ev.eq (.t (.n 2 29 rfl))) .here rfl) ?_
      refine lv (.plain rfl) rfl rfl (opv_move rfl (Ev.eq (.t (.n 1 32 rfl)))) ?_
      refine lv (.plain rfl) rfl rfl (p_field (fldT25_0) rfl (Ev.eq (.t (.n 2 31 rfl))) (off' := 0) rfl) ?_
      refine lv (.plain rfl) rfl rfl (q_load1 (scT9) rfl (Ev.eq (.t .here)) .here .here) ?_
      refine lv (.plain rfl) rfl rfl (opv_len_s Tryd.underlying9 rfl (Ev.eq (.t .here)) rfl) ?_
      refine lv (.plain rfl) rfl rfl (opv_sub rfl (Ev.eq (.t (.n 34 3 rfl))) (Ev.eq (.t .here)) (wr64 (by omega) (by omega)) rfl) ?_
      refine lv (.plain rfl) rfl rfl (q_call rfl .f Tryd.call74 (.cons (.t (.n 33 5 rfl)) (.cons (.t .here) .nil)) rfl (ih _ ⟨by omega, by omega⟩)) ?_
      refine lv (.plain rfl) rfl rfl (opv_assign rfl (Ev.eq (.t .here))) ?_
      refine awpL_nil ?_
      refine awp_ret ?_
      refine ret_now (.one (rv_t .here)) (Cast.all _ _) ?_
      refine ⟨congrArg (fun x => AV.d (D.b x)) ?_, rfl⟩
      rw [nodeB]
      cases r <;> simp_all <;> omega
    ·
     have q18 := h18
     try simp only [zs, List.length_map, encTries_len, bl_inj] at q18
     refine lo (.off rfl rfl .here (congrArg not h18)) rfl rfl ?_
     refine lo (.off rfl rfl (.n 21 1 rfl) (congrArg not h18)) rfl rfl ?_
     refine lo (.off rfl rfl (.n 21 2 rfl) (congrArg not h18)) rfl rfl ?_
     refine lo (.off rfl rfl (.n 21 3 rfl) (congrArg not h18)) rfl rfl ?_
     refine lo (.off rfl rfl (.n 21 4 rfl) (congrArg not h18)) rfl rfl ?_
     refine lo (.no rfl rfl .here) rfl rfl ?_
     refine lo (.no rfl rfl (.n 26 1 rfl)) rfl rfl ?_
     refine lo (.no rfl rfl (.n 26 2 rfl)) rfl rfl ?_
     refine lo (.no rfl rfl (.n 26 3 rfl)) rfl rfl ?_
     refine lo (.off rfl rfl (.n 21 9 rfl) (congrArg not h18)) rfl rfl ?_
     refine lv (.plain rfl) rfl rfl (opv_pick_t rfl (Ev.eq (.t (.n 21 10 rfl))) (congrArg not h18) (Ev.eq .b)) ?_
     refine awpL_nil ?_
     refine pcond_t (.t .here) rfl ?_
     refine awp_seq ?_
     refine awp_region ?_
     refine lv (.plain rfl) rfl rfl (opv_assign rfl (Ev.eq .b)) ?_
     refine awpL_nil ?_
     refine awp_ret ?_
     refine ret_now (.one (rv_t .here)) (Cast.all _ _) ?_
     refine ⟨congrArg (fun x => AV.d (D.b x)) ?_, rfl⟩
     rw [nodeB]
     cases r <;> simp_all <;> omega
theorem nodeB_pos {t : Trie} {left : Int} (h : nodeB t left = true) : 0 < t.label.size := by
  obtain ⟨l, r, ks⟩ := t
  simp only [nodeB, Bool.and_eq_true, decide_eq_true_eq] at h
  exact ne_pos h.1.1.1.1
def firstOf (l : List Trie) (i : Nat) : Int := if i = 0 then -1 else match l[i - 1]? with | some t => bt t.label 0 | none => -1
theorem firstOf_succ {l : List Trie} {i : Nat} {t : Trie} (h : l[i]? = some t) : firstOf l (i + 1) = bt t.label 0 := by simp [firstOf, h]
theorem f74_ind : ∀ (t : Trie) (left : Int), -4611686018427387904 ≤ left ∧ left ≤ 4611686018427387904 → FSpec Tryd.prog 74 [aTrie t, .d (.i .i64 left)] (.d (.b (kidsB t.kids left (-1)))) := by
  intro t
  induction t using Trie.ind with
  | h l r ks ih =>
  intro left hb
  simp only [aTrie, Trie.label, Trie.rows, Trie.kids]
  refine acalls_of Tryd.func74 rfl Tryd.ntmps74 Tryd.results74 (by simp) ?_
  refine awp_seq ?_
  refine awp_region ?_
  refine l_box (.plain rfl) rfl rfl rfl (.t .here) rfl rfl (fun g1 ng1 => ?_)
  refine lv (.plain rfl) rfl rfl (opv_assign rfl (Ev.eq .b)) ?_
  refine awpL_nil ?_
  refine awp_seq ?_
  refine awp_seq ?_
  refine awp_region ?_
  refine lv (.plain rfl) rfl rfl (p_field (fldT25_2) rfl (Ev.eq (.t (.n 2 1 rfl))) (off' := 2) rfl) ?_
  refine lv (.plain rfl) rfl rfl (q_load1 (scT23) rfl (Ev.eq (.t .here)) .here (.there (.there .here))) ?_
  refine lv (.plain rfl) rfl rfl (opv_len_sl Tryd.underlying23 rfl (Ev.eq (.t .here)) rfl) ?_
  refine lv (.plain rfl) rfl rfl (opv_gtr rfl (Ev.eq (.t .here)) (Ev.eq .i) rfl) ?_
  refine awpL_nil ?_
  refine psplit .here (fun h9 => ?_) (fun h9 => ?_)
  ·
   have q9 := h9
   try simp only [zs, encTries_len, bl_inj] at q9
   refine pcond_t (.t .here) h9 ?_
   refine awp_seq ?_
   refine awp_region ?_
   refine lv (.plain rfl) rfl rfl (opv_assign rfl (Ev.eq .b)) ?_
   refine awpL_nil ?_
   refine awp_ret ?_
   refine ret_now (.one (rv_t .here)) (Cast.all _ _) ?_
   refine ⟨congrArg (fun x => AV.d (D.b x)) ?_, rfl⟩
   cases hb2 : kidsB ks left (-1) with
   | false => rfl
   | true =>
     have := kidsB_len ks left (-1) (by omega) (by omega) hb2
     omega
  ·
   have q9 := h9
   try simp only [zs, encTries_len, bl_inj] at q9
   refine pcond_f (.t .here) h9 ?_
   refine awp_skip ?_
   refine awp_seq ?_
   refine awp_seq ?_
   refine awp_region ?_
   refine lv (.plain rfl) rfl rfl (opv_assign rfl (Ev.eq .i)) ?_
   refine awpL_nil ?_
   refine awp_block ?_
   refine ploop (fun (i : Nat) => ⟨47, [(1, .d (.i .i64 left)), (2, .ptr g1 0), (5, .d (.i .i64 (i : Int)))], [(g1, .var 25 [.d (.s l), .d (dRows r), .d (.sl (encTries ks))])], []⟩) (fun i => i ≤ ks.length ∧ kidsB (ks.drop i) left (firstOf ks i) = kidsB ks left (-1) ∧ ∀ q : Trie, 0 < i → ks[i - 1]? = some q → 0 < q.label.size) (fun i => ks.length - i) (0) (weak_both (.ce (.n 1 8 rfl) (by first | rfl | (simp; done) | (simp; omega)) (.ce (.n 2 6 rfl) (by first | rfl | (simp; done) | (simp; omega)) (.ce .here (by first | rfl | (simp; done) | (simp; omega)) .nil))) (List.Sublist.refl _)) (⟨by omega, by simp [firstOf], fun q h => by omega⟩) ?_
   rintro i ⟨hi, hEQ, hlp⟩
   refine awp_seq ?_
   refine awp_seq ?_
   refine awp_region ?_
   refine lv (.plain rfl) rfl rfl (opv_move rfl (Ev.eq (.t (.n 5 2 rfl)))) ?_
   refine lv (.plain rfl) rfl rfl (p_field (fldT25_2) rfl (Ev.eq (.t (.n 2 2 rfl))) (off' := 2) rfl) ?_
   refine lv (.plain rfl) rfl rfl (q_load1 (scT23) rfl (Ev.eq (.t .here)) .here (.there (.there .here))) ?_
   refine lv (.plain rfl) rfl rfl (opv_len_sl Tryd.underlying23 rfl (Ev.eq (.t .here)) rfl) ?_
   refine lv (.plain rfl) rfl rfl (opv_lss rfl (Ev.eq (.t (.n 10 3 rfl))) (Ev.eq (.t .here)) rfl) ?_
   refine awpL_nil ?_
   refine psplit .here (fun h14 => ?_) (fun h14 => ?_)
   ·
    have q14 := h14
    try simp only [zs, encTries_len, bl_inj] at q14
    refine pcond_t (.t .here) h14 ?_
    refine awp_skip ?_
    refine awp_seq ?_
    refine awp_block ?_
    refine awp_seq ?_
    refine g_draw mixed (kb_cons (.head _) kb_nil) (by kernel_rfl) (fuel := 30) rfl rfl ?_
    refine g_v (listed' := bs 30 1) 0 rfl (by kernel_rfl) rfl (fun _ => .plain rfl) rfl (fun _ hK => p_field (fldT25_2) rfl (Ev.eq (.t (.n 2 6 rfl))) (off' := 2) rfl) (kb_cons (.head _) kb_nil) ?_
    refine g_v (listed' := bs 30 3) 1 rfl (by kernel_rfl) rfl (fun _ => .plain rfl) rfl (fun _ hK => m_load1 (scT23) rfl (Ev.eq (.t .here)) (hK _ (.head _)) (.there (.there .here))) (kb_cons (.head _) kb_nil) ?_
    refine g_v (listed' := bs 30 7) 2 rfl (by kernel_rfl) rfl (fun _ => .plain rfl) rfl (fun _ hK => opv_move rfl (Ev.eq (.t (.n 5 9 rfl)))) (kb_cons (.head _) kb_nil) ?_
    obtain ⟨kd, hk⟩ := some_at (l := ks) (i := i) (by omega)
    obtain ⟨kl, kr, kk⟩ := kd
    have hst : kidsB ks left (-1) = (nodeB (.mk kl kr kk) left && decide (firstOf ks i < bt kl 0) && kidsB (ks.drop (i + 1)) left (bt kl 0)) := by rw [← hEQ, drop_cons hk, kidsB]; rfl
    have hbr := bt_range kl 0
    have hrec := fun left hb => f100_of kl kr kk left hb (fun left hb => ih _ (List.mem_of_getElem? hk) left hb)
    refine g_v (listed' := bs 30 15) 3 rfl (by kernel_rfl) rfl (fun _ => .plain rfl) rfl (fun _ hK => p_index (slT23) rfl (Ev.eq (.t (.n 18 1 rfl))) (Ev.eq (.t .here)) (by omega) (by first | assumption | exact map_at (by assumption) | exact encTries_at (by assumption)) rfl) (kb_cons (.head _) kb_nil) ?_
    refine g_v (listed' := bs 30 31) 4 rfl (by kernel_rfl) rfl (fun _ => .plain rfl) rfl (fun _ hK => p_loadnf (agT25) rfl (Ev.eq (.t .here)) (Nat.le_of_ble_eq_true rfl) rfl) (kb_cons (.head _) kb_nil) ?_
    refine g_v (listed' := bs 30 63) 5 rfl (by kernel_rfl) rfl (fun _ => .plain rfl) rfl (fun _ hK => opv_move rfl (Ev.eq (.t (.n 1 10 rfl)))) (kb_cons (.head _) kb_nil) ?_
    refine g_v (listed' := bs 30 127) 6 rfl (by kernel_rfl) rfl (fun _ => .plain rfl) rfl (fun _ hK => q_call rfl .f Tryd.call100 (.cons (.t (.n 21 1 rfl)) (.cons (.t .here) .nil)) rfl (hrec _ ⟨by omega, by omega⟩)) (kb_cons (.head _) kb_nil) ?_
    refine g_v (listed' := bs 30 255) 7 rfl (by kernel_rfl) rfl (fun _ => .plain rfl) rfl (fun _ hK => opv_not rfl (Ev.eq (.t .here)) rfl) (kb_cons (.head _) kb_nil) ?_
    refine g_v (listed' := bs 30 511) 8 rfl (by kernel_rfl) rfl (fun _ => .plain rfl) rfl (fun _ hK => opv_move rfl (Ev.eq (.t .here))) (kb_cons (.head _) kb_nil) ?_
    refine gsplit (.n 23 2 rfl) (fun h23 => ?_) (fun h23 => ?_)
    ·
     have q23 := h23
     try simp only [zs, encTries_len, bl_inj] at q23
     refine g_v (listed' := bs 30 1023) 9 rfl (by kernel_rfl) rfl (fun _ => .on rfl rfl .here (congrArg not h23)) rfl (fun _ hK => opv_move rfl (Ev.eq (.t (.n 5 16 rfl)))) (kb_cons (.head _) kb_nil) ?_
     refine g_v (listed' := bs 30 2047) 10 rfl (by kernel_rfl) rfl (fun _ => .on rfl rfl (.n 25 1 rfl) (congrArg not h23)) rfl (fun _ hK => opv_gtr rfl (Ev.eq (.t .here)) (Ev.eq .i) rfl) (kb_cons (.head _) kb_nil) ?_
     refine g_v (listed' := bs 30 4095) 11 rfl (by kernel_rfl) rfl (fun _ => .on rfl rfl (.n 25 2 rfl) (congrArg not h23)) rfl (fun _ hK => opv_move rfl (Ev.eq (.t .here))) (kb_cons (.head _) kb_nil) ?_
     refine gsplit (.n 27 1 rfl) (fun h27 => ?_) (fun h27 => ?_)
     ·
      have q27 := h27
      try simp only [zs, encTries_len, bl_inj] at q27
      refine g_v (listed' := bs 30 8191) 12 rfl (by kernel_rfl) rfl (fun _ => .on rfl rfl .here h27) rfl (fun _ hK => p_field (fldT25_2) rfl (Ev.eq (.t (.n 2 18 rfl))) (off' := 2) rfl) (kb_cons (.head _) kb_nil) ?_
      refine g_v (listed' := bs 30 16383) 13 rfl (by kernel_rfl) rfl (fun _ => .on rfl rfl (.n 28 1 rfl) h27) rfl (fun _ hK => m_load1 (scT23) rfl (Ev.eq (.t .here)) (hK _ (.head _)) (.there (.there .here))) (kb_cons (.head _) kb_nil) ?_
      refine g_v (listed' := bs 30 32767) 14 rfl (by kernel_rfl) rfl (fun _ => .on rfl rfl (.n 28 2 rfl) h27) rfl (fun _ hK => opv_move rfl (Ev.eq (.t (.n 5 21 rfl)))) (kb_cons (.head _) kb_nil) ?_
      refine g_v (listed' := bs 30 65535) 15 rfl (by kernel_rfl) rfl (fun _ => .on rfl rfl (.n 28 3 rfl) h27) rfl (fun _ hK => opv_sub rfl (Ev.eq (.t .here)) (Ev.eq .i) (wr64 (by omega) (by omega)) rfl) (kb_cons (.head _) kb_nil) ?_
      obtain ⟨qd, hq⟩ := some_at (l := ks) (i := i - 1) (by omega)
      obtain ⟨ql, qr, qk⟩ := qd
      have hfo : firstOf ks i = bt ql 0 := by simp only [firstOf]; rw [if_neg (by omega), hq]; rfl
      have hqp : 0 < ql.size := hlp _ (by omega) hq
      have hkp : 0 < kl.size := nodeB_pos (t := .mk kl kr kk) (left := left) (by assumption)
      have hq' : (encTries ks)[(((i : Int) - 1)).toNat]? = some (encTrie (.mk ql qr qk)) := by rw [show (((i : Int) - 1)).toNat = i - 1 by omega, encTries_eq, List.getElem?_map, hq]; rfl
      refine g_v (listed' := bs 30 131071) 16 rfl (by kernel_rfl) rfl (fun _ => .on rfl rfl (.n 28 4 rfl) h27) rfl (fun _ hK => p_index (slT23) rfl (Ev.eq (.t (.n 30 2 rfl))) (Ev.eq (.t .here)) (by omega) (by first | assumption | exact map_at (by assumption) | exact encTries_at (by assumption)) rfl) (kb_cons (.head _) kb_nil) ?_
      refine g_v (listed' := bs 30 262143) 17 rfl (by kernel_rfl) rfl (fun _ => .on rfl rfl (.n 28 5 rfl) h27) rfl (fun _ hK => p_fieldf (fldT25_0) rfl (Ev.eq (.t .here)) rfl) (kb_cons (.head _) kb_nil) ?_
      refine g_v (listed' := bs 30 524287) 18 rfl (by kernel_rfl) rfl (fun _ => .on rfl rfl (.n 28 6 rfl) h27) rfl (fun _ hK => p_load1f (scT9) rfl (Ev.eq (.t .here))) (kb_cons (.head _) kb_nil) ?_
      refine g_v (listed' := bs 30 1048575) 19 rfl (by kernel_rfl) rfl (fun _ => .on rfl rfl (.n 28 7 rfl) h27) rfl (fun _ hK => opv_index_s Tryd.underlying9 rfl (Ev.eq (.t .here)) (Ev.eq .i) (by omega) (by omega) rfl) (kb_cons (.head _) kb_nil) ?_
      refine g_v (listed' := bs 30 2097151) 20 rfl (by kernel_rfl) rfl (fun _ => .on rfl rfl (.n 28 8 rfl) h27) rfl (fun _ hK => p_field (fldT25_2) rfl (Ev.eq (.t (.n 2 26 rfl))) (off' := 2) rfl) (kb_cons (.head _) kb_nil) ?_
      refine g_v (listed' := bs 30 4194303) 21 rfl (by kernel_rfl) rfl (fun _ => .on rfl rfl (.n 28 9 rfl) h27) rfl (fun _ hK => m_load1 (scT23) rfl (Ev.eq (.t .here)) (hK _ (.head _)) (.there (.there .here))) (kb_cons (.head _) kb_nil) ?_
      refine g_v (listed' := bs 30 8388607) 22 rfl (by kernel_rfl) rfl (fun _ => .on rfl rfl (.n 28 10 rfl) h27) rfl (fun _ hK => opv_move rfl (Ev.eq (.t (.n 5 29 rfl)))) (kb_cons (.head _) kb_nil) ?_
      refine g_v (listed' := bs 30 16777215) 23 rfl (by kernel_rfl) rfl (fun _ => .on rfl rfl (.n 28 11 rfl) h27) rfl (fun _ hK => p_index (slT23) rfl (Ev.eq (.t (.n 38 1 rfl))) (Ev.eq (.t .here)) (by omega) (by first | assumption | exact map_at (by assumption) | exact encTries_at (by assumption)) rfl) (kb_cons (.head _) kb_nil) ?_
      refine g_v (listed' := bs 30 33554431) 24 rfl (by kernel_rfl) rfl (fun _ => .on rfl rfl (.n 28 12 rfl) h27) rfl (fun _ hK => p_fieldf (fldT25_0) rfl (Ev.eq (.t .here)) rfl) (kb_cons (.head _) kb_nil) ?_
      refine g_v (listed' := bs 30 67108863) 25 rfl (by kernel_rfl) rfl (fun _ => .on rfl rfl (.n 28 13 rfl) h27) rfl (fun _ hK => p_load1f (scT9) rfl (Ev.eq (.t .here))) (kb_cons (.head _) kb_nil) ?_
      refine g_v (listed' := bs 30 134217727) 26 rfl (by kernel_rfl) rfl (fun _ => .on rfl rfl (.n 28 14 rfl) h27) rfl (fun _ hK => opv_index_s Tryd.underlying9 rfl (Ev.eq (.t .here)) (Ev.eq .i) (by omega) (by omega) rfl) (kb_cons (.head _) kb_nil) ?_
      refine g_v (listed' := bs 30 268435455) 27 rfl (by kernel_rfl) rfl (fun _ => .on rfl rfl (.n 28 15 rfl) h27) rfl (fun _ hK => opv_geq rfl (Ev.eq (.t (.n 36 7 rfl))) (Ev.eq (.t .here)) rfl) (kb_cons (.head _) kb_nil) ?_
      refine g_v (listed' := bs 30 536870911) 28 rfl (by kernel_rfl) rfl (fun _ => .on rfl rfl (.n 25 19 rfl) (congrArg not h23)) rfl (fun _ hK => opv_pick_t rfl (Ev.eq (.t (.n 28 16 rfl))) h27 (Ev.eq (.t .here))) (kb_cons (.head _) kb_nil) ?_
      refine g_v (listed' := bs 30 1073741823) 29 rfl (by kernel_rfl) rfl (fun _ => .plain rfl) rfl (fun _ hK => opv_pick_f rfl (Ev.eq (.t (.n 25 20 rfl))) (congrArg not h23) (Ev.eq (.t .here))) (kb_cons (.head _) kb_nil) ?_
      refine g_end (by kernel_rfl) ?_
      refine psplit (.n 44 2 rfl) (fun h44 => ?_) (fun h44 => ?_)
      ·
       have q44 := h44
       try simp only [zs, encTries_len, bl_inj] at q44
       refine pcond_t (.t .here) h44 ?_
       refine awp_seq ?_
       refine awp_region ?_
       refine lv (.plain rfl) rfl rfl (opv_assign rfl (Ev.eq .b)) ?_
       refine awpL_nil ?_
       refine awp_ret ?_
       refine ret_now (.one (rv_t .here)) (Cast.all _ _) ?_
       refine ⟨congrArg (fun x => AV.d (D.b x)) ?_, rfl⟩
       rw [hst]
       simp_all [firstOf] <;> omega
      ·
       have q44 := h44
       try simp only [zs, encTries_len, bl_inj] at q44
       refine pcond_f (.t .here) h44 ?_
       refine awp_skip ?_
       refine awp_region ?_
       refine lv (.plain rfl) rfl rfl (opv_move rfl (Ev.eq (.t (.n 5 37 rfl)))) ?_
       refine lv (.plain rfl) rfl rfl (opv_add rfl (Ev.eq (.t .here)) (Ev.eq .i) (wr64 (by omega) (by omega)) rfl) ?_
       refine lv (.plain rfl) rfl rfl (opv_assign rfl (Ev.eq (.t .here))) ?_
       refine awpL_nil ?_
       refine ⟨i + 1, by omega, ⟨by omega, by rw [firstOf_succ hk, hst, show nodeB (.mk kl kr kk) left = true by assumption, decide_eq_true (show firstOf ks i < bt kl 0 by first | (rw [hfo]; omega) | (rw [firstOf, if_pos (by omega)]; omega))]; rfl, fun q _ hq2 => by rw [show i + 1 - 1 = i by omega, hk] at hq2; injection hq2 with hq2; subst hq2; exact nodeB_pos (t := .mk kl kr kk) (left := left) (by simp_all)⟩, weak_both (.ce (.n 1 38 rfl) (by first | rfl | (simp; done) | (simp; omega)) (.ce (.n 2 39 rfl) (by first | rfl | (simp; done) | (simp; omega)) (.ce .here (by first | rfl | (simp; done) | (simp; omega)) .nil))) (List.Sublist.refl _)⟩
     ·
      have q27 := h27
      try simp only [zs, encTries_len, bl_inj] at q27
      refine g_o (listed' := bs 30 8191) 12 rfl (by kernel_rfl) rfl (fun _ => .off rfl rfl .here h27) rfl (kb_cons (.head _) kb_nil) ?_
      refine g_o (listed' := bs 30 16383) 13 rfl (by kernel_rfl) rfl (fun _ => .off rfl rfl (.n 28 1 rfl) h27) rfl (kb_cons (.head _) kb_nil) ?_
      refine g_o (listed' := bs 30 32767) 14 rfl (by kernel_rfl) rfl (fun _ => .off rfl rfl (.n 28 2 rfl) h27) rfl (kb_cons (.head _) kb_nil) ?_
      refine g_o (listed' := bs 30 65535) 15 rfl (by kernel_rfl) rfl (fun _ => .off rfl rfl (.n 28 3 rfl) h27) rfl (kb_cons (.head _) kb_nil) ?_
      refine g_o (listed' := bs 30 131071) 16 rfl (by kernel_rfl) rfl (fun _ => .off rfl rfl (.n 28 4 rfl) h27) rfl (kb_cons (.head _) kb_nil) ?_
      refine g_o (listed' := bs 30 262143) 17 rfl (by kernel_rfl) rfl (fun _ => .off rfl rfl (.n 28 5 rfl) h27) rfl (kb_cons (.head _) kb_nil) ?_
      refine g_o (listed' := bs 30 524287) 18 rfl (by kernel_rfl) rfl (fun _ => .off rfl rfl (.n 28 6 rfl) h27) rfl (kb_cons (.head _) kb_nil) ?_
      refine g_o (listed' := bs 30 1048575) 19 rfl (by kernel_rfl) rfl (fun _ => .off rfl rfl (.n 28 7 rfl) h27) rfl (kb_cons (.head _) kb_nil) ?_
      refine g_o (listed' := bs 30 2097151) 20 rfl (by kernel_rfl) rfl (fun _ => .off rfl rfl (.n 28 8 rfl) h27) rfl (kb_cons (.head _) kb_nil) ?_
      refine g_o (listed' := bs 30 4194303) 21 rfl (by kernel_rfl) rfl (fun _ => .off rfl rfl (.n 28 9 rfl) h27) rfl (kb_cons (.head _) kb_nil) ?_
      refine g_o (listed' := bs 30 8388607) 22 rfl (by kernel_rfl) rfl (fun _ => .off rfl rfl (.n 28 10 rfl) h27) rfl (kb_cons (.head _) kb_nil) ?_
      refine g_o (listed' := bs 30 16777215) 23 rfl (by kernel_rfl) rfl (fun _ => .off rfl rfl (.n 28 11 rfl) h27) rfl (kb_cons (.head _) kb_nil) ?_
      refine g_o (listed' := bs 30 33554431) 24 rfl (by kernel_rfl) rfl (fun _ => .off rfl rfl (.n 28 12 rfl) h27) rfl (kb_cons (.head _) kb_nil) ?_
      refine g_o (listed' := bs 30 67108863) 25 rfl (by kernel_rfl) rfl (fun _ => .off rfl rfl (.n 28 13 rfl) h27) rfl (kb_cons (.head _) kb_nil) ?_
      refine g_o (listed' := bs 30 134217727) 26 rfl (by kernel_rfl) rfl (fun _ => .off rfl rfl (.n 28 14 rfl) h27) rfl (kb_cons (.head _) kb_nil) ?_
      refine g_o (listed' := bs 30 268435455) 27 rfl (by kernel_rfl) rfl (fun _ => .off rfl rfl (.n 28 15 rfl) h27) rfl (kb_cons (.head _) kb_nil) ?_
      refine g_v (listed' := bs 30 536870911) 28 rfl (by kernel_rfl) rfl (fun _ => .on rfl rfl (.n 25 19 rfl) (congrArg not h23)) rfl (fun _ hK => opv_pick_f rfl (Ev.eq (.t (.n 28 16 rfl))) h27 (Ev.eq .b)) (kb_cons (.head _) kb_nil) ?_
      refine g_v (listed' := bs 30 1073741823) 29 rfl (by kernel_rfl) rfl (fun _ => .plain rfl) rfl (fun _ hK => opv_pick_f rfl (Ev.eq (.t (.n 25 20 rfl))) (congrArg not h23) (Ev.eq (.t .here))) (kb_cons (.head _) kb_nil) ?_
      refine g_end (by kernel_rfl) ?_
      refine pcond_f (.t .here) rfl ?_
      refine awp_skip ?_
      refine awp_region ?_
      refine lv (.plain rfl) rfl rfl (opv_move rfl (Ev.eq (.t (.n 5 37 rfl)))) ?_
      refine lv (.plain rfl) rfl rfl (opv_add rfl (Ev.eq (.t .here)) (Ev.eq .i) (wr64 (by omega) (by omega)) rfl) ?_
      refine lv (.plain rfl) rfl rfl (opv_assign rfl (Ev.eq (.t .here))) ?_
      refine awpL_nil ?_
      refine ⟨i + 1, by omega, ⟨by omega, by rw [firstOf_succ hk, hst, show nodeB (.mk kl kr kk) left = true by assumption, decide_eq_true (show firstOf ks i < bt kl 0 by first | (rw [hfo]; omega) | (rw [firstOf, if_pos (by omega)]; omega))]; rfl, fun q _ hq2 => by rw [show i + 1 - 1 = i by omega, hk] at hq2; injection hq2 with hq2; subst hq2; exact nodeB_pos (t := .mk kl kr kk) (left := left) (by simp_all)⟩, weak_both (.ce (.n 1 38 rfl) (by first | rfl | (simp; done) | (simp; omega)) (.ce (.n 2 39 rfl) (by first | rfl | (simp; done) | (simp; omega)) (.ce .here (by first | rfl | (simp; done) | (simp; omega)) .nil))) (List.Sublist.refl _)⟩
    ·
     have q23 := h23
     try simp only [zs, encTries_len, bl_inj] at q23
     refine g_o (listed' := bs 30 1023) 9 rfl (by kernel_rfl) rfl (fun _ => .off rfl rfl .here (congrArg not h23)) rfl (kb_cons (.head _) kb_nil) ?_
     refine g_o (listed' := bs 30 2047) 10 rfl (by kernel_rfl) rfl (fun _ => .off rfl rfl (.n 25 1 rfl) (congrArg not h23)) rfl (kb_cons (.head _) kb_nil) ?_
     refine g_o (listed' := bs 30 4095) 11 rfl (by kernel_rfl) rfl (fun _ => .off rfl rfl (.n 25 2 rfl) (congrArg not h23)) rfl (kb_cons (.head _) kb_nil) ?_
     refine g_o (listed' := bs 30 8191) 12 rfl (by kernel_rfl) rfl (fun _ => .no rfl rfl .here) rfl (kb_cons (.head _) kb_nil) ?_
     refine g_o (listed' := bs 30 16383) 13 rfl (by kernel_rfl) rfl (fun _ => .no rfl rfl (.n 28 1 rfl)) rfl (kb_cons (.head _) kb_nil) ?_
     refine g_o (listed' := bs 30 32767) 14 rfl (by kernel_rfl) rfl (fun _ => .no rfl rfl (.n 28 2 rfl)) rfl (kb_cons (.head _) kb_nil) ?_
     refine g_o (listed' := bs 30 65535) 15 rfl (by kernel_rfl) rfl (fun _ => .no rfl rfl (.n 28 3 rfl)) rfl (kb_cons (.head _) kb_nil) ?_
     refine g_o (listed' := bs 30 131071) 16 rfl (by kernel_rfl) rfl (fun _ => .no rfl rfl (.n 28 4 rfl)) rfl (kb_cons (.head _) kb_nil) ?_
     refine g_o (listed' := bs 30 262143) 17 rfl (by kernel_rfl) rfl (fun _ => .no rfl rfl (.n 28 5 rfl)) rfl (kb_cons (.head _) kb_nil) ?_
     refine g_o (listed' := bs 30 524287) 18 rfl (by kernel_rfl) rfl (fun _ => .no rfl rfl (.n 28 6 rfl)) rfl (kb_cons (.head _) kb_nil) ?_
     refine g_o (listed' := bs 30 1048575) 19 rfl (by kernel_rfl) rfl (fun _ => .no rfl rfl (.n 28 7 rfl)) rfl (kb_cons (.head _) kb_nil) ?_
     refine g_o (listed' := bs 30 2097151) 20 rfl (by kernel_rfl) rfl (fun _ => .no rfl rfl (.n 28 8 rfl)) rfl (kb_cons (.head _) kb_nil) ?_
     refine g_o (listed' := bs 30 4194303) 21 rfl (by kernel_rfl) rfl (fun _ => .no rfl rfl (.n 28 9 rfl)) rfl (kb_cons (.head _) kb_nil) ?_
     refine g_o (listed' := bs 30 8388607) 22 rfl (by kernel_rfl) rfl (fun _ => .no rfl rfl (.n 28 10 rfl)) rfl (kb_cons (.head _) kb_nil) ?_
     refine g_o (listed' := bs 30 16777215) 23 rfl (by kernel_rfl) rfl (fun _ => .no rfl rfl (.n 28 11 rfl)) rfl (kb_cons (.head _) kb_nil) ?_
     refine g_o (listed' := bs 30 33554431) 24 rfl (by kernel_rfl) rfl (fun _ => .no rfl rfl (.n 28 12 rfl)) rfl (kb_cons (.head _) kb_nil) ?_
     refine g_o (listed' := bs 30 67108863) 25 rfl (by kernel_rfl) rfl (fun _ => .no rfl rfl (.n 28 13 rfl)) rfl (kb_cons (.head _) kb_nil) ?_
     refine g_o (listed' := bs 30 134217727) 26 rfl (by kernel_rfl) rfl (fun _ => .no rfl rfl (.n 28 14 rfl)) rfl (kb_cons (.head _) kb_nil) ?_
     refine g_o (listed' := bs 30 268435455) 27 rfl (by kernel_rfl) rfl (fun _ => .no rfl rfl (.n 28 15 rfl)) rfl (kb_cons (.head _) kb_nil) ?_
     refine g_o (listed' := bs 30 536870911) 28 rfl (by kernel_rfl) rfl (fun _ => .off rfl rfl (.n 25 19 rfl) (congrArg not h23)) rfl (kb_cons (.head _) kb_nil) ?_
     refine g_v (listed' := bs 30 1073741823) 29 rfl (by kernel_rfl) rfl (fun _ => .plain rfl) rfl (fun _ hK => opv_pick_t rfl (Ev.eq (.t (.n 25 20 rfl))) (congrArg not h23) (Ev.eq .b)) (kb_cons (.head _) kb_nil) ?_
     refine g_end (by kernel_rfl) ?_
     refine pcond_t (.t .here) rfl ?_
     refine awp_seq ?_
     refine awp_region ?_
     refine lv (.plain rfl) rfl rfl (opv_assign rfl (Ev.eq .b)) ?_
     refine awpL_nil ?_
     refine awp_ret ?_
     refine ret_now (.one (rv_t .here)) (Cast.all _ _) ?_
     refine ⟨congrArg (fun x => AV.d (D.b x)) ?_, rfl⟩
     rw [hst]
     simp_all [firstOf] <;> omega
   ·
    have q14 := h14
    try simp only [zs, encTries_len, bl_inj] at q14
    refine pcond_f (.t .here) h14 ?_
    refine awp_exit ?_
    refine awp_seq ?_
    refine awp_region ?_
    refine lv (.plain rfl) rfl rfl (opv_assign rfl (Ev.eq .b)) ?_
    refine awpL_nil ?_
    refine awp_ret ?_
    refine ret_now (.one (rv_t .here)) (Cast.all _ _) ?_
    refine ⟨congrArg (fun x => AV.d (D.b x)) ?_, rfl⟩
    obtain rfl : i = ks.length := by omega
    rw [List.drop_length, kidsB] at hEQ
    rw [← hEQ]
theorem f35_spec (t : Trie) : FSpec Tryd.prog 35 [aTrie t] (.d (.b (rightB t))) := by
  obtain ⟨l, r, ks⟩ := t
  simp only [aTrie, Trie.label, Trie.rows, Trie.kids]
  refine acalls_of Tryd.func35 rfl Tryd.ntmps35 Tryd.results35 (by simp) ?_
  refine awp_seq ?_
  refine awp_region ?_
  refine l_box (.plain rfl) rfl rfl rfl (.t .here) rfl rfl (fun g1 ng1 => ?_)
  refine lv (.plain rfl) rfl rfl (opv_assign rfl (Ev.eq .b)) ?_
  refine awpL_nil ?_
  refine awp_seq ?_
  refine awp_region ?_
  refine lv (.plain rfl) rfl rfl (p_field (fldT25_0) rfl (Ev.eq (.t (.n 1 1 rfl))) (off' := 0) rfl) ?_
  refine lv (.plain rfl) rfl rfl (q_load1 (scT9) rfl (Ev.eq (.t .here)) .here .here) ?_
  refine lv (.plain rfl) rfl rfl (opv_eql_s rfl (Ev.eq (.t .here)) (Ev.eq .s) rfl) ?_
  refine lv (.plain rfl) rfl rfl (opv_move rfl (Ev.eq (.t .here))) ?_
  refine lsplit (.n 5 1 rfl) (fun h5 => ?_) (fun h5 => ?_)
  ·
   have q5 := h5
   try simp only [zs, List.length_map, bl_inj] at q5
   refine lv (.on rfl rfl .here h5) rfl rfl (p_field (fldT25_1) rfl (Ev.eq (.t (.n 1 5 rfl))) (off' := 1) rfl) ?_
   refine lv (.on rfl rfl (.n 6 1 rfl) h5) rfl rfl (q_load1 (scT22) rfl (Ev.eq (.t .here)) .here (.there .here)) ?_
   refine lv (.on rfl rfl (.n 6 2 rfl) h5) rfl rfl (opv_len_sl Tryd.underlying22 rfl (Ev.eq (.t .here)) rfl) ?_
   refine lv (.on rfl rfl (.n 6 3 rfl) h5) rfl rfl (opv_eql_i rfl (Ev.eq (.t .here)) (Ev.eq .i) rfl) ?_
   refine lv (.plain rfl) rfl rfl (opv_pick_t rfl (Ev.eq (.t (.n 6 4 rfl))) h5 (Ev.eq (.t .here))) ?_
   refine lv (.plain rfl) rfl rfl (opv_move rfl (Ev.eq (.t .here))) ?_
   refine lsplit (.n 10 2 rfl) (fun h10 => ?_) (fun h10 => ?_)
   ·
    have q10 := h10
    try simp only [zs, List.length_map, bl_inj] at q10
    refine lv (.on rfl rfl .here h10) rfl rfl (q_loadn (agT25) rfl (Ev.eq (.t (.n 1 11 rfl))) .here rfl) ?_
    refine lv (.on rfl rfl (.n 12 1 rfl) h10) rfl rfl (q_call rfl .f Tryd.call74 (.cons (.t .here) (.cons .i .nil)) rfl (f74_ind (.mk l r ks) _ ⟨by omega, by omega⟩)) ?_
    refine lv (.plain rfl) rfl rfl (opv_pick_t rfl (Ev.eq (.t (.n 12 2 rfl))) h10 (Ev.eq (.t .here))) ?_
    refine lv (.plain rfl) rfl rfl (opv_assign rfl (Ev.eq (.t .here))) ?_
    refine awpL_nil ?_
    refine awp_ret ?_
    refine ret_now (.one (rv_t .here)) (Cast.all _ _) ?_
    refine ⟨congrArg (fun x => AV.d (D.b x)) ?_, rfl⟩
    cases r <;> simp_all [rightB, Trie.label, Trie.rows, Trie.kids, bl_inj]
    try omega
   ·
    have q10 := h10
    try simp only [zs, List.length_map, bl_inj] at q10
    refine lo (.off rfl rfl .here h10) rfl rfl ?_
    refine lo (.off rfl rfl (.n 12 1 rfl) h10) rfl rfl ?_
    refine lv (.plain rfl) rfl rfl (opv_pick_f rfl (Ev.eq (.t (.n 12 2 rfl))) h10 (Ev.eq .b)) ?_
    refine lv (.plain rfl) rfl rfl (opv_assign rfl (Ev.eq (.t .here))) ?_
    refine awpL_nil ?_
    refine awp_ret ?_
    refine ret_now (.one (rv_t .here)) (Cast.all _ _) ?_
    refine ⟨congrArg (fun x => AV.d (D.b x)) ?_, rfl⟩
    cases r <;> simp_all [rightB, Trie.label, Trie.rows, Trie.kids, bl_inj]
    try omega
  ·
   have q5 := h5
   try simp only [zs, List.length_map, bl_inj] at q5
   refine lo (.off rfl rfl .here h5) rfl rfl ?_
   refine lo (.off rfl rfl (.n 6 1 rfl) h5) rfl rfl ?_
   refine lo (.off rfl rfl (.n 6 2 rfl) h5) rfl rfl ?_
   refine lo (.off rfl rfl (.n 6 3 rfl) h5) rfl rfl ?_
   refine lv (.plain rfl) rfl rfl (opv_pick_f rfl (Ev.eq (.t (.n 6 4 rfl))) h5 (Ev.eq .b)) ?_
   refine lv (.plain rfl) rfl rfl (opv_move rfl (Ev.eq (.t .here))) ?_
   refine lo (.off rfl rfl .here rfl) rfl rfl ?_
   refine lo (.off rfl rfl (.n 12 1 rfl) rfl) rfl rfl ?_
   refine lv (.plain rfl) rfl rfl (opv_pick_f rfl (Ev.eq (.t (.n 12 2 rfl))) rfl (Ev.eq .b)) ?_
   refine lv (.plain rfl) rfl rfl (opv_assign rfl (Ev.eq (.t .here))) ?_
   refine awpL_nil ?_
   refine awp_ret ?_
   refine ret_now (.one (rv_t .here)) (Cast.all _ _) ?_
   refine ⟨congrArg (fun x => AV.d (D.b x)) ?_, rfl⟩
   cases r <;> simp_all [rightB, Trie.label, Trie.rows, Trie.kids, bl_inj]
   try omega
end Go.Proofs.YtjnkbmodcddbkaaDoor
