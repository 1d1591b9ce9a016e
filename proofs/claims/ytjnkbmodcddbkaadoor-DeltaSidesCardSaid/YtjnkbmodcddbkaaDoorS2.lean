/- Comparisons. -/
import Derived.Test.YtjnkbmodcddbkaaDoorTy
import Derived.Test.YtjnkbmodcddbkaaDoorDat
set_option linter.unusedVariables false
set_option linter.unusedSimpArgs false
namespace Go.Proofs.YtjnkbmodcddbkaaDoor
open Go Go.RowKit
theorem f13_spec (l m : List ByteArray) : FSpec Tryd.prog 13 [.d (dStrs l), .d (dStrs m)] (.d (.b (decide (l = m)))) := by
  refine acalls_of Tryd.func13 rfl Tryd.ntmps13 Tryd.results13 (by simp) ?_
  refine wlen .here (fun hlen => ?_)
  simp only [List.length_map] at hlen
  refine awp_seq ?_
  refine awp_region ?_
  refine lv (.plain rfl) rfl rfl (opv_assign rfl (Ev.eq .b)) ?_
  refine awpL_nil ?_
  refine awp_seq ?_
  refine awp_seq ?_
  refine awp_region ?_
  refine lv (.plain rfl) rfl rfl (opv_move rfl (Ev.eq (.t (.n 0 1 rfl)))) ?_
  refine lv (.plain rfl) rfl rfl (opv_len_sl Tryd.underlying28 rfl (Ev.eq (.t .here)) rfl) ?_
  refine lv (.plain rfl) rfl rfl (opv_move rfl (Ev.eq (.t (.n 1 4 rfl)))) ?_
  refine lv (.plain rfl) rfl rfl (opv_len_sl Tryd.underlying28 rfl (Ev.eq (.t .here)) rfl) ?_
  refine lv (.plain rfl) rfl rfl (opv_neq_i rfl (Ev.eq (.t (.n 7 2 rfl))) (Ev.eq (.t .here)) rfl) ?_
  refine awpL_nil ?_
  refine psplit .here (fun h10 => ?_) (fun h10 => ?_)
  ·
   have q10 := h10
   try simp only [zs, List.length_map] at q10
   refine pcond_t (.t .here) h10 ?_
   refine awp_seq ?_
   refine awp_region ?_
   refine lv (.plain rfl) rfl rfl (opv_assign rfl (Ev.eq .b)) ?_
   refine awpL_nil ?_
   refine awp_ret ?_
   refine ret_now (.one (rv_t .here)) (Cast.all _ _) ?_
   refine ⟨?_, rfl⟩
   have : l ≠ m := fun e => by subst e; omega
   simp [this]
  ·
   have q10 := h10
   try simp only [zs, List.length_map] at q10
   refine pcond_f (.t .here) h10 ?_
   refine awp_skip ?_
   refine awp_seq ?_
   refine awp_seq ?_
   refine awp_region ?_
   refine lv (.plain rfl) rfl rfl (opv_assign rfl (Ev.eq .i)) ?_
   refine awpL_nil ?_
   refine awp_block ?_
   refine ploop (fun (i : Nat) => ⟨26, [(0, .d (dStrs l)), (1, .d (dStrs m)), (5, .d (.i .i64 (i : Int)))], [], []⟩) (fun i => i ≤ l.length ∧ l.take i = m.take i) (fun i => l.length - i) (0) (weak_both (.ce (.n 0 7 rfl) (by first | rfl | (simp; done) | (simp; omega)) (.ce (.n 1 8 rfl) (by first | rfl | (simp; done) | (simp; omega)) (.ce .here (by first | rfl | (simp; done) | (simp; omega)) .nil))) (List.Sublist.refl _)) (by simp) ?_
   rintro i ⟨hi, heq⟩
   refine awp_seq ?_
   refine awp_seq ?_
   refine awp_region ?_
   refine lv (.plain rfl) rfl rfl (opv_move rfl (Ev.eq (.t (.n 5 2 rfl)))) ?_
   refine lv (.plain rfl) rfl rfl (opv_move rfl (Ev.eq (.t (.n 0 1 rfl)))) ?_
   refine lv (.plain rfl) rfl rfl (opv_len_sl Tryd.underlying28 rfl (Ev.eq (.t .here)) rfl) ?_
   refine lv (.plain rfl) rfl rfl (opv_lss rfl (Ev.eq (.t (.n 11 2 rfl))) (Ev.eq (.t .here)) rfl) ?_
   refine awpL_nil ?_
   refine psplit .here (fun h14 => ?_) (fun h14 => ?_)
   ·
    have q14 := h14
    try simp only [zs, List.length_map] at q14
    refine pcond_t (.t .here) h14 ?_
    refine awp_skip ?_
    refine awp_seq ?_
    refine awp_block ?_
    refine awp_seq ?_
    refine g_draw mixed kb_nil (by kernel_rfl) (fuel := 9) rfl rfl ?_
    refine g_v (listed' := bs 9 1) 0 rfl (by kernel_rfl) rfl (fun _ => .plain rfl) rfl (fun _ hK => opv_move rfl (Ev.eq (.t (.n 0 4 rfl)))) kb_nil ?_
    refine g_v (listed' := bs 9 3) 1 rfl (by kernel_rfl) rfl (fun _ => .plain rfl) rfl (fun _ hK => opv_move rfl (Ev.eq (.t (.n 5 7 rfl)))) kb_nil ?_
    obtain ⟨ra, hk⟩ := some_at (l := l) (i := i) (by omega)
    obtain ⟨rb, hk2⟩ := some_at (l := m) (i := i) (by omega)
    refine g_v (listed' := bs 9 7) 2 rfl (by kernel_rfl) rfl (fun _ => .plain rfl) rfl (fun _ hK => p_index (slT28) rfl (Ev.eq (.t (.n 17 1 rfl))) (Ev.eq (.t .here)) (by omega) (map_at hk) rfl) kb_nil ?_
    refine g_v (listed' := bs 9 15) 3 rfl (by kernel_rfl) rfl (fun _ => .plain rfl) rfl (fun _ hK => p_load1f (scT9) rfl (Ev.eq (.t .here))) kb_nil ?_
    refine g_v (listed' := bs 9 31) 4 rfl (by kernel_rfl) rfl (fun _ => .plain rfl) rfl (fun _ hK => opv_move rfl (Ev.eq (.t (.n 1 9 rfl)))) kb_nil ?_
    refine g_v (listed' := bs 9 63) 5 rfl (by kernel_rfl) rfl (fun _ => .plain rfl) rfl (fun _ hK => opv_move rfl (Ev.eq (.t (.n 5 11 rfl)))) kb_nil ?_
    refine g_v (listed' := bs 9 127) 6 rfl (by kernel_rfl) rfl (fun _ => .plain rfl) rfl (fun _ hK => p_index (slT28) rfl (Ev.eq (.t (.n 21 1 rfl))) (Ev.eq (.t .here)) (by omega) (map_at hk2) rfl) kb_nil ?_
    refine g_v (listed' := bs 9 255) 7 rfl (by kernel_rfl) rfl (fun _ => .plain rfl) rfl (fun _ hK => p_load1f (scT9) rfl (Ev.eq (.t .here))) kb_nil ?_
    refine g_v (listed' := bs 9 511) 8 rfl (by kernel_rfl) rfl (fun _ => .plain rfl) rfl (fun _ hK => opv_neq_s rfl (Ev.eq (.t (.n 20 4 rfl))) (Ev.eq (.t .here)) rfl) kb_nil ?_
    refine g_end (by kernel_rfl) ?_
    refine psplit .here (fun h25 => ?_) (fun h25 => ?_)
    ·
     have q25 := h25
     try simp only [zs, List.length_map] at q25
     refine pcond_t (.t .here) h25 ?_
     refine awp_seq ?_
     refine awp_region ?_
     refine lv (.plain rfl) rfl rfl (opv_assign rfl (Ev.eq .b)) ?_
     refine awpL_nil ?_
     refine awp_ret ?_
     refine ret_now (.one (rv_t .here)) (Cast.all _ _) ?_
     have e : l ≠ m := ne_at hk hk2 (by simpa [bl_inj] using q25)
     refine ⟨?_, rfl⟩
     simp [e]
    ·
     have q25 := h25
     try simp only [zs, List.length_map] at q25
     refine pcond_f (.t .here) h25 ?_
     refine awp_skip ?_
     refine awp_region ?_
     refine lv (.plain rfl) rfl rfl (opv_move rfl (Ev.eq (.t (.n 5 15 rfl)))) ?_
     refine lv (.plain rfl) rfl rfl (opv_add rfl (Ev.eq (.t .here)) (Ev.eq .i) (wr64 (by omega) (by omega)) rfl) ?_
     refine lv (.plain rfl) rfl rfl (opv_assign rfl (Ev.eq (.t .here))) ?_
     refine awpL_nil ?_
     refine ⟨i + 1, by omega, ⟨by omega, take_eq_step hk (by rw [hk2]; exact congrArg some (Eq.symm (by simpa [bl_inj] using q25))) heq⟩, weak_both (.ce (.n 0 16 rfl) (by first | rfl | (simp; done) | (simp; omega)) (.ce (.n 1 17 rfl) (by first | rfl | (simp; done) | (simp; omega)) (.ce .here (by first | rfl | (simp; done) | (simp; omega)) .nil))) (List.Sublist.refl _)⟩
   ·
    have q14 := h14
    try simp only [zs, List.length_map] at q14
    refine pcond_f (.t .here) h14 ?_
    refine awp_exit ?_
    refine awp_seq ?_
    refine awp_region ?_
    refine lv (.plain rfl) rfl rfl (opv_assign rfl (Ev.eq .b)) ?_
    refine awpL_nil ?_
    refine awp_ret ?_
    refine ret_now (.one (rv_t .here)) (Cast.all _ _) ?_
    have e : l = m := take_full (by omega) (by omega) heq
    refine ⟨?_, rfl⟩
    simp [e]
theorem f26_spec (l m : List Row) : FSpec Tryd.prog 26 [.d (dRows l), .d (dRows m)] (.d (.b (decide (l = m)))) := by
  refine acalls_of Tryd.func26 rfl Tryd.ntmps26 Tryd.results26 (by simp) ?_
  refine wlen .here (fun hlen => ?_)
  simp only [List.length_map] at hlen
  refine awp_seq ?_
  refine awp_region ?_
  refine lv (.plain rfl) rfl rfl (opv_assign rfl (Ev.eq .b)) ?_
  refine awpL_nil ?_
  refine awp_seq ?_
  refine awp_seq ?_
  refine awp_region ?_
  refine lv (.plain rfl) rfl rfl (opv_move rfl (Ev.eq (.t (.n 0 1 rfl)))) ?_
  refine lv (.plain rfl) rfl rfl (opv_len_sl Tryd.underlying22 rfl (Ev.eq (.t .here)) rfl) ?_
  refine lv (.plain rfl) rfl rfl (opv_move rfl (Ev.eq (.t (.n 1 4 rfl)))) ?_
  refine lv (.plain rfl) rfl rfl (opv_len_sl Tryd.underlying22 rfl (Ev.eq (.t .here)) rfl) ?_
  refine lv (.plain rfl) rfl rfl (opv_neq_i rfl (Ev.eq (.t (.n 7 2 rfl))) (Ev.eq (.t .here)) rfl) ?_
  refine awpL_nil ?_
  refine psplit .here (fun h10 => ?_) (fun h10 => ?_)
  ·
   have q10 := h10
   try simp only [zs, List.length_map] at q10
   refine pcond_t (.t .here) h10 ?_
   refine awp_seq ?_
   refine awp_region ?_
   refine lv (.plain rfl) rfl rfl (opv_assign rfl (Ev.eq .b)) ?_
   refine awpL_nil ?_
   refine awp_ret ?_
   refine ret_now (.one (rv_t .here)) (Cast.all _ _) ?_
   refine ⟨?_, rfl⟩
   have : l ≠ m := fun e => by subst e; omega
   simp [this]
  ·
   have q10 := h10
   try simp only [zs, List.length_map] at q10
   refine pcond_f (.t .here) h10 ?_
   refine awp_skip ?_
   refine awp_seq ?_
   refine awp_seq ?_
   refine awp_region ?_
   refine lv (.plain rfl) rfl rfl (opv_assign rfl (Ev.eq .i)) ?_
   refine awpL_nil ?_
   refine awp_block ?_
   refine ploop (fun (i : Nat) => ⟨26, [(0, .d (dRows l)), (1, .d (dRows m)), (5, .d (.i .i64 (i : Int)))], [], []⟩) (fun i => i ≤ l.length ∧ l.take i = m.take i) (fun i => l.length - i) (0) (weak_both (.ce (.n 0 7 rfl) (by first | rfl | (simp; done) | (simp; omega)) (.ce (.n 1 8 rfl) (by first | rfl | (simp; done) | (simp; omega)) (.ce .here (by first | rfl | (simp; done) | (simp; omega)) .nil))) (List.Sublist.refl _)) (by simp) ?_
   rintro i ⟨hi, heq⟩
   refine awp_seq ?_
   refine awp_seq ?_
   refine awp_region ?_
   refine lv (.plain rfl) rfl rfl (opv_move rfl (Ev.eq (.t (.n 5 2 rfl)))) ?_
   refine lv (.plain rfl) rfl rfl (opv_move rfl (Ev.eq (.t (.n 0 1 rfl)))) ?_
   refine lv (.plain rfl) rfl rfl (opv_len_sl Tryd.underlying22 rfl (Ev.eq (.t .here)) rfl) ?_
   refine lv (.plain rfl) rfl rfl (opv_lss rfl (Ev.eq (.t (.n 11 2 rfl))) (Ev.eq (.t .here)) rfl) ?_
   refine awpL_nil ?_
   refine psplit .here (fun h14 => ?_) (fun h14 => ?_)
   ·
    have q14 := h14
    try simp only [zs, List.length_map] at q14
    refine pcond_t (.t .here) h14 ?_
    refine awp_skip ?_
    refine awp_seq ?_
    refine awp_block ?_
    refine awp_seq ?_
    refine g_draw mixed kb_nil (by kernel_rfl) (fuel := 9) rfl rfl ?_
    refine g_v (listed' := bs 9 1) 0 rfl (by kernel_rfl) rfl (fun _ => .plain rfl) rfl (fun _ hK => opv_move rfl (Ev.eq (.t (.n 0 4 rfl)))) kb_nil ?_
    refine g_v (listed' := bs 9 3) 1 rfl (by kernel_rfl) rfl (fun _ => .plain rfl) rfl (fun _ hK => opv_move rfl (Ev.eq (.t (.n 5 7 rfl)))) kb_nil ?_
    obtain ⟨ra, hk⟩ := some_at (l := l) (i := i) (by omega)
    obtain ⟨rb, hk2⟩ := some_at (l := m) (i := i) (by omega)
    refine g_v (listed' := bs 9 7) 2 rfl (by kernel_rfl) rfl (fun _ => .plain rfl) rfl (fun _ hK => p_index (slT22) rfl (Ev.eq (.t (.n 17 1 rfl))) (Ev.eq (.t .here)) (by omega) (map_at hk) rfl) kb_nil ?_
    refine g_v (listed' := bs 9 15) 3 rfl (by kernel_rfl) rfl (fun _ => .plain rfl) rfl (fun _ hK => p_loadnf (agT49) rfl (Ev.eq (.t .here)) (Nat.le_of_ble_eq_true rfl) rfl) kb_nil ?_
    refine g_v (listed' := bs 9 31) 4 rfl (by kernel_rfl) rfl (fun _ => .plain rfl) rfl (fun _ hK => opv_move rfl (Ev.eq (.t (.n 1 9 rfl)))) kb_nil ?_
    refine g_v (listed' := bs 9 63) 5 rfl (by kernel_rfl) rfl (fun _ => .plain rfl) rfl (fun _ hK => opv_move rfl (Ev.eq (.t (.n 5 11 rfl)))) kb_nil ?_
    refine g_v (listed' := bs 9 127) 6 rfl (by kernel_rfl) rfl (fun _ => .plain rfl) rfl (fun _ hK => p_index (slT22) rfl (Ev.eq (.t (.n 21 1 rfl))) (Ev.eq (.t .here)) (by omega) (map_at hk2) rfl) kb_nil ?_
    refine g_v (listed' := bs 9 255) 7 rfl (by kernel_rfl) rfl (fun _ => .plain rfl) rfl (fun _ hK => p_loadnf (agT49) rfl (Ev.eq (.t .here)) (Nat.le_of_ble_eq_true rfl) rfl) kb_nil ?_
    refine g_v (listed' := bs 9 511) 8 rfl (by kernel_rfl) rfl (fun _ => .plain rfl) rfl (fun _ hK => vne49 rfl (Ev.eq (.t (.n 20 4 rfl))) (Ev.eq (.t .here)) rfl) kb_nil ?_
    refine g_end (by kernel_rfl) ?_
    refine psplit .here (fun h25 => ?_) (fun h25 => ?_)
    ·
     have q25 := h25
     try simp only [zs, List.length_map] at q25
     refine pcond_t (.t .here) h25 ?_
     refine awp_seq ?_
     refine awp_region ?_
     refine lv (.plain rfl) rfl rfl (opv_assign rfl (Ev.eq .b)) ?_
     refine awpL_nil ?_
     refine awp_ret ?_
     refine ret_now (.one (rv_t .here)) (Cast.all _ _) ?_
     have e : l ≠ m := ne_at hk hk2 (by simpa [row_eq] using q25)
     refine ⟨?_, rfl⟩
     simp [e]
    ·
     have q25 := h25
     try simp only [zs, List.length_map] at q25
     refine pcond_f (.t .here) h25 ?_
     refine awp_skip ?_
     refine awp_region ?_
     refine lv (.plain rfl) rfl rfl (opv_move rfl (Ev.eq (.t (.n 5 15 rfl)))) ?_
     refine lv (.plain rfl) rfl rfl (opv_add rfl (Ev.eq (.t .here)) (Ev.eq .i) (wr64 (by omega) (by omega)) rfl) ?_
     refine lv (.plain rfl) rfl rfl (opv_assign rfl (Ev.eq (.t .here))) ?_
     refine awpL_nil ?_
     refine ⟨i + 1, by omega, ⟨by omega, take_eq_step hk (by rw [hk2]; exact congrArg some (Eq.symm (by simpa [row_eq] using q25))) heq⟩, weak_both (.ce (.n 0 16 rfl) (by first | rfl | (simp; done) | (simp; omega)) (.ce (.n 1 17 rfl) (by first | rfl | (simp; done) | (simp; omega)) (.ce .here (by first | rfl | (simp; done) | (simp; omega)) .nil))) (List.Sublist.refl _)⟩
   ·
    have q14 := h14
    try simp only [zs, List.length_map] at q14
    refine pcond_f (.t .here) h14 ?_
    refine awp_exit ?_
    refine awp_seq ?_
    refine awp_region ?_
    refine lv (.plain rfl) rfl rfl (opv_assign rfl (Ev.eq .b)) ?_
    refine awpL_nil ?_
    refine awp_ret ?_
    refine ret_now (.one (rv_t .here)) (Cast.all _ _) ?_
    have e : l = m := take_full (by omega) (by omega) heq
    refine ⟨?_, rfl⟩
    simp [e]
end Go.Proofs.YtjnkbmodcddbkaaDoor
