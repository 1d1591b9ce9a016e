/- Sides. -/
import Derived.Test.YtjnkbmodcddbkaaDoorTy
import Derived.Test.YtjnkbmodcddbkaaDoorS11
import Derived.Test.YtjnkbmodcddbkaaDoorAw12
import Derived.Test.YtjnkbmodcddbkaaDoorS6
set_option linter.unusedVariables false
set_option linter.unusedSimpArgs false
namespace Go.Proofs.YtjnkbmodcddbkaaDoor
open Go Go.RowKit
theorem f59_spec (l m : List Row) : FSpec Tryd.prog 59 [.d (dRows l), .d (dRows m)] (.d (.b (decide (l = m)))) := by
  refine acalls_of Tryd.func59 rfl Tryd.ntmps59 Tryd.results59 (by simp) ?_
  refine wlen .here (fun hlen => ?_)
  simp only [List.length_map] at hlen
  refine awp_seq ?_
  refine awp_region ?_
  refine lv (.plain rfl) rfl rfl (opv_assign rfl (Ev.eq .b)) ?_
  refine awpL_nil ?_
  refine awp_seq ?_
  refine awp_seq ?_
  refine awp_region ?_
  refine lv (.plain rfl) rfl rfl (opv_move rfl (Ev.eq (.t (.n 0 1 rfl)))) ?_
  refine lv (.plain rfl) rfl rfl (opv_len_sl Tryd.underlying22 rfl (Ev.eq (.t .here)) rfl) ?_
  refine lv (.plain rfl) rfl rfl (opv_move rfl (Ev.eq (.t (.n 1 4 rfl)))) ?_
  refine lv (.plain rfl) rfl rfl (opv_len_sl Tryd.underlying22 rfl (Ev.eq (.t .here)) rfl) ?_
  refine lv (.plain rfl) rfl rfl (opv_neq_i rfl (Ev.eq (.t (.n 7 2 rfl))) (Ev.eq (.t .here)) rfl) ?_
  refine awpL_nil ?_
  refine psplit .here (fun h10 => ?_) (fun h10 => ?_)
  ·
   have q10 := h10
   try simp only [zs, List.length_map] at q10
   refine pcond_t (.t .here) h10 ?_
   refine awp_seq ?_
   refine awp_region ?_
   refine lv (.plain rfl) rfl rfl (opv_assign rfl (Ev.eq .b)) ?_
   refine awpL_nil ?_
   refine awp_ret ?_
   refine ret_now (.one (rv_t .here)) (Cast.all _ _) ?_
   refine ⟨congrArg (fun x => AV.d (D.b x)) ?_, rfl⟩
   exact (decide_eq_false (fun e => q10 (by rw [e]))).symm
  ·
   have q10 := h10
   try simp only [zs, List.length_map] at q10
   refine pcond_f (.t .here) h10 ?_
   refine awp_skip ?_
   refine awp_seq ?_
   refine awp_seq ?_
   refine awp_region ?_
   refine lv (.plain rfl) rfl rfl (opv_move rfl (Ev.eq (.t (.n 0 6 rfl)))) ?_
   refine lv (.plain rfl) rfl rfl (opv_len_sl Tryd.underlying22 rfl (Ev.eq (.t .here)) rfl) ?_
   refine lv (.plain rfl) rfl rfl (opv_move rfl (Ev.eq .i)) ?_
   refine awpL_nil ?_
   refine awp_block ?_
   have hll : l.length = m.length := by omega
   refine ploop (fun (i : Nat) => ⟨26, [(0, .d (dRows l)), (1, .d (dRows m)), (12, .d (.i .i64 (l.length : Int))), (13, .d (.i .i64 (i : Int)))], [], []⟩) (fun i => i ≤ l.length ∧ l.take i = m.take i) (fun i => l.length - i) (0) (weak_both (.ce (.n 0 9 rfl) (by first | rfl | (simp; done) | (simp; omega)) (.ce (.n 1 10 rfl) (by first | rfl | (simp; done) | (simp; omega)) (.ce (.n 12 1 rfl) (by first | rfl | (simp; done) | (simp; omega)) (.ce .here (by first | rfl | (simp; done) | (simp; omega)) .nil)))) (List.Sublist.refl _)) (⟨by omega, rfl⟩) ?_
   rintro i ⟨hi, hEQ⟩
   refine awp_seq ?_
   refine awp_region ?_
   refine lv (.plain rfl) rfl rfl (opv_lss rfl (Ev.eq (.t (.n 13 3 rfl))) (Ev.eq (.t (.n 12 2 rfl))) rfl) ?_
   refine awpL_nil ?_
   refine awp_seq ?_
   refine psplit .here (fun h14 => ?_) (fun h14 => ?_)
   ·
    have q14 := h14
    try simp only [zs, List.length_map] at q14
    refine pcond_t (.t .here) h14 ?_
    refine awp_skip ?_
    refine awp_seq ?_
    refine awp_block ?_
    refine awp_seq ?_
    refine awp_region ?_
    refine lv (.plain rfl) rfl rfl (opv_move rfl (Ev.eq (.t (.n 13 4 rfl)))) ?_
    refine lv (.plain rfl) rfl rfl (opv_assign rfl (Ev.eq (.t .here))) ?_
    refine awpL_nil ?_
    refine awp_seq ?_
    refine g_draw mixed kb_nil (by kernel_rfl) (fuel := 9) rfl rfl ?_
    refine g_v (listed' := bs 9 1) 0 rfl (by kernel_rfl) rfl (fun _ => .plain rfl) rfl (fun _ hK => opv_move rfl (Ev.eq (.t (.n 0 3 rfl)))) kb_nil ?_
    refine g_v (listed' := bs 9 3) 1 rfl (by kernel_rfl) rfl (fun _ => .plain rfl) rfl (fun _ hK => opv_move rfl (Ev.eq (.t (.n 5 1 rfl)))) kb_nil ?_
    obtain ⟨x, hx⟩ := some_at (l := l) (i := i) (by omega)
    obtain ⟨y, hy⟩ := some_at (l := m) (i := i) (by omega)
    obtain ⟨x1, x2, x3, x4, x5⟩ := x
    obtain ⟨y1, y2, y3, y4, y5⟩ := y
    refine g_v (listed' := bs 9 7) 2 rfl (by kernel_rfl) rfl (fun _ => .plain rfl) rfl (fun _ hK => p_index (slT22) rfl (Ev.eq (.t (.n 16 1 rfl))) (Ev.eq (.t .here)) (by omega) (by first | assumption | exact map_at (by assumption) | exact encTries_at (by assumption)) rfl) kb_nil ?_
    refine g_v (listed' := bs 9 15) 3 rfl (by kernel_rfl) rfl (fun _ => .plain rfl) rfl (fun _ hK => p_loadnf (agT49) rfl (Ev.eq (.t .here)) (Nat.le_of_ble_eq_true rfl) rfl) kb_nil ?_
    refine g_v (listed' := bs 9 31) 4 rfl (by kernel_rfl) rfl (fun _ => .plain rfl) rfl (fun _ hK => opv_move rfl (Ev.eq (.t (.n 1 8 rfl)))) kb_nil ?_
    refine g_v (listed' := bs 9 63) 5 rfl (by kernel_rfl) rfl (fun _ => .plain rfl) rfl (fun _ hK => opv_move rfl (Ev.eq (.t (.n 5 5 rfl)))) kb_nil ?_
    refine g_v (listed' := bs 9 127) 6 rfl (by kernel_rfl) rfl (fun _ => .plain rfl) rfl (fun _ hK => p_index (slT22) rfl (Ev.eq (.t (.n 20 1 rfl))) (Ev.eq (.t .here)) (by omega) (by first | assumption | exact map_at (by assumption) | exact encTries_at (by assumption)) rfl) kb_nil ?_
    refine g_v (listed' := bs 9 255) 7 rfl (by kernel_rfl) rfl (fun _ => .plain rfl) rfl (fun _ hK => p_loadnf (agT49) rfl (Ev.eq (.t .here)) (Nat.le_of_ble_eq_true rfl) rfl) kb_nil ?_
    refine g_v (listed' := bs 9 511) 8 rfl (by kernel_rfl) rfl (fun _ => .plain rfl) rfl (fun _ hK => vne49 rfl (Ev.eq (.t (.n 19 4 rfl))) (Ev.eq (.t .here)) rfl) kb_nil ?_
    refine g_end (by kernel_rfl) ?_
    refine psplit .here (fun h24 => ?_) (fun h24 => ?_)
    ·
     have q24 := h24
     try simp only [zs, List.length_map] at q24
     refine pcond_t (.t .here) h24 ?_
     refine awp_seq ?_
     refine awp_region ?_
     refine lv (.plain rfl) rfl rfl (opv_assign rfl (Ev.eq .b)) ?_
     refine awpL_nil ?_
     refine awp_ret ?_
     refine ret_now (.one (rv_t .here)) (Cast.all _ _) ?_
     refine ⟨congrArg (fun x => AV.d (D.b x)) ?_, rfl⟩
     exact (decide_eq_false (ne_at hx hy (fun e => q24 (row_eq.2 e)))).symm
    ·
     have q24 := h24
     try simp only [zs, List.length_map] at q24
     refine pcond_f (.t .here) h24 ?_
     refine awp_skip ?_
     refine awp_region ?_
     refine lv (.plain rfl) rfl rfl (opv_add rfl (Ev.eq (.t (.n 13 15 rfl))) (Ev.eq .i) (wr64 (by omega) (by omega)) rfl) ?_
     refine lv (.plain rfl) rfl rfl (opv_move rfl (Ev.eq (.t .here))) ?_
     refine awpL_nil ?_
     refine ⟨i + 1, by omega, ⟨by omega, take_eq_step hx (by have hxy : (⟨x1, x2, ⟨x3, x4, x5⟩⟩ : Row) = ⟨y1, y2, ⟨y3, y4, y5⟩⟩ := row_eq.1 q24; rw [hxy]; exact hy) hEQ⟩, weak_both (.ce (.n 0 14 rfl) (by first | rfl | (simp; done) | (simp; omega)) (.ce (.n 1 15 rfl) (by first | rfl | (simp; done) | (simp; omega)) (.ce (.n 12 16 rfl) (by first | rfl | (simp; done) | (simp; omega)) (.ce .here (by first | rfl | (simp; done) | (simp; omega)) .nil)))) (List.Sublist.refl _)⟩
   ·
    have q14 := h14
    try simp only [zs, List.length_map] at q14
    refine pcond_f (.t .here) h14 ?_
    refine awp_exit ?_
    refine awp_seq ?_
    refine awp_region ?_
    refine lv (.plain rfl) rfl rfl (opv_assign rfl (Ev.eq .b)) ?_
    refine awpL_nil ?_
    refine awp_ret ?_
    refine ret_now (.one (rv_t .here)) (Cast.all _ _) ?_
    refine ⟨congrArg (fun x => AV.d (D.b x)) ?_, rfl⟩
    exact (decide_eq_true (take_full hll (by omega) hEQ)).symm
theorem f73_12 (p : ByteArray) (a b c : List Row) : FSpec Tryd.prog 73 [.d (.i .i64 1), .d (.i .i64 2), .fptr [.s p, dRows a, dRows b, dRows c]] (.d (.b (decide (b = c)))) := by
  refine acalls_of Tryd.func73 rfl Tryd.ntmps73 Tryd.results73 (by simp) ?_
  refine awp_seq ?_
  refine awp_region ?_
  refine lv (.plain rfl) rfl rfl (opv_assign rfl (Ev.eq .b)) ?_
  refine awpL_nil ?_
  refine awp_seq ?_
  refine g_draw mixed kb_nil (by kernel_rfl) (fuel := 10) rfl rfl ?_
  refine g_v (listed' := bs 10 1) 0 rfl (by kernel_rfl) rfl (fun _ => .plain rfl) rfl (fun _ hK => opv_move rfl (Ev.eq (.t (.n 0 1 rfl)))) kb_nil ?_
  refine g_v (listed' := bs 10 3) 1 rfl (by kernel_rfl) rfl (fun _ => .plain rfl) rfl (fun _ hK => p_fieldf (fldT72_1) rfl (Ev.eq (.t (.n 2 4 rfl))) rfl) kb_nil ?_
  refine g_v (listed' := bs 10 7) 2 rfl (by kernel_rfl) rfl (fun _ => .plain rfl) rfl (fun _ hK => p_index_arrf Tryd.underlying70 Tryd.sizeOf22 rfl (Ev.eq (.t .here)) (Ev.eq (.t (.n 6 1 rfl))) (by decide) (by decide) rfl) kb_nil ?_
  refine g_v (listed' := bs 10 15) 3 rfl (by kernel_rfl) rfl (fun _ => .plain rfl) rfl (fun _ hK => p_load1f (scT22) rfl (Ev.eq (.t .here))) kb_nil ?_
  refine g_v (listed' := bs 10 31) 4 rfl (by kernel_rfl) rfl (fun _ => .plain rfl) rfl (fun _ hK => opv_move rfl (Ev.eq (.t (.n 1 6 rfl)))) kb_nil ?_
  refine g_v (listed' := bs 10 63) 5 rfl (by kernel_rfl) rfl (fun _ => .plain rfl) rfl (fun _ hK => p_fieldf (fldT72_1) rfl (Ev.eq (.t (.n 2 8 rfl))) rfl) kb_nil ?_
  refine g_v (listed' := bs 10 127) 6 rfl (by kernel_rfl) rfl (fun _ => .plain rfl) rfl (fun _ hK => p_index_arrf Tryd.underlying70 Tryd.sizeOf22 rfl (Ev.eq (.t .here)) (Ev.eq (.t (.n 10 1 rfl))) (by decide) (by decide) rfl) kb_nil ?_
  refine g_v (listed' := bs 10 255) 7 rfl (by kernel_rfl) rfl (fun _ => .plain rfl) rfl (fun _ hK => p_load1f (scT22) rfl (Ev.eq (.t .here))) kb_nil ?_
  refine g_v (listed' := bs 10 511) 8 rfl (by kernel_rfl) rfl (fun _ => .plain rfl) rfl (fun _ hK => q_call rfl .f Tryd.call59 (.cons (.t (.n 9 4 rfl)) (.cons (.t .here) .nil)) rfl (f59_spec b c)) kb_nil ?_
  refine g_v (listed' := bs 10 1023) 9 rfl (by kernel_rfl) rfl (fun _ => .plain rfl) rfl (fun _ hK => opv_assign rfl (Ev.eq (.t .here))) kb_nil ?_
  refine g_end (by kernel_rfl) ?_
  refine awp_ret ?_
  refine ret_now (.one (rv_t .here)) (Cast.all _ _) ?_
  exact ⟨rfl, rfl⟩
theorem f73_02 (p : ByteArray) (a b c : List Row) : FSpec Tryd.prog 73 [.d (.i .i64 0), .d (.i .i64 2), .fptr [.s p, dRows a, dRows b, dRows c]] (.d (.b (decide (a = c)))) := by
  refine acalls_of Tryd.func73 rfl Tryd.ntmps73 Tryd.results73 (by simp) ?_
  refine awp_seq ?_
  refine awp_region ?_
  refine lv (.plain rfl) rfl rfl (opv_assign rfl (Ev.eq .b)) ?_
  refine awpL_nil ?_
  refine awp_seq ?_
  refine g_draw mixed kb_nil (by kernel_rfl) (fuel := 10) rfl rfl ?_
  refine g_v (listed' := bs 10 1) 0 rfl (by kernel_rfl) rfl (fun _ => .plain rfl) rfl (fun _ hK => opv_move rfl (Ev.eq (.t (.n 0 1 rfl)))) kb_nil ?_
  refine g_v (listed' := bs 10 3) 1 rfl (by kernel_rfl) rfl (fun _ => .plain rfl) rfl (fun _ hK => p_fieldf (fldT72_1) rfl (Ev.eq (.t (.n 2 4 rfl))) rfl) kb_nil ?_
  refine g_v (listed' := bs 10 7) 2 rfl (by kernel_rfl) rfl (fun _ => .plain rfl) rfl (fun _ hK => p_index_arrf Tryd.underlying70 Tryd.sizeOf22 rfl (Ev.eq (.t .here)) (Ev.eq (.t (.n 6 1 rfl))) (by decide) (by decide) rfl) kb_nil ?_
  refine g_v (listed' := bs 10 15) 3 rfl (by kernel_rfl) rfl (fun _ => .plain rfl) rfl (fun _ hK => p_load1f (scT22) rfl (Ev.eq (.t .here))) kb_nil ?_
  refine g_v (listed' := bs 10 31) 4 rfl (by kernel_rfl) rfl (fun _ => .plain rfl) rfl (fun _ hK => opv_move rfl (Ev.eq (.t (.n 1 6 rfl)))) kb_nil ?_
  refine g_v (listed' := bs 10 63) 5 rfl (by kernel_rfl) rfl (fun _ => .plain rfl) rfl (fun _ hK => p_fieldf (fldT72_1) rfl (Ev.eq (.t (.n 2 8 rfl))) rfl) kb_nil ?_
  refine g_v (listed' := bs 10 127) 6 rfl (by kernel_rfl) rfl (fun _ => .plain rfl) rfl (fun _ hK => p_index_arrf Tryd.underlying70 Tryd.sizeOf22 rfl (Ev.eq (.t .here)) (Ev.eq (.t (.n 10 1 rfl))) (by decide) (by decide) rfl) kb_nil ?_
  refine g_v (listed' := bs 10 255) 7 rfl (by kernel_rfl) rfl (fun _ => .plain rfl) rfl (fun _ hK => p_load1f (scT22) rfl (Ev.eq (.t .here))) kb_nil ?_
  refine g_v (listed' := bs 10 511) 8 rfl (by kernel_rfl) rfl (fun _ => .plain rfl) rfl (fun _ hK => q_call rfl .f Tryd.call59 (.cons (.t (.n 9 4 rfl)) (.cons (.t .here) .nil)) rfl (f59_spec a c)) kb_nil ?_
  refine g_v (listed' := bs 10 1023) 9 rfl (by kernel_rfl) rfl (fun _ => .plain rfl) rfl (fun _ hK => opv_assign rfl (Ev.eq (.t .here))) kb_nil ?_
  refine g_end (by kernel_rfl) ?_
  refine awp_ret ?_
  refine ret_now (.one (rv_t .here)) (Cast.all _ _) ?_
  exact ⟨rfl, rfl⟩
theorem f73_01 (p : ByteArray) (a b c : List Row) : FSpec Tryd.prog 73 [.d (.i .i64 0), .d (.i .i64 1), .fptr [.s p, dRows a, dRows b, dRows c]] (.d (.b (decide (a = b)))) := by
  refine acalls_of Tryd.func73 rfl Tryd.ntmps73 Tryd.results73 (by simp) ?_
  refine awp_seq ?_
  refine awp_region ?_
  refine lv (.plain rfl) rfl rfl (opv_assign rfl (Ev.eq .b)) ?_
  refine awpL_nil ?_
  refine awp_seq ?_
  refine g_draw mixed kb_nil (by kernel_rfl) (fuel := 10) rfl rfl ?_
  refine g_v (listed' := bs 10 1) 0 rfl (by kernel_rfl) rfl (fun _ => .plain rfl) rfl (fun _ hK => opv_move rfl (Ev.eq (.t (.n 0 1 rfl)))) kb_nil ?_
  refine g_v (listed' := bs 10 3) 1 rfl (by kernel_rfl) rfl (fun _ => .plain rfl) rfl (fun _ hK => p_fieldf (fldT72_1) rfl (Ev.eq (.t (.n 2 4 rfl))) rfl) kb_nil ?_
  refine g_v (listed' := bs 10 7) 2 rfl (by kernel_rfl) rfl (fun _ => .plain rfl) rfl (fun _ hK => p_index_arrf Tryd.underlying70 Tryd.sizeOf22 rfl (Ev.eq (.t .here)) (Ev.eq (.t (.n 6 1 rfl))) (by decide) (by decide) rfl) kb_nil ?_
  refine g_v (listed' := bs 10 15) 3 rfl (by kernel_rfl) rfl (fun _ => .plain rfl) rfl (fun _ hK => p_load1f (scT22) rfl (Ev.eq (.t .here))) kb_nil ?_
  refine g_v (listed' := bs 10 31) 4 rfl (by kernel_rfl) rfl (fun _ => .plain rfl) rfl (fun _ hK => opv_move rfl (Ev.eq (.t (.n 1 6 rfl)))) kb_nil ?_
  refine g_v (listed' := bs 10 63) 5 rfl (by kernel_rfl) rfl (fun _ => .plain rfl) rfl (fun _ hK => p_fieldf (fldT72_1) rfl (Ev.eq (.t (.n 2 8 rfl))) rfl) kb_nil ?_
  refine g_v (listed' := bs 10 127) 6 rfl (by kernel_rfl) rfl (fun _ => .plain rfl) rfl (fun _ hK => p_index_arrf Tryd.underlying70 Tryd.sizeOf22 rfl (Ev.eq (.t .here)) (Ev.eq (.t (.n 10 1 rfl))) (by decide) (by decide) rfl) kb_nil ?_
  refine g_v (listed' := bs 10 255) 7 rfl (by kernel_rfl) rfl (fun _ => .plain rfl) rfl (fun _ hK => p_load1f (scT22) rfl (Ev.eq (.t .here))) kb_nil ?_
  refine g_v (listed' := bs 10 511) 8 rfl (by kernel_rfl) rfl (fun _ => .plain rfl) rfl (fun _ hK => q_call rfl .f Tryd.call59 (.cons (.t (.n 9 4 rfl)) (.cons (.t .here) .nil)) rfl (f59_spec a b)) kb_nil ?_
  refine g_v (listed' := bs 10 1023) 9 rfl (by kernel_rfl) rfl (fun _ => .plain rfl) rfl (fun _ hK => opv_assign rfl (Ev.eq (.t .here))) kb_nil ?_
  refine g_end (by kernel_rfl) ?_
  refine awp_ret ?_
  refine ret_now (.one (rv_t .here)) (Cast.all _ _) ?_
  exact ⟨rfl, rfl⟩
theorem f34_spec (p : ByteArray) (a b c : List Row) : FSpec Tryd.prog 34 [.agg [.d (.s p), .d (dRows a), .d (dRows b), .d (dRows c)]] (.tup [.d (dRows (metF a b c).1), .d (.b (metF a b c).2)]) := by
  refine acalls_of Tryd.func34 rfl Tryd.ntmps34 Tryd.results34 (by simp) ?_
  refine awp_seq ?_
  refine awp_region ?_
  refine l_box (.plain rfl) rfl rfl rfl (.t .here) rfl rfl (fun g1 ng1 => ?_)
  refine lv (.plain rfl) rfl rfl (opv_assign rfl (Ev.eq .n)) ?_
  refine lv (.plain rfl) rfl rfl (opv_assign rfl (Ev.eq .b)) ?_
  refine awpL_nil ?_
  refine awp_seq ?_
  refine awp_region ?_
  refine lv (.plain rfl) rfl rfl (q_makeFunc rfl (.cons (.t (.n 1 2 rfl)) .nil)) ?_
  refine lv (.plain rfl) rfl rfl (opv_assign rfl (Ev.eq (.t .here))) ?_
  refine awpL_nil ?_
  refine awp_seq ?_
  refine awp_block ?_
  refine awp_seq ?_
  refine awp_region ?_
  refine lv (.plain rfl) rfl rfl (opv_move rfl (Ev.eq (.t .here))) ?_
  refine lv (.plain rfl) rfl rfl (q_call_ro rfl (.t .here) fnas_fn Tryd.call73 (.cons .i (.cons .i .nil)) rfl (.cons .refl (.cons .refl (.cons (.ptr (cs := [.s p, dRows a, dRows b, dRows c]) (.head _) (.cons .refl (.cons .refl (.cons .refl (.cons .refl .nil))))) .nil))) (f73_12 p a b c) (by simp [AV.scal])) ?_
  refine lv (.plain rfl) rfl rfl (opv_move rfl (Ev.eq (.t .here))) ?_
  refine lsplit (.n 8 1 rfl) (fun h8 => ?_) (fun h8 => ?_)
  ·
   have q8 := h8
   try simp only [zs, List.length_map] at q8
   refine lo (.off rfl rfl .here h8) rfl rfl ?_
   refine lo (.off rfl rfl (.n 9 1 rfl) h8) rfl rfl ?_
   refine lv (.plain rfl) rfl rfl (opv_pick_t rfl (Ev.eq (.t (.n 9 2 rfl))) h8 (Ev.eq .b)) ?_
   refine lv (.plain rfl) rfl rfl (opv_assign rfl (Ev.eq (.t .here))) ?_
   refine awpL_nil ?_
   refine pcond_t (.t .here) rfl ?_
   refine awp_seq ?_
   refine awp_region ?_
   refine lv (.plain rfl) rfl rfl (p_field (fldT72_1) rfl (Ev.eq (.t (.n 1 11 rfl))) (off' := 1) rfl) ?_
   refine lv (.plain rfl) rfl rfl (p_index_arr (off' := 2) Tryd.underlying70 Tryd.sizeOf22 rfl (Ev.eq (.t .here)) (Ev.eq .i) (by decide) (by decide) rfl) ?_
   refine lv (.plain rfl) rfl rfl (q_load1 (scT22) rfl (Ev.eq (.t .here)) .here (.there (.there .here))) ?_
   refine lv (.plain rfl) rfl rfl (opv_assign rfl (Ev.eq (.t .here))) ?_
   refine lv (.plain rfl) rfl rfl (opv_assign rfl (Ev.eq .b)) ?_
   refine awpL_nil ?_
   refine awp_ret ?_
   refine ret_now (.two (rv_t (.n 2 1 rfl)) (rv_t .here)) (Cast.all _ _) ?_
   rw [show metF a b c = (b, true) from if_pos (.inl q8)]
   exact ⟨rfl, rfl⟩
  ·
   have q8 := h8
   try simp only [zs, List.length_map] at q8
   refine lv (.on rfl rfl .here h8) rfl rfl (opv_move rfl (Ev.eq (.t (.n 4 3 rfl)))) ?_
   refine lv (.on rfl rfl (.n 9 1 rfl) h8) rfl rfl (q_call_ro rfl (.t .here) fnas_fn Tryd.call73 (.cons .i (.cons .i .nil)) rfl (.cons .refl (.cons .refl (.cons (.ptr (cs := [.s p, dRows a, dRows b, dRows c]) (.head _) (.cons .refl (.cons .refl (.cons .refl (.cons .refl .nil))))) .nil))) (f73_02 p a b c) (by simp [AV.scal])) ?_
   refine lv (.plain rfl) rfl rfl (opv_pick_f rfl (Ev.eq (.t (.n 9 2 rfl))) h8 (Ev.eq (.t .here))) ?_
   refine lv (.plain rfl) rfl rfl (opv_assign rfl (Ev.eq (.t .here))) ?_
   refine awpL_nil ?_
   refine psplit (.n 11 2 rfl) (fun h11 => ?_) (fun h11 => ?_)
   ·
    have q11 := h11
    try simp only [zs, List.length_map] at q11
    refine pcond_t (.t .here) h11 ?_
    refine awp_seq ?_
    refine awp_region ?_
    refine lv (.plain rfl) rfl rfl (p_field (fldT72_1) rfl (Ev.eq (.t (.n 1 11 rfl))) (off' := 1) rfl) ?_
    refine lv (.plain rfl) rfl rfl (p_index_arr (off' := 2) Tryd.underlying70 Tryd.sizeOf22 rfl (Ev.eq (.t .here)) (Ev.eq .i) (by decide) (by decide) rfl) ?_
    refine lv (.plain rfl) rfl rfl (q_load1 (scT22) rfl (Ev.eq (.t .here)) .here (.there (.there .here))) ?_
    refine lv (.plain rfl) rfl rfl (opv_assign rfl (Ev.eq (.t .here))) ?_
    refine lv (.plain rfl) rfl rfl (opv_assign rfl (Ev.eq .b)) ?_
    refine awpL_nil ?_
    refine awp_ret ?_
    refine ret_now (.two (rv_t (.n 2 1 rfl)) (rv_t .here)) (Cast.all _ _) ?_
    rw [show metF a b c = (b, true) from if_pos (.inr q11)]
    exact ⟨rfl, rfl⟩
   ·
    have q11 := h11
    try simp only [zs, List.length_map] at q11
    refine pcond_f (.t .here) h11 ?_
    refine awp_seq ?_
    refine awp_region ?_
    refine lv (.plain rfl) rfl rfl (opv_move rfl (Ev.eq (.t (.n 4 7 rfl)))) ?_
    refine lv (.plain rfl) rfl rfl (q_call_ro rfl (.t .here) fnas_fn Tryd.call73 (.cons .i (.cons .i .nil)) rfl (.cons .refl (.cons .refl (.cons (.ptr (cs := [.s p, dRows a, dRows b, dRows c]) (.head _) (.cons .refl (.cons .refl (.cons .refl (.cons .refl .nil))))) .nil))) (f73_01 p a b c) (by simp [AV.scal])) ?_
    refine lv (.plain rfl) rfl rfl (opv_assign rfl (Ev.eq (.t .here))) ?_
    refine awpL_nil ?_
    refine psplit (.n 18 1 rfl) (fun h18 => ?_) (fun h18 => ?_)
    ·
     have q18 := h18
     try simp only [zs, List.length_map] at q18
     refine pcond_t (.t .here) h18 ?_
     refine awp_seq ?_
     refine awp_region ?_
     refine lv (.plain rfl) rfl rfl (p_field (fldT72_1) rfl (Ev.eq (.t (.n 1 14 rfl))) (off' := 1) rfl) ?_
     refine lv (.plain rfl) rfl rfl (p_index_arr (off' := 3) Tryd.underlying70 Tryd.sizeOf22 rfl (Ev.eq (.t .here)) (Ev.eq .i) (by decide) (by decide) rfl) ?_
     refine lv (.plain rfl) rfl rfl (q_load1 (scT22) rfl (Ev.eq (.t .here)) .here (.there (.there (.there .here)))) ?_
     refine lv (.plain rfl) rfl rfl (opv_assign rfl (Ev.eq (.t .here))) ?_
     refine lv (.plain rfl) rfl rfl (opv_assign rfl (Ev.eq .b)) ?_
     refine awpL_nil ?_
     refine awp_ret ?_
     refine ret_now (.two (rv_t (.n 2 1 rfl)) (rv_t .here)) (Cast.all _ _) ?_
     rw [show metF a b c = (c, true) from (if_neg (by rintro (h | h); exact q8 h; exact q11 h)).trans (if_pos q18)]
     exact ⟨rfl, rfl⟩
    ·
     have q18 := h18
     try simp only [zs, List.length_map] at q18
     refine pcond_f (.t .here) h18 ?_
     refine awp_skip ?_
     refine awp_seq ?_
     refine awp_region ?_
     refine lv (.plain rfl) rfl rfl (opv_assign rfl (Ev.eq .n)) ?_
     refine lv (.plain rfl) rfl rfl (opv_assign rfl (Ev.eq .b)) ?_
     refine awpL_nil ?_
     refine awp_ret ?_
     refine ret_now (.two (rv_t (.n 2 1 rfl)) (rv_t .here)) (Cast.frz0 (.tup (.cons .nil (.cons .refl .nil)))) ?_
     rw [show metF a b c = ([], false) from (if_neg (by rintro (h | h); exact q8 h; exact q11 h)).trans (if_neg q18)]
     exact ⟨rfl, rfl⟩
theorem f33_spec (ts : List Trie) : FSpec Tryd.prog 33 [.d (.sl (encTries ts))] (.d (.fn 72 [[.sl (encTries ts)]])) := by
  refine acalls_of Tryd.func33 rfl Tryd.ntmps33 Tryd.results33 (by simp) ?_
  refine awp_seq ?_
  refine awp_region ?_
  refine l_box (.plain rfl) rfl rfl rfl (.t .here) rfl rfl (fun g1 ng1 => ?_)
  refine lv (.plain rfl) rfl rfl (opv_assign rfl rfl) ?_
  refine awpL_nil ?_
  refine awp_seq ?_
  refine awp_region ?_
  refine lv (.plain rfl) rfl rfl (q_makeFunc rfl (.cons (.t (.n 1 1 rfl)) .nil)) ?_
  refine lv (.plain rfl) rfl rfl (opv_assign rfl (Ev.eq (.t .here))) ?_
  refine awpL_nil ?_
  refine awp_ret ?_
  refine ret_now (.one (rv_t .here)) (Cast.frz0 (.fn (.ptr (cs := [.sl (encTries ts)]) (.head _) (.cons .refl .nil) .nil))) ?_
  exact ⟨rfl, rfl⟩
def eL (ts : List Trie) (j : Nat) : List Ent := match ts[j]? with
  | some t => entriesR t
  | none => []
def c0 (ts : List Trie) (i j : Nat) : List Ent := if j < i then eL ts j else []
theorem c0_full (ts : List Trie) (j : Nat) : c0 ts ts.length j = eL ts j := by
  unfold c0
  split
  · rfl
  · unfold eL
    rw [List.getElem?_eq_none (by omega)]
theorem c0_step {ts : List Trie} {i : Nat} {t : Trie} (h : ts[i]? = some t) (j : Nat) : AV.d (dEnts (c0 ts (i + 1) j)) = if j = i then AV.d (dEnts (entriesR t)) else AV.d (dEnts (c0 ts i j)) := by
  unfold c0
  by_cases hj : j = i
  · subst hj
    rw [if_pos (by omega), if_pos rfl]
    unfold eL
    rw [h]
  · rw [if_neg hj]
    by_cases h2 : j < i
    · rw [if_pos (by omega), if_pos h2]
    · rw [if_neg (by omega), if_neg h2]
theorem put3 {f g : Nat → AV} {i : Nat} {v : AV} (hi : i < 3) (h : ∀ j, g j = if j = i then v else f j) : Put1 [f 0, f 1, f 2] i v [g 0, g 1, g 2] := by
  rcases i with _ | _ | _ | i
  · rw [h 0, h 1, h 2]; exact .here
  · rw [h 0, h 1, h 2]; exact .there .here
  · rw [h 0, h 1, h 2]; exact .there (.there .here)
  · omega
def lI (A B C : List Ent) : Nat → List Ent
  | 0 => A
  | 1 => B
  | _ => C
def mpI (A B C : List Ent) : Nat → ByteArray
  | 0 => ⟨#[]⟩
  | 1 => mpF ⟨#[]⟩ A
  | 2 => mpF (mpF ⟨#[]⟩ A) B
  | _ => minF A B C
theorem mpI_step {A B C : List Ent} {i : Nat} (h : i < 3) : mpI A B C (i + 1) = mpF (mpI A B C i) (lI A B C i) := by
  rcases i with _ | _ | _ | i
  · rfl
  · rfl
  · rfl
  · omega
theorem lI_at {A B C : List Ent} {i : Nat} (h : i < 3) : [AV.d (dEnts A), .d (dEnts B), .d (dEnts C)][((i : Nat) : Int).toNat]? = some (.d (dEnts (lI A B C i))) := by
  rcases i with _ | _ | _ | i
  · rfl
  · rfl
  · rfl
  · omega
def aSide (s : Side) : AV := .agg [.d (.s s.path), .d (dRows s.a), .d (dRows s.b), .d (dRows s.c)]
theorem step_yes {A B C : List Ent} {q : ByteArray} {i : Nat} {fR : Nat → List Row} {fL : Nat → List Ent} {e : Ent} {rest : List Ent} (hx : lI A B C i = e :: rest) (he : e.path = q) (h : ∀ j, j < 3 → fR j = (if j < i then hdF q (lI A B C j) else []) ∧ fL j = (if j < i then tlF q (lI A B C j) else lI A B C j)) :
    ∀ j, j < 3 → (if j = i then e.rows else fR j) = (if j < i + 1 then hdF q (lI A B C j) else []) ∧ (if j = i then rest else fL j) = (if j < i + 1 then tlF q (lI A B C j) else lI A B C j) := by
  intro j hj
  by_cases hji : j = i
  · subst hji
    rw [if_pos rfl, if_pos rfl, if_pos (by omega), if_pos (by omega), hx]
    simp only [hdF, tlF]
    rw [if_pos he, if_pos he]
    exact ⟨rfl, rfl⟩
  · rw [if_neg hji, if_neg hji]
    obtain ⟨h1, h2⟩ := h j hj
    rw [h1, h2]
    by_cases h3 : j < i
    · rw [if_pos h3, if_pos h3, if_pos (by omega), if_pos (by omega)]; exact ⟨rfl, rfl⟩
    · rw [if_neg h3, if_neg h3, if_neg (by omega), if_neg (by omega)]; exact ⟨rfl, rfl⟩
theorem step_no {A B C : List Ent} {q : ByteArray} {i : Nat} {fR : Nat → List Row} {fL : Nat → List Ent} (hi : i < 3) (hno : ∀ e rest, lI A B C i = e :: rest → e.path ≠ q) (h : ∀ j, j < 3 → fR j = (if j < i then hdF q (lI A B C j) else []) ∧ fL j = (if j < i then tlF q (lI A B C j) else lI A B C j)) :
    ∀ j, j < 3 → fR j = (if j < i + 1 then hdF q (lI A B C j) else []) ∧ fL j = (if j < i + 1 then tlF q (lI A B C j) else lI A B C j) := by
  intro j hj
  obtain ⟨h1, h2⟩ := h j hj
  by_cases hji : j = i
  · subst hji
    rw [h1, h2]
    simp only [Nat.lt_irrefl, if_false, Nat.lt_add_one, if_true]
    cases hx : lI A B C j with
    | nil => exact ⟨rfl, rfl⟩
    | cons e r => constructor <;> simp [hdF, tlF, hno e r hx]
  · rw [h1, h2]
    by_cases h3 : j < i
    · rw [if_pos h3, if_pos h3, if_pos (by omega), if_pos (by omega)]; exact ⟨rfl, rfl⟩
    · rw [if_neg h3, if_neg h3, if_neg (by omega), if_neg (by omega)]; exact ⟨rfl, rfl⟩
theorem f72_it (ts : List Trie) (ht3 : ts.length ≤ 3) (hcn : ∀ t, t ∈ ts → t.cnt ≤ 1000000000) (hr : ∀ t, t ∈ ts → rightB t = true) (F0 : Nat) (hF0 : (eL ts 0).length + (eL ts 1).length + (eL ts 2).length < F0) :
    ItSpec Tryd.prog 72 [.fptr [.sl (encTries ts)]] ((sidesF F0 (eL ts 0) (eL ts 1) (eL ts 2)).map aSide) := by
  have hg : ∀ j, goodL (eL ts j) := fun j => by
    unfold eL
    cases hq : ts[j]? with
    | none => exact ⟨.nil, fun e he => by cases he⟩
    | some t => exact goodL_right (hr t (List.mem_of_getElem? hq))
  intro L Hs hy hc0 h0
  refine acalls_of Tryd.func72 rfl Tryd.ntmps72 Tryd.results72 (by simp) ?_
  refine awp_seq ?_
  refine awp_region ?_
  refine l_alloc zT106 (.plain rfl) rfl rfl rfl (fun g1 ng1 => ?_)
  refine awpL_nil ?_
  refine awp_seq ?_
  refine awp_seq ?_
  refine awp_region ?_
  refine lv (.plain rfl) rfl rfl (p_load1f (scT23) rfl (Ev.eq (.t (.n 1 2 rfl)))) ?_
  refine lv (.plain rfl) rfl rfl (opv_len_sl Tryd.underlying23 rfl (Ev.eq (.t .here)) rfl) ?_
  refine lv (.plain rfl) rfl rfl (opv_move rfl (Ev.eq .i)) ?_
  refine awpL_nil ?_
  refine awp_block ?_
  refine pvar (cs' := [.d (dEnts []), .d (dEnts []), .d (dEnts [])]) .here (.cons .nil (.cons .nil (.cons .nil .nil))) ?_
  refine ploop (fun (i : Nat) => ⟨87, [(0, .fn (.yield L) []), (3, .ptr g1 0), (11, .d (.sl (encTries ts))), (12, .d (.i .i64 (ts.length : Int))), (13, .d (.i .i64 (i : Int)))], (g1, .var 106 [.d (dEnts (c0 ts i 0)), .d (dEnts (c0 ts i 1)), .d (dEnts (c0 ts i 2))]) :: hc0, []⟩) (fun i => i ≤ ts.length) (fun i => ts.length - i) (0) (weak_both (.ce (.n 0 4 rfl) (by first | rfl | (simp; done) | (simp; omega)) (.ce (.n 3 3 rfl) (by first | rfl | (simp; done) | (simp; omega)) (.ce (.n 11 2 rfl) (by first | rfl | (simp; done) | (simp; omega)) (.ce (.n 12 1 rfl) (by first | rfl | (simp; done) | (simp; omega)) (.ce .here (by first | rfl | (simp; done) | (simp; omega)) .nil))))) (List.Sublist.refl _)) (Nat.zero_le _) ?_
  rintro i hi
  refine awp_seq ?_
  refine awp_region ?_
  refine lv (.plain rfl) rfl rfl (opv_lss rfl (Ev.eq (.t (.n 13 4 rfl))) (Ev.eq (.t (.n 12 3 rfl))) rfl) ?_
  refine awpL_nil ?_
  refine awp_seq ?_
  refine psplit .here (fun h14 => ?_) (fun h14 => ?_)
  ·
   have q14 := h14
   try simp only [zs, List.length_map, bl_inj, encTries_len] at q14
   refine pcond_t (.t .here) h14 ?_
   refine awp_skip ?_
   refine awp_seq ?_
   refine awp_block ?_
   refine awp_seq ?_
   refine awp_region ?_
   refine lv (.plain rfl) rfl rfl (opv_move rfl (Ev.eq (.t (.n 13 5 rfl)))) ?_
   obtain ⟨kd, hk⟩ := some_at (l := ts) (i := i) (by omega)
   obtain ⟨kl, kr, kk⟩ := kd
   refine lv (.plain rfl) rfl rfl (p_index (slT23) rfl (Ev.eq (.t (.n 11 4 rfl))) (Ev.eq (.t (.n 13 6 rfl))) (by omega) (by first | assumption | exact map_at (by assumption) | exact encTries_at (by assumption)) rfl) ?_
   refine lv (.plain rfl) rfl rfl (p_loadnf (agT25) rfl (Ev.eq (.t .here)) (Nat.le_of_ble_eq_true rfl) rfl) ?_
   refine l_alloc zT25 (.plain rfl) rfl rfl rfl (fun g3 ng3 => ?_)
   refine lv (.plain rfl) rfl rfl (opv_assign rfl (Ev.eq (.t (.n 15 3 rfl)))) ?_
   refine l_storen Tryd.sizeOf25 (.plain rfl) rfl rfl (.t (.n 5 1 rfl)) (.t (.n 17 2 rfl)) rfl rfl rfl .here ?_
   refine awpL_nil ?_
   refine awp_region ?_
   refine lv (.plain rfl) rfl rfl (opv_move rfl (Ev.eq (.t .here))) ?_
   refine lv (.plain rfl) rfl rfl (q_loadn (agT25) rfl (Ev.eq (.t (.n 5 2 rfl))) .here rfl) ?_
   refine lv (.plain rfl) rfl rfl (q_call rfl .f Tryd.call21 (.cons (.t .here) .nil) rfl (f21_spec (.mk kl kr kk) (hcn _ (List.mem_of_getElem? hk)))) ?_
   refine lv (.plain rfl) rfl rfl (p_index_arr (off' := i) Tryd.underlying106 Tryd.sizeOf38 rfl (Ev.eq (.t (.n 3 10 rfl))) (Ev.eq (.t (.n 18 2 rfl))) (by omega) (by omega) (by simp)) ?_
   refine l_store1 Tryd.sizeOf38 (.plain rfl) rfl rfl (.t .here) (.t (.n 20 1 rfl)) rfl (put3 (f := fun j => .d (dEnts (c0 ts i j))) (g := fun j => .d (dEnts (c0 ts (i + 1) j))) (by omega) (c0_step hk)) (.there .here) ?_
   refine awpL_nil ?_
   refine awp_region ?_
   refine lv (.plain rfl) rfl rfl (opv_add rfl (Ev.eq (.t (.n 13 14 rfl))) (Ev.eq .i) (wr64 (by omega) (by omega)) rfl) ?_
   refine lv (.plain rfl) rfl rfl (opv_move rfl (Ev.eq (.t .here))) ?_
   refine awpL_nil ?_
   refine ⟨i + 1, by omega, by omega, weak_both (.ce (.n 0 12 rfl) (by first | rfl | (simp; done) | (simp; omega)) (.ce (.n 3 13 rfl) (by first | rfl | (simp; done) | (simp; omega)) (.ce (.n 11 14 rfl) (by first | rfl | (simp; done) | (simp; omega)) (.ce (.n 12 15 rfl) (by first | rfl | (simp; done) | (simp; omega)) (.ce .here (by first | rfl | (simp; done) | (simp; omega)) .nil))))) (.cons _ (List.Sublist.refl _))⟩
  ·
   have q14 := h14
   try simp only [zs, List.length_map, bl_inj, encTries_len] at q14
   refine pcond_f (.t .here) h14 ?_
   refine awp_exit ?_
   refine awp_block ?_
   obtain rfl : i = ts.length := by omega
   rw [c0_full, c0_full, c0_full]
   refine ploop (fun (a : Nat × List Ent × List Ent × List Ent × H) => ⟨87, [(0, .fn (.yield L) []), (3, .ptr g1 0)], (g1, .var 106 [.d (dEnts a.2.1), .d (dEnts a.2.2.1), .d (dEnts a.2.2.2.1)]) :: a.2.2.2.2, []⟩) (fun a => (goodL a.2.1 ∧ goodL a.2.2.1 ∧ goodL a.2.2.2.1) ∧ Hs a.1 a.2.2.2.2 ∧ a.1 ≤ (sidesF F0 (eL ts 0) (eL ts 1) (eL ts 2)).length ∧ ∃ f, a.2.1.length + a.2.2.1.length + a.2.2.2.1.length < f ∧ (sidesF F0 (eL ts 0) (eL ts 1) (eL ts 2)).drop a.1 = sidesF f a.2.1 a.2.2.1 a.2.2.2.1) (fun a => a.2.1.length + a.2.2.1.length + a.2.2.2.1.length) ((0, eL ts 0, eL ts 1, eL ts 2, hc0)) (weak_both (.ce (.n 0 1 rfl) (by first | rfl | (simp; done) | (simp; omega)) (.ce (.n 3 2 rfl) (by first | rfl | (simp; done) | (simp; omega)) .nil)) (List.Sublist.refl _)) (⟨⟨hg 0, hg 1, hg 2⟩, h0, Nat.zero_le _, F0, hF0, rfl⟩) ?_
   rintro ⟨j, A, B, C, hc⟩ ⟨⟨gA, gB, gC⟩, hH, hj, f, hf, hX⟩
   dsimp only at gA gB gC hH hj hf hX
   refine awp_block ?_
   refine awp_seq ?_
   refine awp_region ?_
   refine lv (.plain rfl) rfl rfl (opv_frz0 (p_build (bldT72) rfl .nil (by simp [AV.cs, AV.one]) (cs := [_, _, _, _]) rfl) (.agg (.cons .refl (.cons .nil (.cons .nil (.cons .nil .nil)))))) ?_
   refine l_alloc zT72 (.plain rfl) rfl rfl rfl (fun g5 ng5 => ?_)
   refine l_storen Tryd.sizeOf72 (.plain rfl) rfl rfl (.t .here) (.t (.n 23 1 rfl)) rfl rfl rfl .here ?_
   refine awpL_nil ?_
   refine awp_seq ?_
   refine awp_seq ?_
   refine awp_region ?_
   refine lv (.plain rfl) rfl rfl (q_loadn (agT106) rfl (Ev.eq (.t (.n 3 3 rfl))) (.there .here) rfl) ?_
   refine lv (.plain rfl) rfl rfl (opv_move rfl (Ev.eq .i)) ?_
   refine awpL_nil ?_
   refine awp_block ?_
   refine ploop (fun (a : Nat × ByteArray) => ⟨87, [(0, .fn (.yield L) []), (3, .ptr g1 0), (6, .ptr g5 0), (24, .agg [.d (dEnts A), .d (dEnts B), .d (dEnts C)]), (25, .d (.i .i64 (a.1 : Int)))], (g5, .var 72 [.d (.s a.2), .d (dRows []), .d (dRows []), .d (dRows [])]) :: (g1, .var 106 [.d (dEnts A), .d (dEnts B), .d (dEnts C)]) :: hc, []⟩) (fun a => a.1 ≤ 3 ∧ a.2 = mpI A B C a.1) (fun a => 3 - a.1) ((0, ⟨#[]⟩)) (weak_both (.ce (.n 0 4 rfl) (by first | rfl | (simp; done) | (simp; omega)) (.ce (.n 3 5 rfl) (by first | rfl | (simp; done) | (simp; omega)) (.ce (.n 6 2 rfl) (by first | rfl | (simp; done) | (simp; omega)) (.ce (.n 24 1 rfl) (by first | rfl | (simp; done) | (simp; omega)) (.ce .here (by first | rfl | (simp; done) | (simp; omega)) .nil))))) (List.Sublist.refl _)) (⟨Nat.zero_le _, rfl⟩) ?_
   rintro ⟨i, p⟩ ⟨hi, hp⟩
   dsimp only at hi hp
   refine awp_seq ?_
   refine awp_region ?_
   refine lv (.plain rfl) rfl rfl (opv_lss rfl (Ev.eq (.t (.n 25 4 rfl))) (Ev.eq .i) rfl) ?_
   refine awpL_nil ?_
   refine awp_seq ?_
   refine psplit .here (fun h26 => ?_) (fun h26 => ?_)
   ·
    have q26 := h26
    try simp only [zs, List.length_map, bl_inj, encTries_len] at q26
    refine pcond_t (.t .here) h26 ?_
    refine awp_skip ?_
    refine awp_seq ?_
    refine awp_block ?_
    refine awp_seq ?_
    refine awp_region ?_
    refine lv (.plain rfl) rfl rfl (p_index_agg Tryd.underlying106 scT38 Tryd.sizeOf38 rfl (Ev.eq (.t (.n 24 4 rfl))) (Ev.eq (.t (.n 25 5 rfl))) (by omega) (by omega) (lI_at (by omega))) ?_
    refine lv (.plain rfl) rfl rfl (opv_assign rfl (Ev.eq (.t .here))) ?_
    refine awpL_nil ?_
    refine awp_seq ?_
    refine g_draw mixed (kb_cons (.head _) kb_nil) (by kernel_rfl) (fuel := 17) rfl rfl ?_
    refine g_v (listed' := bs 17 1) 0 rfl (by kernel_rfl) rfl (fun _ => .plain rfl) rfl (fun _ hK => opv_move rfl (Ev.eq (.t .here))) (kb_cons (.head _) kb_nil) ?_
    refine g_v (listed' := bs 17 3) 1 rfl (by kernel_rfl) rfl (fun _ => .plain rfl) rfl (fun _ hK => opv_len_sl Tryd.underlying38 rfl (Ev.eq (.t .here)) rfl) (kb_cons (.head _) kb_nil) ?_
    refine g_v (listed' := bs 17 7) 2 rfl (by kernel_rfl) rfl (fun _ => .plain rfl) rfl (fun _ hK => opv_gtr rfl (Ev.eq (.t .here)) (Ev.eq .i) rfl) (kb_cons (.head _) kb_nil) ?_
    refine g_v (listed' := bs 17 15) 3 rfl (by kernel_rfl) rfl (fun _ => .plain rfl) rfl (fun _ hK => opv_move rfl (Ev.eq (.t .here))) (kb_cons (.head _) kb_nil) ?_
    refine gsplit (.n 30 1 rfl) (fun h30 => ?_) (fun h30 => ?_)
    ·
     have q30 := h30
     try simp only [zs, List.length_map, bl_inj, encTries_len] at q30
     refine g_v (listed' := bs 17 31) 4 rfl (by kernel_rfl) rfl (fun _ => .on rfl rfl .here h30) rfl (fun _ hK => p_field (fldT72_0) rfl (Ev.eq (.t (.n 6 9 rfl))) (off' := 0) rfl) (kb_cons (.head _) kb_nil) ?_
     refine g_v (listed' := bs 17 63) 5 rfl (by kernel_rfl) rfl (fun _ => .on rfl rfl (.n 31 1 rfl) h30) rfl (fun _ hK => m_load1 (scT9) rfl (Ev.eq (.t .here)) (hK _ (.head _)) .here) (kb_cons (.head _) kb_nil) ?_
     refine g_v (listed' := bs 17 127) 6 rfl (by kernel_rfl) rfl (fun _ => .on rfl rfl (.n 31 2 rfl) h30) rfl (fun _ hK => opv_eql_s rfl (Ev.eq (.t .here)) (Ev.eq .s) rfl) (kb_cons (.head _) kb_nil) ?_
     refine g_v (listed' := bs 17 255) 7 rfl (by kernel_rfl) rfl (fun _ => .on rfl rfl (.n 31 3 rfl) h30) rfl (fun _ hK => opv_move rfl (Ev.eq (.t .here))) (kb_cons (.head _) kb_nil) ?_
     refine gsplit (.n 34 1 rfl) (fun h34 => ?_) (fun h34 => ?_)
     ·
      have q34 := h34
      try simp only [zs, List.length_map, bl_inj, encTries_len] at q34
      refine g_o (listed' := bs 17 511) 8 rfl (by kernel_rfl) rfl (fun _ => .off rfl rfl .here h34) rfl (kb_cons (.head _) kb_nil) ?_
      refine g_o (listed' := bs 17 1023) 9 rfl (by kernel_rfl) rfl (fun _ => .off rfl rfl (.n 35 1 rfl) h34) rfl (kb_cons (.head _) kb_nil) ?_
      refine g_o (listed' := bs 17 2047) 10 rfl (by kernel_rfl) rfl (fun _ => .off rfl rfl (.n 35 2 rfl) h34) rfl (kb_cons (.head _) kb_nil) ?_
      refine g_o (listed' := bs 17 4095) 11 rfl (by kernel_rfl) rfl (fun _ => .off rfl rfl (.n 35 3 rfl) h34) rfl (kb_cons (.head _) kb_nil) ?_
      refine g_o (listed' := bs 17 8191) 12 rfl (by kernel_rfl) rfl (fun _ => .off rfl rfl (.n 35 4 rfl) h34) rfl (kb_cons (.head _) kb_nil) ?_
      refine g_o (listed' := bs 17 16383) 13 rfl (by kernel_rfl) rfl (fun _ => .off rfl rfl (.n 35 5 rfl) h34) rfl (kb_cons (.head _) kb_nil) ?_
      refine g_o (listed' := bs 17 32767) 14 rfl (by kernel_rfl) rfl (fun _ => .off rfl rfl (.n 35 6 rfl) h34) rfl (kb_cons (.head _) kb_nil) ?_
      refine g_v (listed' := bs 17 65535) 15 rfl (by kernel_rfl) rfl (fun _ => .on rfl rfl (.n 31 11 rfl) h30) rfl (fun _ hK => opv_pick_t rfl (Ev.eq (.t (.n 35 7 rfl))) h34 (Ev.eq .b)) (kb_cons (.head _) kb_nil) ?_
      refine g_v (listed' := bs 17 131071) 16 rfl (by kernel_rfl) rfl (fun _ => .plain rfl) rfl (fun _ hK => opv_pick_t rfl (Ev.eq (.t (.n 31 12 rfl))) h30 (Ev.eq (.t .here))) (kb_cons (.head _) kb_nil) ?_
      refine g_end (by kernel_rfl) ?_
      refine pcond_t (.t .here) rfl ?_
      obtain ⟨e, rest, hx⟩ : ∃ e rest, lI A B C i = e :: rest := by cases hq : lI A B C i with | nil => (rw [hq] at q30; simp at q30) | cons e r => exact ⟨e, r, rfl⟩
      refine awp_region ?_
      refine lv (.plain rfl) rfl rfl (opv_move rfl (Ev.eq (.t (.n 8 17 rfl)))) ?_
      refine lv (.plain rfl) rfl rfl (p_index (slT38) rfl (Ev.eq (.t .here)) (Ev.eq .i) (by decide) (show ((lI A B C i).map encEnt)[((0 : Int)).toNat]? = some (encEnt e) by rw [hx]; rfl) rfl) ?_
      refine lv (.plain rfl) rfl rfl (p_fieldf (fldT43_0) rfl (Ev.eq (.t .here)) rfl) ?_
      refine lv (.plain rfl) rfl rfl (p_load1f (scT9) rfl (Ev.eq (.t .here))) ?_
      refine lv (.plain rfl) rfl rfl (p_field (fldT72_0) rfl (Ev.eq (.t (.n 6 26 rfl))) (off' := 0) rfl) ?_
      refine l_store1 Tryd.sizeOf9 (.plain rfl) rfl rfl (.t .here) (.t (.n 48 1 rfl)) rfl .here .here ?_
      refine awpL_nil ?_
      refine awp_region ?_
      refine lv (.plain rfl) rfl rfl (opv_add rfl (Ev.eq (.t (.n 25 29 rfl))) (Ev.eq .i) (wr64 (by omega) (by omega)) rfl) ?_
      refine lv (.plain rfl) rfl rfl (opv_move rfl (Ev.eq (.t .here))) ?_
      refine awpL_nil ?_
      refine ⟨(i + 1, e.path), by dsimp only; omega, ⟨by dsimp only; omega, by dsimp only; rw [mpI_step (by omega), ← hp]; rw [hx, mpF, if_pos (by simp_all [bl_inj, LS])]⟩, weak_both (.ce (.n 0 27 rfl) (by first | rfl | (simp; done) | (simp; omega)) (.ce (.n 3 28 rfl) (by first | rfl | (simp; done) | (simp; omega)) (.ce (.n 6 29 rfl) (by first | rfl | (simp; done) | (simp; omega)) (.ce (.n 24 30 rfl) (by first | rfl | (simp; done) | (simp; omega)) (.ce .here (by first | rfl | (simp; done) | (simp; omega)) .nil))))) (List.Sublist.refl _)⟩
     ·
      have q34 := h34
      try simp only [zs, List.length_map, bl_inj, encTries_len] at q34
      refine g_v (listed' := bs 17 511) 8 rfl (by kernel_rfl) rfl (fun _ => .on rfl rfl .here h34) rfl (fun _ hK => opv_move rfl (Ev.eq (.t (.n 8 8 rfl)))) (kb_cons (.head _) kb_nil) ?_
      obtain ⟨e, rest, hx⟩ : ∃ e rest, lI A B C i = e :: rest := by cases hq : lI A B C i with | nil => (rw [hq] at q30; simp at q30) | cons e r => exact ⟨e, r, rfl⟩
      refine g_v (listed' := bs 17 1023) 9 rfl (by kernel_rfl) rfl (fun _ => .on rfl rfl (.n 35 1 rfl) h34) rfl (fun _ hK => p_index (slT38) rfl (Ev.eq (.t .here)) (Ev.eq .i) (by decide) (show ((lI A B C i).map encEnt)[((0 : Int)).toNat]? = some (encEnt e) by rw [hx]; rfl) rfl) (kb_cons (.head _) kb_nil) ?_
      refine g_v (listed' := bs 17 2047) 10 rfl (by kernel_rfl) rfl (fun _ => .on rfl rfl (.n 35 2 rfl) h34) rfl (fun _ hK => p_fieldf (fldT43_0) rfl (Ev.eq (.t .here)) rfl) (kb_cons (.head _) kb_nil) ?_
      refine g_v (listed' := bs 17 4095) 11 rfl (by kernel_rfl) rfl (fun _ => .on rfl rfl (.n 35 3 rfl) h34) rfl (fun _ hK => p_load1f (scT9) rfl (Ev.eq (.t .here))) (kb_cons (.head _) kb_nil) ?_
      refine g_v (listed' := bs 17 8191) 12 rfl (by kernel_rfl) rfl (fun _ => .on rfl rfl (.n 35 4 rfl) h34) rfl (fun _ hK => p_field (fldT72_0) rfl (Ev.eq (.t (.n 6 17 rfl))) (off' := 0) rfl) (kb_cons (.head _) kb_nil) ?_
      refine g_v (listed' := bs 17 16383) 13 rfl (by kernel_rfl) rfl (fun _ => .on rfl rfl (.n 35 5 rfl) h34) rfl (fun _ hK => m_load1 (scT9) rfl (Ev.eq (.t .here)) (hK _ (.head _)) .here) (kb_cons (.head _) kb_nil) ?_
      refine g_v (listed' := bs 17 32767) 14 rfl (by kernel_rfl) rfl (fun _ => .on rfl rfl (.n 35 6 rfl) h34) rfl (fun _ hK => opv_lss_s rfl (Ev.eq (.t (.n 39 2 rfl))) (Ev.eq (.t .here)) rfl) (kb_cons (.head _) kb_nil) ?_
      refine g_v (listed' := bs 17 65535) 15 rfl (by kernel_rfl) rfl (fun _ => .on rfl rfl (.n 31 11 rfl) h30) rfl (fun _ hK => opv_pick_f rfl (Ev.eq (.t (.n 35 7 rfl))) h34 (Ev.eq (.t .here))) (kb_cons (.head _) kb_nil) ?_
      refine g_v (listed' := bs 17 131071) 16 rfl (by kernel_rfl) rfl (fun _ => .plain rfl) rfl (fun _ hK => opv_pick_t rfl (Ev.eq (.t (.n 31 12 rfl))) h30 (Ev.eq (.t .here))) (kb_cons (.head _) kb_nil) ?_
      refine g_end (by kernel_rfl) ?_
      refine psplit (.n 42 2 rfl) (fun h42 => ?_) (fun h42 => ?_)
      ·
       have q42 := h42
       try simp only [zs, List.length_map, bl_inj, encTries_len] at q42
       refine pcond_t (.t .here) h42 ?_
       refine awp_region ?_
       refine lv (.plain rfl) rfl rfl (opv_move rfl (Ev.eq (.t (.n 8 17 rfl)))) ?_
       refine lv (.plain rfl) rfl rfl (p_index (slT38) rfl (Ev.eq (.t .here)) (Ev.eq .i) (by decide) (show ((lI A B C i).map encEnt)[((0 : Int)).toNat]? = some (encEnt e) by rw [hx]; rfl) rfl) ?_
       refine lv (.plain rfl) rfl rfl (p_fieldf (fldT43_0) rfl (Ev.eq (.t .here)) rfl) ?_
       refine lv (.plain rfl) rfl rfl (p_load1f (scT9) rfl (Ev.eq (.t .here))) ?_
       refine lv (.plain rfl) rfl rfl (p_field (fldT72_0) rfl (Ev.eq (.t (.n 6 26 rfl))) (off' := 0) rfl) ?_
       refine l_store1 Tryd.sizeOf9 (.plain rfl) rfl rfl (.t .here) (.t (.n 48 1 rfl)) rfl .here .here ?_
       refine awpL_nil ?_
       refine awp_region ?_
       refine lv (.plain rfl) rfl rfl (opv_add rfl (Ev.eq (.t (.n 25 29 rfl))) (Ev.eq .i) (wr64 (by omega) (by omega)) rfl) ?_
       refine lv (.plain rfl) rfl rfl (opv_move rfl (Ev.eq (.t .here))) ?_
       refine awpL_nil ?_
       refine ⟨(i + 1, e.path), by dsimp only; omega, ⟨by dsimp only; omega, by dsimp only; rw [mpI_step (by omega), ← hp]; rw [hx, mpF, if_pos (by simp_all [bl_inj, LS])]⟩, weak_both (.ce (.n 0 27 rfl) (by first | rfl | (simp; done) | (simp; omega)) (.ce (.n 3 28 rfl) (by first | rfl | (simp; done) | (simp; omega)) (.ce (.n 6 29 rfl) (by first | rfl | (simp; done) | (simp; omega)) (.ce (.n 24 30 rfl) (by first | rfl | (simp; done) | (simp; omega)) (.ce .here (by first | rfl | (simp; done) | (simp; omega)) .nil))))) (List.Sublist.refl _)⟩
      ·
       have q42 := h42
       try simp only [zs, List.length_map, bl_inj, encTries_len] at q42
       refine pcond_f (.t .here) h42 ?_
       refine awp_skip ?_
       refine awp_region ?_
       refine lv (.plain rfl) rfl rfl (opv_add rfl (Ev.eq (.t (.n 25 24 rfl))) (Ev.eq .i) (wr64 (by omega) (by omega)) rfl) ?_
       refine lv (.plain rfl) rfl rfl (opv_move rfl (Ev.eq (.t .here))) ?_
       refine awpL_nil ?_
       refine ⟨(i + 1, p), by dsimp only; omega, ⟨by dsimp only; omega, by dsimp only; rw [mpI_step (by omega), ← hp]; cases hx : lI A B C i with | nil => rfl | cons e rest => (rw [mpF, if_neg (by simp_all [bl_inj, LS])])⟩, weak_both (.ce (.n 0 22 rfl) (by first | rfl | (simp; done) | (simp; omega)) (.ce (.n 3 23 rfl) (by first | rfl | (simp; done) | (simp; omega)) (.ce (.n 6 24 rfl) (by first | rfl | (simp; done) | (simp; omega)) (.ce (.n 24 25 rfl) (by first | rfl | (simp; done) | (simp; omega)) (.ce .here (by first | rfl | (simp; done) | (simp; omega)) .nil))))) (List.Sublist.refl _)⟩
    ·
     have q30 := h30
     try simp only [zs, List.length_map, bl_inj, encTries_len] at q30
     refine g_o (listed' := bs 17 31) 4 rfl (by kernel_rfl) rfl (fun _ => .off rfl rfl .here h30) rfl (kb_cons (.head _) kb_nil) ?_
     refine g_o (listed' := bs 17 63) 5 rfl (by kernel_rfl) rfl (fun _ => .off rfl rfl (.n 31 1 rfl) h30) rfl (kb_cons (.head _) kb_nil) ?_
     refine g_o (listed' := bs 17 127) 6 rfl (by kernel_rfl) rfl (fun _ => .off rfl rfl (.n 31 2 rfl) h30) rfl (kb_cons (.head _) kb_nil) ?_
     refine g_o (listed' := bs 17 255) 7 rfl (by kernel_rfl) rfl (fun _ => .off rfl rfl (.n 31 3 rfl) h30) rfl (kb_cons (.head _) kb_nil) ?_
     refine g_o (listed' := bs 17 511) 8 rfl (by kernel_rfl) rfl (fun _ => .no rfl rfl .here) rfl (kb_cons (.head _) kb_nil) ?_
     refine g_o (listed' := bs 17 1023) 9 rfl (by kernel_rfl) rfl (fun _ => .no rfl rfl (.n 35 1 rfl)) rfl (kb_cons (.head _) kb_nil) ?_
     refine g_o (listed' := bs 17 2047) 10 rfl (by kernel_rfl) rfl (fun _ => .no rfl rfl (.n 35 2 rfl)) rfl (kb_cons (.head _) kb_nil) ?_
     refine g_o (listed' := bs 17 4095) 11 rfl (by kernel_rfl) rfl (fun _ => .no rfl rfl (.n 35 3 rfl)) rfl (kb_cons (.head _) kb_nil) ?_
     refine g_o (listed' := bs 17 8191) 12 rfl (by kernel_rfl) rfl (fun _ => .no rfl rfl (.n 35 4 rfl)) rfl (kb_cons (.head _) kb_nil) ?_
     refine g_o (listed' := bs 17 16383) 13 rfl (by kernel_rfl) rfl (fun _ => .no rfl rfl (.n 35 5 rfl)) rfl (kb_cons (.head _) kb_nil) ?_
     refine g_o (listed' := bs 17 32767) 14 rfl (by kernel_rfl) rfl (fun _ => .no rfl rfl (.n 35 6 rfl)) rfl (kb_cons (.head _) kb_nil) ?_
     refine g_o (listed' := bs 17 65535) 15 rfl (by kernel_rfl) rfl (fun _ => .off rfl rfl (.n 31 11 rfl) h30) rfl (kb_cons (.head _) kb_nil) ?_
     refine g_v (listed' := bs 17 131071) 16 rfl (by kernel_rfl) rfl (fun _ => .plain rfl) rfl (fun _ hK => opv_pick_f rfl (Ev.eq (.t (.n 31 12 rfl))) h30 (Ev.eq .b)) (kb_cons (.head _) kb_nil) ?_
     refine g_end (by kernel_rfl) ?_
     refine pcond_f (.t .here) rfl ?_
     refine awp_skip ?_
     refine awp_region ?_
     refine lv (.plain rfl) rfl rfl (opv_add rfl (Ev.eq (.t (.n 25 24 rfl))) (Ev.eq .i) (wr64 (by omega) (by omega)) rfl) ?_
     refine lv (.plain rfl) rfl rfl (opv_move rfl (Ev.eq (.t .here))) ?_
     refine awpL_nil ?_
     refine ⟨(i + 1, p), by dsimp only; omega, ⟨by dsimp only; omega, by dsimp only; rw [mpI_step (by omega), ← hp]; cases hx : lI A B C i with | nil => rfl | cons e rest => (rw [mpF, if_neg (by simp_all [bl_inj, LS])])⟩, weak_both (.ce (.n 0 22 rfl) (by first | rfl | (simp; done) | (simp; omega)) (.ce (.n 3 23 rfl) (by first | rfl | (simp; done) | (simp; omega)) (.ce (.n 6 24 rfl) (by first | rfl | (simp; done) | (simp; omega)) (.ce (.n 24 25 rfl) (by first | rfl | (simp; done) | (simp; omega)) (.ce .here (by first | rfl | (simp; done) | (simp; omega)) .nil))))) (List.Sublist.refl _)⟩
   ·
    have q26 := h26
    try simp only [zs, List.length_map, bl_inj, encTries_len] at q26
    refine pcond_f (.t .here) h26 ?_
    refine awp_exit ?_
    refine awp_seq ?_
    refine awp_seq ?_
    refine awp_region ?_
    refine lv (.plain rfl) rfl rfl (p_field (fldT72_0) rfl (Ev.eq (.t (.n 6 3 rfl))) (off' := 0) rfl) ?_
    refine lv (.plain rfl) rfl rfl (q_load1 (scT9) rfl (Ev.eq (.t .here)) .here .here) ?_
    refine lv (.plain rfl) rfl rfl (opv_eql_s rfl (Ev.eq (.t .here)) (Ev.eq .s) rfl) ?_
    refine awpL_nil ?_
    refine psplit .here (fun h53 => ?_) (fun h53 => ?_)
    ·
     have q53 := h53
     try simp only [zs, List.length_map, bl_inj, encTries_len] at q53
     refine pcond_t (.t .here) h53 ?_
     refine awp_ret ?_
     refine ret_now (.none) (Cast.drop _ (.cons _ (.cons _ (List.Sublist.refl _)))) ?_
     obtain rfl : i = 3 := by omega
     have hz : (minF A B C) = ⟨#[]⟩ := by rw [← show p = (minF A B C) from hp]; simpa [bl_inj] using q53
     obtain ⟨f', rfl⟩ : ∃ f', f = f' + 1 := ⟨f - 1, by omega⟩
     rw [sidesF, if_pos hz] at hX
     have hjl : j = (sidesF F0 (eL ts 0) (eL ts 1) (eL ts 2)).length := by have h1 := congrArg List.length hX; simp at h1; omega
     show Hs ((sidesF F0 (eL ts 0) (eL ts 1) (eL ts 2)).map aSide).length hc
     rw [List.length_map, ← hjl]
     exact hH
    ·
     have q53 := h53
     try simp only [zs, List.length_map, bl_inj, encTries_len] at q53
     refine pcond_f (.t .here) h53 ?_
     refine awp_skip ?_
     refine awp_seq ?_
     refine awp_seq ?_
     refine awp_region ?_
     refine lv (.plain rfl) rfl rfl (q_loadn (agT106) rfl (Ev.eq (.t (.n 3 5 rfl))) (.there .here) rfl) ?_
     refine lv (.plain rfl) rfl rfl (opv_move rfl (Ev.eq .i)) ?_
     refine awpL_nil ?_
     refine awp_block ?_
     obtain rfl : i = 3 := by omega
     obtain rfl : p = (minF A B C) := hp
     refine ploop (fun (a : Nat × (Nat → List Row) × (Nat → List Ent)) => ⟨87, [(0, .fn (.yield L) []), (3, .ptr g1 0), (6, .ptr g5 0), (54, .agg [.d (dEnts A), .d (dEnts B), .d (dEnts C)]), (55, .d (.i .i64 (a.1 : Int)))], (g5, .var 72 [.d (.s (minF A B C)), .d (dRows (a.2.1 0)), .d (dRows (a.2.1 1)), .d (dRows (a.2.1 2))]) :: (g1, .var 106 [.d (dEnts (a.2.2 0)), .d (dEnts (a.2.2 1)), .d (dEnts (a.2.2 2))]) :: hc, []⟩) (fun a => a.1 ≤ 3 ∧ ∀ j, j < 3 → a.2.1 j = (if j < a.1 then hdF (minF A B C) (lI A B C j) else []) ∧ a.2.2 j = (if j < a.1 then tlF (minF A B C) (lI A B C j) else lI A B C j)) (fun a => 3 - a.1) ((0, fun _ => [], lI A B C)) (weak_both (.ce (.n 0 6 rfl) (by first | rfl | (simp; done) | (simp; omega)) (.ce (.n 3 7 rfl) (by first | rfl | (simp; done) | (simp; omega)) (.ce (.n 6 8 rfl) (by first | rfl | (simp; done) | (simp; omega)) (.ce (.n 54 1 rfl) (by first | rfl | (simp; done) | (simp; omega)) (.ce .here (by first | rfl | (simp; done) | (simp; omega)) .nil))))) (List.Sublist.refl _)) (⟨Nat.zero_le _, fun j hj => ⟨(if_neg (Nat.not_lt_zero _)).symm, (if_neg (Nat.not_lt_zero _)).symm⟩⟩) ?_
     rintro ⟨i, fR, fL⟩ ⟨hi, hfs⟩
     dsimp only at hi hfs
     refine awp_seq ?_
     refine awp_region ?_
     refine lv (.plain rfl) rfl rfl (opv_lss rfl (Ev.eq (.t (.n 55 4 rfl))) (Ev.eq .i) rfl) ?_
     refine awpL_nil ?_
     refine awp_seq ?_
     refine psplit .here (fun h56 => ?_) (fun h56 => ?_)
     ·
      have q56 := h56
      try simp only [zs, List.length_map, bl_inj, encTries_len] at q56
      refine pcond_t (.t .here) h56 ?_
      refine awp_skip ?_
      refine awp_seq ?_
      refine awp_block ?_
      refine awp_seq ?_
      refine awp_region ?_
      refine lv (.plain rfl) rfl rfl (opv_move rfl (Ev.eq (.t (.n 55 5 rfl)))) ?_
      refine lv (.plain rfl) rfl rfl (p_index_agg Tryd.underlying106 scT38 Tryd.sizeOf38 rfl (Ev.eq (.t (.n 54 5 rfl))) (Ev.eq (.t (.n 55 6 rfl))) (by omega) (by omega) (lI_at (by omega))) ?_
      refine lv (.plain rfl) rfl rfl (opv_assign rfl (Ev.eq (.t (.n 57 1 rfl)))) ?_
      refine lv (.plain rfl) rfl rfl (opv_assign rfl (Ev.eq (.t (.n 58 1 rfl)))) ?_
      refine awpL_nil ?_
      refine awp_seq ?_
      refine g_draw mixed (kb_cons (.head _) kb_nil) (by kernel_rfl) (fuel := 12) rfl rfl ?_
      refine g_v (listed' := bs 12 1) 0 rfl (by kernel_rfl) rfl (fun _ => .plain rfl) rfl (fun _ hK => opv_move rfl (Ev.eq (.t .here))) (kb_cons (.head _) kb_nil) ?_
      refine g_v (listed' := bs 12 3) 1 rfl (by kernel_rfl) rfl (fun _ => .plain rfl) rfl (fun _ hK => opv_len_sl Tryd.underlying38 rfl (Ev.eq (.t .here)) rfl) (kb_cons (.head _) kb_nil) ?_
      refine g_v (listed' := bs 12 7) 2 rfl (by kernel_rfl) rfl (fun _ => .plain rfl) rfl (fun _ hK => opv_gtr rfl (Ev.eq (.t .here)) (Ev.eq .i) rfl) (kb_cons (.head _) kb_nil) ?_
      refine g_v (listed' := bs 12 15) 3 rfl (by kernel_rfl) rfl (fun _ => .plain rfl) rfl (fun _ hK => opv_move rfl (Ev.eq (.t .here))) (kb_cons (.head _) kb_nil) ?_
      refine gsplit (.n 61 1 rfl) (fun h61 => ?_) (fun h61 => ?_)
      ·
       have q61 := h61
       try simp only [zs, List.length_map, bl_inj, encTries_len] at q61
       refine g_v (listed' := bs 12 31) 4 rfl (by kernel_rfl) rfl (fun _ => .on rfl rfl .here h61) rfl (fun _ hK => opv_move rfl (Ev.eq (.t (.n 10 4 rfl)))) (kb_cons (.head _) kb_nil) ?_
       obtain ⟨e, rest, hx⟩ : ∃ e rest, lI A B C i = e :: rest := by cases hq : lI A B C i with | nil => (rw [hq] at q61; simp at q61) | cons e r => exact ⟨e, r, rfl⟩
       refine g_v (listed' := bs 12 63) 5 rfl (by kernel_rfl) rfl (fun _ => .on rfl rfl (.n 62 1 rfl) h61) rfl (fun _ hK => p_index (slT38) rfl (Ev.eq (.t .here)) (Ev.eq .i) (by decide) (show ((lI A B C i).map encEnt)[((0 : Int)).toNat]? = some (encEnt e) by rw [hx]; rfl) rfl) (kb_cons (.head _) kb_nil) ?_
       refine g_v (listed' := bs 12 127) 6 rfl (by kernel_rfl) rfl (fun _ => .on rfl rfl (.n 62 2 rfl) h61) rfl (fun _ hK => p_fieldf (fldT43_0) rfl (Ev.eq (.t .here)) rfl) (kb_cons (.head _) kb_nil) ?_
       refine g_v (listed' := bs 12 255) 7 rfl (by kernel_rfl) rfl (fun _ => .on rfl rfl (.n 62 3 rfl) h61) rfl (fun _ hK => p_load1f (scT9) rfl (Ev.eq (.t .here))) (kb_cons (.head _) kb_nil) ?_
       refine g_v (listed' := bs 12 511) 8 rfl (by kernel_rfl) rfl (fun _ => .on rfl rfl (.n 62 4 rfl) h61) rfl (fun _ hK => p_field (fldT72_0) rfl (Ev.eq (.t (.n 6 15 rfl))) (off' := 0) rfl) (kb_cons (.head _) kb_nil) ?_
       refine g_v (listed' := bs 12 1023) 9 rfl (by kernel_rfl) rfl (fun _ => .on rfl rfl (.n 62 5 rfl) h61) rfl (fun _ hK => m_load1 (scT9) rfl (Ev.eq (.t .here)) (hK _ (.head _)) .here) (kb_cons (.head _) kb_nil) ?_
       refine g_v (listed' := bs 12 2047) 10 rfl (by kernel_rfl) rfl (fun _ => .on rfl rfl (.n 62 6 rfl) h61) rfl (fun _ hK => opv_eql_s rfl (Ev.eq (.t (.n 66 2 rfl))) (Ev.eq (.t .here)) rfl) (kb_cons (.head _) kb_nil) ?_
       refine g_v (listed' := bs 12 4095) 11 rfl (by kernel_rfl) rfl (fun _ => .plain rfl) rfl (fun _ hK => opv_pick_t rfl (Ev.eq (.t (.n 62 7 rfl))) h61 (Ev.eq (.t .here))) (kb_cons (.head _) kb_nil) ?_
       refine g_end (by kernel_rfl) ?_
       refine psplit (.n 69 1 rfl) (fun h69 => ?_) (fun h69 => ?_)
       ·
        have q69 := h69
        try simp only [zs, List.length_map, bl_inj, encTries_len] at q69
        refine pcond_t (.t .here) h69 ?_
        refine g_draw mixed kb_nil (by kernel_rfl) (fuel := 13) rfl rfl ?_
        refine g_v (listed' := bs 13 1) 0 rfl (by kernel_rfl) rfl (fun _ => .plain rfl) rfl (fun _ hK => opv_move rfl (Ev.eq (.t (.n 9 13 rfl)))) kb_nil ?_
        refine g_v (listed' := bs 13 3) 1 rfl (by kernel_rfl) rfl (fun _ => .plain rfl) rfl (fun _ hK => opv_move rfl (Ev.eq (.t (.n 9 14 rfl)))) kb_nil ?_
        refine g_v (listed' := bs 13 7) 2 rfl (by kernel_rfl) rfl (fun _ => .plain rfl) rfl (fun _ hK => opv_move rfl (Ev.eq (.t (.n 10 14 rfl)))) kb_nil ?_
        refine g_v (listed' := bs 13 15) 3 rfl (by kernel_rfl) rfl (fun _ => .plain rfl) rfl (fun _ hK => p_index (slT38) rfl (Ev.eq (.t .here)) (Ev.eq .i) (by decide) (show ((lI A B C i).map encEnt)[((0 : Int)).toNat]? = some (encEnt e) by rw [hx]; rfl) rfl) kb_nil ?_
        refine g_v (listed' := bs 13 31) 4 rfl (by kernel_rfl) rfl (fun _ => .plain rfl) rfl (fun _ hK => p_fieldf (fldT43_1) rfl (Ev.eq (.t .here)) rfl) kb_nil ?_
        refine g_v (listed' := bs 13 63) 5 rfl (by kernel_rfl) rfl (fun _ => .plain rfl) rfl (fun _ hK => p_load1f (scT22) rfl (Ev.eq (.t .here))) kb_nil ?_
        refine g_v (listed' := bs 13 127) 6 rfl (by kernel_rfl) rfl (fun _ => .plain rfl) rfl (fun _ hK => opv_move rfl (Ev.eq (.t (.n 10 18 rfl)))) kb_nil ?_
        refine g_v (listed' := bs 13 255) 7 rfl (by kernel_rfl) rfl (fun _ => .plain rfl) rfl (fun _ hK => p_slice_f slT38 rfl (Ev.eq (.t .here)) ⟨_, (Ev.eq .i)⟩ rfl (ys := rest.map encEnt) (by decide) (by rw [hx]; simp; omega) (by omega) (by intro r hr; obtain ⟨e, _, rfl⟩ := List.mem_map.1 hr; rfl) (by rw [hx]; exact List.take_of_length_le (by simp))) kb_nil ?_
        refine g_v (listed' := bs 13 511) 8 rfl (by kernel_rfl) rfl (fun _ => .plain rfl) rfl (fun _ hK => p_field (fldT72_1) rfl (Ev.eq (.t (.n 6 27 rfl))) (off' := 1) rfl) kb_nil ?_
        refine g_v (listed' := bs 13 1023) 9 rfl (by kernel_rfl) rfl (fun _ => .plain rfl) rfl (fun _ hK => p_index_arr (off' := 1 + i) Tryd.underlying70 Tryd.sizeOf22 rfl (Ev.eq (.t .here)) (Ev.eq (.t (.n 71 8 rfl))) (by omega) (by omega) (by simp)) kb_nil ?_
        refine g_x0 (listed' := bs 13 2047) 10 (by kernel_rfl) rfl rfl (.plain rfl) rfl (x_store1 Tryd.sizeOf22 rfl (.t .here) (.t (.n 76 4 rfl)) rfl (by rw [Nat.add_comm]; exact .there (put3 (f := fun j => .d (dRows (fR j))) (g := fun j => .d (dRows (if j = i then e.rows else fR j))) (by omega) (fun j => by by_cases hj : j = i; (simp only [hj, if_true]; try rfl); (simp only [hj, if_false])))) .here) ?_
        rintro _ _ rfl
        refine ⟨kb_nil, ?_⟩
        refine g_v (listed' := bs 13 4095) 11 rfl (by kernel_rfl) rfl (fun _ => .plain rfl) rfl (fun _ hK => p_index_arr (off' := i) Tryd.underlying106 Tryd.sizeOf38 rfl (Ev.eq (.t (.n 3 28 rfl))) (Ev.eq (.t (.n 72 8 rfl))) (by omega) (by omega) (by simp)) kb_nil ?_
        refine g_x0 (listed' := bs 13 8191) 12 (by kernel_rfl) rfl rfl (.plain rfl) rfl (x_store1 Tryd.sizeOf38 rfl (.t .here) (.t (.n 78 3 rfl)) rfl (put3 (f := fun j => .d (dEnts (fL j))) (g := fun j => .d (dEnts (if j = i then rest else fL j))) (by omega) (fun j => by by_cases hj : j = i; (simp only [hj, if_true]; try rfl); (simp only [hj, if_false]))) (.there .here)) ?_
        rintro _ _ rfl
        refine ⟨kb_nil, ?_⟩
        refine g_end (by kernel_rfl) ?_
        refine awp_region ?_
        refine lv (.plain rfl) rfl rfl (opv_add rfl (Ev.eq (.t (.n 55 32 rfl))) (Ev.eq .i) (wr64 (by omega) (by omega)) rfl) ?_
        refine lv (.plain rfl) rfl rfl (opv_move rfl (Ev.eq (.t .here))) ?_
        refine awpL_nil ?_
        have q69x : e.path = (minF A B C) := by simpa [bl_inj] using q69
        refine ⟨(i + 1, (fun j => if j = i then e.rows else fR j), (fun j => if j = i then rest else fL j)), by dsimp only; omega, ⟨by dsimp only; omega, step_yes hx (q69x) hfs⟩, weak_both (.ce (.n 0 30 rfl) (by first | rfl | (simp; done) | (simp; omega)) (.ce (.n 3 31 rfl) (by first | rfl | (simp; done) | (simp; omega)) (.ce (.n 6 32 rfl) (by first | rfl | (simp; done) | (simp; omega)) (.ce (.n 54 33 rfl) (by first | rfl | (simp; done) | (simp; omega)) (.ce .here (by first | rfl | (simp; done) | (simp; omega)) .nil))))) (List.Sublist.refl _)⟩
       ·
        have q69 := h69
        try simp only [zs, List.length_map, bl_inj, encTries_len] at q69
        refine pcond_f (.t .here) h69 ?_
        refine awp_skip ?_
        refine awp_region ?_
        refine lv (.plain rfl) rfl rfl (opv_add rfl (Ev.eq (.t (.n 55 21 rfl))) (Ev.eq .i) (wr64 (by omega) (by omega)) rfl) ?_
        refine lv (.plain rfl) rfl rfl (opv_move rfl (Ev.eq (.t .here))) ?_
        refine awpL_nil ?_
        have hno : ∀ e rest, lI A B C i = e :: rest → e.path ≠ (minF A B C) := by intro e rest hx; simp_all [bl_inj]
        refine ⟨(i + 1, fR, fL), by dsimp only; omega, ⟨by dsimp only; omega, step_no (by omega) hno hfs⟩, weak_both (.ce (.n 0 19 rfl) (by first | rfl | (simp; done) | (simp; omega)) (.ce (.n 3 20 rfl) (by first | rfl | (simp; done) | (simp; omega)) (.ce (.n 6 21 rfl) (by first | rfl | (simp; done) | (simp; omega)) (.ce (.n 54 22 rfl) (by first | rfl | (simp; done) | (simp; omega)) (.ce .here (by first | rfl | (simp; done) | (simp; omega)) .nil))))) (List.Sublist.refl _)⟩
      ·
       have q61 := h61
       try simp only [zs, List.length_map, bl_inj, encTries_len] at q61
       refine g_o (listed' := bs 12 31) 4 rfl (by kernel_rfl) rfl (fun _ => .off rfl rfl .here h61) rfl (kb_cons (.head _) kb_nil) ?_
       refine g_o (listed' := bs 12 63) 5 rfl (by kernel_rfl) rfl (fun _ => .off rfl rfl (.n 62 1 rfl) h61) rfl (kb_cons (.head _) kb_nil) ?_
       refine g_o (listed' := bs 12 127) 6 rfl (by kernel_rfl) rfl (fun _ => .off rfl rfl (.n 62 2 rfl) h61) rfl (kb_cons (.head _) kb_nil) ?_
       refine g_o (listed' := bs 12 255) 7 rfl (by kernel_rfl) rfl (fun _ => .off rfl rfl (.n 62 3 rfl) h61) rfl (kb_cons (.head _) kb_nil) ?_
       refine g_o (listed' := bs 12 511) 8 rfl (by kernel_rfl) rfl (fun _ => .off rfl rfl (.n 62 4 rfl) h61) rfl (kb_cons (.head _) kb_nil) ?_
       refine g_o (listed' := bs 12 1023) 9 rfl (by kernel_rfl) rfl (fun _ => .off rfl rfl (.n 62 5 rfl) h61) rfl (kb_cons (.head _) kb_nil) ?_
       refine g_o (listed' := bs 12 2047) 10 rfl (by kernel_rfl) rfl (fun _ => .off rfl rfl (.n 62 6 rfl) h61) rfl (kb_cons (.head _) kb_nil) ?_
       refine g_v (listed' := bs 12 4095) 11 rfl (by kernel_rfl) rfl (fun _ => .plain rfl) rfl (fun _ hK => opv_pick_f rfl (Ev.eq (.t (.n 62 7 rfl))) h61 (Ev.eq .b)) (kb_cons (.head _) kb_nil) ?_
       refine g_end (by kernel_rfl) ?_
       refine pcond_f (.t .here) rfl ?_
       refine awp_skip ?_
       refine awp_region ?_
       refine lv (.plain rfl) rfl rfl (opv_add rfl (Ev.eq (.t (.n 55 21 rfl))) (Ev.eq .i) (wr64 (by omega) (by omega)) rfl) ?_
       refine lv (.plain rfl) rfl rfl (opv_move rfl (Ev.eq (.t .here))) ?_
       refine awpL_nil ?_
       have hno : ∀ e rest, lI A B C i = e :: rest → e.path ≠ (minF A B C) := by intro e rest hx; simp_all [bl_inj]
       refine ⟨(i + 1, fR, fL), by dsimp only; omega, ⟨by dsimp only; omega, step_no (by omega) hno hfs⟩, weak_both (.ce (.n 0 19 rfl) (by first | rfl | (simp; done) | (simp; omega)) (.ce (.n 3 20 rfl) (by first | rfl | (simp; done) | (simp; omega)) (.ce (.n 6 21 rfl) (by first | rfl | (simp; done) | (simp; omega)) (.ce (.n 54 22 rfl) (by first | rfl | (simp; done) | (simp; omega)) (.ce .here (by first | rfl | (simp; done) | (simp; omega)) .nil))))) (List.Sublist.refl _)⟩
     ·
      have q56 := h56
      try simp only [zs, List.length_map, bl_inj, encTries_len] at q56
      refine pcond_f (.t .here) h56 ?_
      refine awp_exit ?_
      refine awp_seq ?_
      obtain rfl : i = 3 := by omega
      have e0 : fL 0 = tlF (minF A B C) A := (hfs 0 (by omega)).2
      have e1 : fL 1 = tlF (minF A B C) B := (hfs 1 (by omega)).2
      have e2 : fL 2 = tlF (minF A B C) C := (hfs 2 (by omega)).2
      have r0 : fR 0 = hdF (minF A B C) A := (hfs 0 (by omega)).1
      have r1 : fR 1 = hdF (minF A B C) B := (hfs 1 (by omega)).1
      have r2 : fR 2 = hdF (minF A B C) C := (hfs 2 (by omega)).1
      obtain ⟨m1, m2, m3⟩ := min_spec gA gB gC
      have hne : (minF A B C) ≠ ⟨#[]⟩ := by simpa [bl_inj] using q53
      have tA := tl_spec gA (fun x hx => m3 x (.inl hx))
      have tB := tl_spec gB (fun x hx => m3 x (.inr (.inl hx)))
      have tC := tl_spec gC (fun x hx => m3 x (.inr (.inr hx)))
      have hlt : (tlF (minF A B C) A).length + (tlF (minF A B C) B).length + (tlF (minF A B C) C).length < A.length + B.length + C.length := by
        obtain ⟨x0, hx0, hq0⟩ := m2 hne
        have h1 := tA.2.2.2.2.1
        have h2 := tB.2.2.2.2.1
        have h3 := tC.2.2.2.2.1
        rcases hx0 with hx | hx | hx
        · have := tA.2.2.2.2.2 ⟨x0, hx, hq0⟩; omega
        · have := tB.2.2.2.2.2 ⟨x0, hx, hq0⟩; omega
        · have := tC.2.2.2.2.2 ⟨x0, hx, hq0⟩; omega
      obtain ⟨f', rfl⟩ : ∃ f', f = f' + 1 := ⟨f - 1, by omega⟩
      rw [sidesF, if_neg hne] at hX
      have hjx : (sidesF F0 (eL ts 0) (eL ts 1) (eL ts 2))[j]? = some ⟨(minF A B C), hdF (minF A B C) A, hdF (minF A B C) B, hdF (minF A B C) C⟩ := by have h1 := congrArg (fun l => l[0]?) hX; simpa using h1
      have hjl := (List.getElem?_eq_some_iff.1 hjx).1
      have hxj : ((sidesF F0 (eL ts 0) (eL ts 1) (eL ts 2)).map aSide)[j]? = some (.agg [.d (.s (minF A B C)), .d (dRows (fR 0)), .d (dRows (fR 1)), .d (dRows (fR 2))]) := by rw [List.getElem?_map, hjx, r0, r1, r2]; rfl
      refine awp_region ?_
      refine lv (.plain rfl) rfl rfl (opv_move rfl (Ev.eq (.t (.n 0 1 rfl)))) ?_
      refine lv (.plain rfl) rfl rfl (q_loadn (agT72) rfl (Ev.eq (.t (.n 6 4 rfl))) .here rfl) ?_
      refine l_xd (.plain rfl) rfl rfl (x_yield (hf := [_, _]) rfl (.t (.n 83 1 rfl)) (.cons (.t .here) .nil) rfl (hy j _ hc hxj hH)) ?_
      rintro _ _ ⟨rfl, h9, hh9, rfl⟩
      dsimp only [List.cons_append, List.nil_append]
      refine lv (.plain rfl) rfl rfl (opv_not rfl (Ev.eq (.t .here)) rfl) ?_
      refine awpL_nil ?_
      refine pcond_f (.t .here) rfl ?_
      refine awp_skip ?_
      refine ⟨(j + 1, fL 0, fL 1, fL 2, h9), by dsimp only; rw [e0, e1, e2]; exact hlt, ⟨⟨by dsimp only; rw [e0]; exact tA.1, by dsimp only; rw [e1]; exact tB.1, by dsimp only; rw [e2]; exact tC.1⟩, hh9, by dsimp only; omega, f', by dsimp only; rw [e0, e1, e2]; omega, by dsimp only; rw [e0, e1, e2, show (sidesF F0 (eL ts 0) (eL ts 1) (eL ts 2)).drop (j + 1) = ((sidesF F0 (eL ts 0) (eL ts 1) (eL ts 2)).drop j).drop 1 from (by rw [List.drop_drop]), hX]; rfl⟩, weak_both (.ce (.n 0 5 rfl) (by first | rfl | (simp; done) | (simp; omega)) (.ce (.n 3 6 rfl) (by first | rfl | (simp; done) | (simp; omega)) .nil)) (.cons _ (List.Sublist.refl _))⟩
end Go.Proofs.YtjnkbmodcddbkaaDoor
