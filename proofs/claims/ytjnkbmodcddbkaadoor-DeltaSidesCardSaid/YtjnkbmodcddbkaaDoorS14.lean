/- The sort of what is sorted; Build. -/
import Derived.Test.YtjnkbmodcddbkaaDoorTy
import Derived.Test.YtjnkbmodcddbkaaDoorS13
set_option linter.unusedVariables false
set_option linter.unusedSimpArgs false
namespace Go.Proofs.YtjnkbmodcddbkaaDoor
open Go Go.RowKit
theorem f68_spec (x y : Ent) : FSpec Tryd.prog 68 [.agg [.d (.s x.path), .d (dRows x.rows)], .agg [.d (.s y.path), .d (dRows y.rows)]] (.d (.i .i64 (Lib.compareBytes (bl x.path) (bl y.path)))) := by
  refine acalls_of Tryd.func68 rfl Tryd.ntmps68 Tryd.results68 (by simp) ?_
  refine awp_seq ?_
  refine awp_region ?_
  refine l_box (.plain rfl) rfl rfl rfl (.t .here) rfl rfl (fun g1 ng1 => ?_)
  refine l_box (.plain rfl) rfl rfl rfl (.t (.n 1 2 rfl)) rfl rfl (fun g2 ng2 => ?_)
  refine lv (.plain rfl) rfl rfl (opv_assign rfl (Ev.eq .i)) ?_
  refine awpL_nil ?_
  refine awp_seq ?_
  refine awp_region ?_
  refine lv (.plain rfl) rfl rfl (p_field (fldT43_0) rfl (Ev.eq (.t (.n 2 2 rfl))) (off' := 0) rfl) ?_
  refine lv (.plain rfl) rfl rfl (q_load1 (scT9) rfl (Ev.eq (.t .here)) (.there .here) .here) ?_
  refine lv (.plain rfl) rfl rfl (p_field (fldT43_0) rfl (Ev.eq (.t (.n 3 3 rfl))) (off' := 0) rfl) ?_
  refine lv (.plain rfl) rfl rfl (q_load1 (scT9) rfl (Ev.eq (.t .here)) .here .here) ?_
  refine lv (.plain rfl) rfl rfl (q_call rfl .f Tryd.call69 (.cons (.t (.n 6 2 rfl)) (.cons (.t .here) .nil)) rfl (f69_spec _ _)) ?_
  refine lv (.plain rfl) rfl rfl (opv_assign rfl (Ev.eq (.t .here))) ?_
  refine awpL_nil ?_
  refine awp_ret ?_
  refine ret_now (.one (rv_t .here)) (Cast.all _ _) ?_
  exact ⟨rfl, rfl⟩
theorem cmp_more : ∀ {x y : List UInt8}, LS y x → 0 ≤ Lib.compareBytes x y
  | [], y, h => absurd h ls_nil
  | _ :: _, [], _ => by unfold Lib.compareBytes; decide
  | a :: x, b :: y, h => by
    rw [Lib.compareBytes]
    rcases ls_cons.1 h with h1 | h1
    · rw [if_neg (by rw [UInt8.lt_iff_toNat_lt]; omega), if_pos (by rw [UInt8.lt_iff_toNat_lt]; exact h1)]
      decide
    · rw [if_neg (by rw [UInt8.lt_iff_toNat_lt]; omega), if_neg (by rw [UInt8.lt_iff_toNat_lt]; omega)]
      exact cmp_more h1.2
theorem f107_spec (l : List Ent) (hs : l.Pairwise ltE) (a b : Nat) (hb : b ≤ l.length) (hl : l.length ≤ 1000000) (ha : a ≤ b) : FSpec Tryd.prog 107 [.d (dEnts l), .d (.i .i64 (a : Int)), .d (.i .i64 (b : Int)), .fn (.func 68) []] (.tup []) := by
  refine acalls_of Tryd.func107 rfl Tryd.ntmps107 Tryd.results107 (by simp) ?_
  refine awp_seq ?_
  refine awp_region ?_
  refine lv (.plain rfl) rfl rfl (opv_move rfl (Ev.eq (.t (.n 1 1 rfl)))) ?_
  refine lv (.plain rfl) rfl rfl (opv_add rfl (Ev.eq (.t .here)) (Ev.eq .i) (wr64 (by omega) (by omega)) rfl) ?_
  refine lv (.plain rfl) rfl rfl (opv_assign rfl (Ev.eq (.t .here))) ?_
  refine awpL_nil ?_
  refine awp_block ?_
  refine ploop (fun (i : Nat) => ⟨53, [(0, .d (dEnts l)), (1, .d (.i .i64 (a : Int))), (2, .d (.i .i64 (b : Int))), (3, .fn (.func 68) []), (8, .d (.i .i64 (i : Int)))], [], []⟩) (fun i => a + 1 ≤ i ∧ i ≤ b + a + 1) (fun i => b - i) (a + 1) (weak_both (.ce (.n 0 3 rfl) (by first | rfl | (simp; done) | (simp; omega)) (.ce (.n 1 4 rfl) (by first | rfl | (simp; done) | (simp; omega)) (.ce (.n 2 5 rfl) (by first | rfl | (simp; done) | (simp; omega)) (.ce (.n 3 6 rfl) (by first | rfl | (simp; done) | (simp; omega)) (.ce .here (by first | rfl | (simp; done) | (simp; omega)) .nil))))) (List.Sublist.refl _)) (⟨by omega, by omega⟩) ?_
  rintro i ⟨hi, hib⟩
  refine awp_seq ?_
  refine awp_seq ?_
  refine awp_region ?_
  refine lv (.plain rfl) rfl rfl (opv_move rfl (Ev.eq (.t (.n 8 4 rfl)))) ?_
  refine lv (.plain rfl) rfl rfl (opv_move rfl (Ev.eq (.t (.n 2 3 rfl)))) ?_
  refine lv (.plain rfl) rfl rfl (opv_lss rfl (Ev.eq (.t (.n 12 1 rfl))) (Ev.eq (.t .here)) rfl) ?_
  refine awpL_nil ?_
  refine psplit .here (fun h14 => ?_) (fun h14 => ?_)
  ·
   have q14 := h14
   try simp only [zs, List.length_map] at q14
   refine pcond_t (.t .here) h14 ?_
   refine awp_skip ?_
   refine awp_seq ?_
   refine awp_block ?_
   refine awp_seq ?_
   refine awp_region ?_
   refine lv (.plain rfl) rfl rfl (opv_move rfl (Ev.eq (.t (.n 8 7 rfl)))) ?_
   refine lv (.plain rfl) rfl rfl (opv_assign rfl (Ev.eq (.t .here))) ?_
   refine awpL_nil ?_
   refine awp_block ?_
   refine ploop (fun (_ : Unit) => ⟨53, [(0, .d (dEnts l)), (1, .d (.i .i64 (a : Int))), (2, .d (.i .i64 (b : Int))), (3, .fn (.func 68) []), (8, .d (.i .i64 (i : Int))), (9, .d (.i .i64 (i : Int)))], [], []⟩) (fun _ => True) (fun _ => 0) (()) (weak_both (.ce (.n 0 5 rfl) (by first | rfl | (simp; done) | (simp; omega)) (.ce (.n 1 6 rfl) (by first | rfl | (simp; done) | (simp; omega)) (.ce (.n 2 7 rfl) (by first | rfl | (simp; done) | (simp; omega)) (.ce (.n 3 8 rfl) (by first | rfl | (simp; done) | (simp; omega)) (.ce (.n 8 9 rfl) (by first | rfl | (simp; done) | (simp; omega)) (.ce .here (by first | rfl | (simp; done) | (simp; omega)) .nil)))))) (List.Sublist.refl _)) (trivial) ?_
   rintro ⟨⟩ _
   refine awp_seq ?_
   refine awp_seq ?_
   refine g_draw mixed kb_nil (by kernel_rfl) (fuel := 17) rfl rfl ?_
   refine g_v (listed' := bs 17 1) 0 rfl (by kernel_rfl) rfl (fun _ => .plain rfl) rfl (fun _ hK => opv_move rfl (Ev.eq (.t (.n 9 5 rfl)))) kb_nil ?_
   refine g_v (listed' := bs 17 3) 1 rfl (by kernel_rfl) rfl (fun _ => .plain rfl) rfl (fun _ hK => opv_move rfl (Ev.eq (.t (.n 1 2 rfl)))) kb_nil ?_
   refine g_v (listed' := bs 17 7) 2 rfl (by kernel_rfl) rfl (fun _ => .plain rfl) rfl (fun _ hK => opv_gtr rfl (Ev.eq (.t (.n 18 1 rfl))) (Ev.eq (.t .here)) rfl) kb_nil ?_
   refine g_v (listed' := bs 17 15) 3 rfl (by kernel_rfl) rfl (fun _ => .plain rfl) rfl (fun _ hK => opv_move rfl (Ev.eq (.t .here))) kb_nil ?_
   refine gsplit (.n 20 1 rfl) (fun h20 => ?_) (fun h20 => ?_)
   ·
    have q20 := h20
    try simp only [zs, List.length_map] at q20
    refine g_v (listed' := bs 17 31) 4 rfl (by kernel_rfl) rfl (fun _ => .on rfl rfl .here h20) rfl (fun _ hK => opv_move rfl (Ev.eq (.t (.n 3 7 rfl)))) kb_nil ?_
    refine g_v (listed' := bs 17 63) 5 rfl (by kernel_rfl) rfl (fun _ => .on rfl rfl (.n 21 1 rfl) h20) rfl (fun _ hK => opv_move rfl (Ev.eq (.t (.n 0 5 rfl)))) kb_nil ?_
    refine g_v (listed' := bs 17 127) 6 rfl (by kernel_rfl) rfl (fun _ => .on rfl rfl (.n 21 2 rfl) h20) rfl (fun _ hK => opv_move rfl (Ev.eq (.t (.n 9 11 rfl)))) kb_nil ?_
    obtain ⟨y, hy⟩ := some_at (l := l) (i := i) (by omega)
    obtain ⟨x, hx⟩ := some_at (l := l) (i := i - 1) (by omega)
    have hye := (List.getElem?_eq_some_iff.1 hy).2
    have hxe := (List.getElem?_eq_some_iff.1 hx).2
    refine g_v (listed' := bs 17 255) 7 rfl (by kernel_rfl) rfl (fun _ => .on rfl rfl (.n 21 3 rfl) h20) rfl (fun _ hK => p_index (slT38) rfl (Ev.eq (.t (.n 23 1 rfl))) (Ev.eq (.t .here)) (by omega) (by exact map_at hy) rfl) kb_nil ?_
    refine g_v (listed' := bs 17 511) 8 rfl (by kernel_rfl) rfl (fun _ => .on rfl rfl (.n 21 4 rfl) h20) rfl (fun _ hK => p_loadnf (agT43) rfl (Ev.eq (.t .here)) (Nat.le_of_ble_eq_true rfl) rfl) kb_nil ?_
    refine g_v (listed' := bs 17 1023) 9 rfl (by kernel_rfl) rfl (fun _ => .on rfl rfl (.n 21 5 rfl) h20) rfl (fun _ hK => opv_move rfl (Ev.eq (.t (.n 0 9 rfl)))) kb_nil ?_
    refine g_v (listed' := bs 17 2047) 10 rfl (by kernel_rfl) rfl (fun _ => .on rfl rfl (.n 21 6 rfl) h20) rfl (fun _ hK => opv_move rfl (Ev.eq (.t (.n 9 15 rfl)))) kb_nil ?_
    refine g_v (listed' := bs 17 4095) 11 rfl (by kernel_rfl) rfl (fun _ => .on rfl rfl (.n 21 7 rfl) h20) rfl (fun _ hK => opv_sub rfl (Ev.eq (.t .here)) (Ev.eq .i) (wr64 (by omega) (by omega)) rfl) kb_nil ?_
    refine g_v (listed' := bs 17 8191) 12 rfl (by kernel_rfl) rfl (fun _ => .on rfl rfl (.n 21 8 rfl) h20) rfl (fun _ hK => p_index (slT38) rfl (Ev.eq (.t (.n 27 2 rfl))) (Ev.eq (.t .here)) (by omega) (show (l.map encEnt)[(((i : Int) - 1)).toNat]? = some (encEnt x) by rw [show (((i : Int) - 1)).toNat = i - 1 by omega, List.getElem?_map, hx]; rfl) rfl) kb_nil ?_
    refine g_v (listed' := bs 17 16383) 13 rfl (by kernel_rfl) rfl (fun _ => .on rfl rfl (.n 21 9 rfl) h20) rfl (fun _ hK => p_loadnf (agT43) rfl (Ev.eq (.t .here)) (Nat.le_of_ble_eq_true rfl) rfl) kb_nil ?_
    refine g_v (listed' := bs 17 32767) 14 rfl (by kernel_rfl) rfl (fun _ => .on rfl rfl (.n 21 10 rfl) h20) rfl (fun _ hK => q_call rfl (.t (.n 22 9 rfl)) Tryd.call68 (.cons (.t (.n 26 5 rfl)) (.cons (.t .here) .nil)) rfl (f68_spec y x)) kb_nil ?_
    refine g_v (listed' := bs 17 65535) 15 rfl (by kernel_rfl) rfl (fun _ => .on rfl rfl (.n 21 11 rfl) h20) rfl (fun _ hK => opv_lss rfl (Ev.eq (.t .here)) (Ev.eq .i) rfl) kb_nil ?_
    refine g_v (listed' := bs 17 131071) 16 rfl (by kernel_rfl) rfl (fun _ => .plain rfl) rfl (fun _ hK => opv_pick_t rfl (Ev.eq (.t (.n 21 12 rfl))) h20 (Ev.eq (.t .here))) kb_nil ?_
    refine g_end (by kernel_rfl) ?_
    refine psplit (.n 33 1 rfl) (fun h33 => ?_) (fun h33 => ?_)
    ·
     have q33 := h33
     try simp only [zs, List.length_map] at q33
     refine pcond_t (.t .here) h33 ?_
     refine awp_skip ?_
     refine awp_seq ?_
     refine awp_block ?_
     exfalso
     have hc := cmp_more (x := bl y.path) (y := bl x.path) (List.pairwise_iff_getElem.1 hs _ _ _ _ (by omega : i - 1 < i) |> fun h => by rw [hxe, hye] at h; exact h)
     omega
    ·
     have q33 := h33
     try simp only [zs, List.length_map] at q33
     refine pcond_f (.t .here) h33 ?_
     refine awp_exit ?_
     refine awp_region ?_
     refine lv (.plain rfl) rfl rfl (opv_move rfl (Ev.eq (.t (.n 8 21 rfl)))) ?_
     refine lv (.plain rfl) rfl rfl (opv_add rfl (Ev.eq (.t .here)) (Ev.eq .i) (wr64 (by omega) (by omega)) rfl) ?_
     refine lv (.plain rfl) rfl rfl (opv_assign rfl (Ev.eq (.t .here))) ?_
     refine awpL_nil ?_
     refine ⟨i + 1, by omega, ⟨by omega, by omega⟩, weak_both (.ce (.n 0 20 rfl) (by first | rfl | (simp; done) | (simp; omega)) (.ce (.n 1 21 rfl) (by first | rfl | (simp; done) | (simp; omega)) (.ce (.n 2 22 rfl) (by first | rfl | (simp; done) | (simp; omega)) (.ce (.n 3 23 rfl) (by first | rfl | (simp; done) | (simp; omega)) (.ce .here (by first | rfl | (simp; done) | (simp; omega)) .nil))))) (List.Sublist.refl _)⟩
   ·
    have q20 := h20
    try simp only [zs, List.length_map] at q20
    refine g_o (listed' := bs 17 31) 4 rfl (by kernel_rfl) rfl (fun _ => .off rfl rfl .here h20) rfl kb_nil ?_
    refine g_o (listed' := bs 17 63) 5 rfl (by kernel_rfl) rfl (fun _ => .off rfl rfl (.n 21 1 rfl) h20) rfl kb_nil ?_
    refine g_o (listed' := bs 17 127) 6 rfl (by kernel_rfl) rfl (fun _ => .off rfl rfl (.n 21 2 rfl) h20) rfl kb_nil ?_
    refine g_o (listed' := bs 17 255) 7 rfl (by kernel_rfl) rfl (fun _ => .off rfl rfl (.n 21 3 rfl) h20) rfl kb_nil ?_
    refine g_o (listed' := bs 17 511) 8 rfl (by kernel_rfl) rfl (fun _ => .off rfl rfl (.n 21 4 rfl) h20) rfl kb_nil ?_
    refine g_o (listed' := bs 17 1023) 9 rfl (by kernel_rfl) rfl (fun _ => .off rfl rfl (.n 21 5 rfl) h20) rfl kb_nil ?_
    refine g_o (listed' := bs 17 2047) 10 rfl (by kernel_rfl) rfl (fun _ => .off rfl rfl (.n 21 6 rfl) h20) rfl kb_nil ?_
    refine g_o (listed' := bs 17 4095) 11 rfl (by kernel_rfl) rfl (fun _ => .off rfl rfl (.n 21 7 rfl) h20) rfl kb_nil ?_
    refine g_o (listed' := bs 17 8191) 12 rfl (by kernel_rfl) rfl (fun _ => .off rfl rfl (.n 21 8 rfl) h20) rfl kb_nil ?_
    refine g_o (listed' := bs 17 16383) 13 rfl (by kernel_rfl) rfl (fun _ => .off rfl rfl (.n 21 9 rfl) h20) rfl kb_nil ?_
    refine g_o (listed' := bs 17 32767) 14 rfl (by kernel_rfl) rfl (fun _ => .off rfl rfl (.n 21 10 rfl) h20) rfl kb_nil ?_
    refine g_o (listed' := bs 17 65535) 15 rfl (by kernel_rfl) rfl (fun _ => .off rfl rfl (.n 21 11 rfl) h20) rfl kb_nil ?_
    refine g_v (listed' := bs 17 131071) 16 rfl (by kernel_rfl) rfl (fun _ => .plain rfl) rfl (fun _ hK => opv_pick_f rfl (Ev.eq (.t (.n 21 12 rfl))) h20 (Ev.eq .b)) kb_nil ?_
    refine g_end (by kernel_rfl) ?_
    refine pcond_f (.t .here) rfl ?_
    refine awp_exit ?_
    refine awp_region ?_
    refine lv (.plain rfl) rfl rfl (opv_move rfl (Ev.eq (.t (.n 8 21 rfl)))) ?_
    refine lv (.plain rfl) rfl rfl (opv_add rfl (Ev.eq (.t .here)) (Ev.eq .i) (wr64 (by omega) (by omega)) rfl) ?_
    refine lv (.plain rfl) rfl rfl (opv_assign rfl (Ev.eq (.t .here))) ?_
    refine awpL_nil ?_
    refine ⟨i + 1, by omega, ⟨by omega, by omega⟩, weak_both (.ce (.n 0 20 rfl) (by first | rfl | (simp; done) | (simp; omega)) (.ce (.n 1 21 rfl) (by first | rfl | (simp; done) | (simp; omega)) (.ce (.n 2 22 rfl) (by first | rfl | (simp; done) | (simp; omega)) (.ce (.n 3 23 rfl) (by first | rfl | (simp; done) | (simp; omega)) (.ce .here (by first | rfl | (simp; done) | (simp; omega)) .nil))))) (List.Sublist.refl _)⟩
  ·
   have q14 := h14
   try simp only [zs, List.length_map] at q14
   refine pcond_f (.t .here) h14 ?_
   refine awp_exit ?_
   refine end_now (.none) (Cast.all _ _) ?_
   exact ⟨rfl, rfl⟩
theorem f96_spec (l : List Ent) (hs : l.Pairwise ltE) (hl : l.length ≤ 12) (k : Int) : FSpec Tryd.prog 96 [.d (dEnts l), .d (.i .i64 0), .d (.i .i64 (l.length : Int)), .d (.i .i64 k), .fn (.func 68) []] (.tup []) := by
  refine acalls_of Tryd.func96 rfl Tryd.ntmps96 Tryd.results96 (by simp) ?_
  refine awp_seq ?_
  refine awp_region ?_
  refine lv (.plain rfl) rfl rfl (opv_assign rfl (Ev.eq .b)) ?_
  refine awpL_nil ?_
  refine awp_seq ?_
  refine awp_region ?_
  refine lv (.plain rfl) rfl rfl (opv_assign rfl (Ev.eq .b)) ?_
  refine awpL_nil ?_
  refine awp_block ?_
  refine ploop (fun (_ : Unit) => ⟨148, [(0, .d (dEnts l)), (1, .d (.i .i64 0)), (2, .d (.i .i64 (l.length : Int))), (4, .fn (.func 68) [])], [], []⟩) (fun _ => True) (fun _ => 0) (()) (weak_both (.ce (.n 0 2 rfl) (by first | rfl | (simp; done) | (simp; omega)) (.ce (.n 1 3 rfl) (by first | rfl | (simp; done) | (simp; omega)) (.ce (.n 2 4 rfl) (by first | rfl | (simp; done) | (simp; omega)) (.ce (.n 4 6 rfl) (by first | rfl | (simp; done) | (simp; omega)) .nil)))) (List.Sublist.refl _)) (trivial) ?_
  rintro ⟨⟩ _
  refine awp_block ?_
  refine awp_seq ?_
  refine awp_region ?_
  refine lv (.plain rfl) rfl rfl (opv_move rfl (Ev.eq (.t (.n 2 2 rfl)))) ?_
  refine lv (.plain rfl) rfl rfl (opv_move rfl (Ev.eq (.t (.n 1 2 rfl)))) ?_
  refine lv (.plain rfl) rfl rfl (opv_sub rfl (Ev.eq (.t (.n 21 1 rfl))) (Ev.eq (.t .here)) (wr64 (by omega) (by omega)) rfl) ?_
  refine lv (.plain rfl) rfl rfl (opv_assign rfl (Ev.eq (.t .here))) ?_
  refine awpL_nil ?_
  refine awp_seq ?_
  refine awp_seq ?_
  refine awp_region ?_
  refine lv (.plain rfl) rfl rfl (opv_move rfl (Ev.eq (.t .here))) ?_
  refine lv (.plain rfl) rfl rfl (opv_leq rfl (Ev.eq (.t .here)) (Ev.eq .i) rfl) ?_
  refine awpL_nil ?_
  refine psplit .here (fun h25 => ?_) (fun h25 => ?_)
  ·
   have q25 := h25
   try simp only [zs, List.length_map] at q25
   refine pcond_t (.t .here) h25 ?_
   refine awp_seq ?_
   refine awp_region ?_
   refine lv (.plain rfl) rfl rfl (opv_move rfl (Ev.eq (.t (.n 0 6 rfl)))) ?_
   refine lv (.plain rfl) rfl rfl (opv_move rfl (Ev.eq (.t (.n 1 8 rfl)))) ?_
   refine lv (.plain rfl) rfl rfl (opv_move rfl (Ev.eq (.t (.n 2 10 rfl)))) ?_
   refine lv (.plain rfl) rfl rfl (opv_move rfl (Ev.eq (.t (.n 4 12 rfl)))) ?_
   refine lv (.plain rfl) rfl rfl (q_call rfl .f Tryd.call107 (.cons (.t (.n 26 3 rfl)) (.cons (.t (.n 27 2 rfl)) (.cons (.t (.n 28 1 rfl)) (.cons (.t .here) .nil)))) rfl (f107_spec l hs 0 l.length (Nat.le_refl _) (by omega) (by omega))) ?_
   refine awpL_nil ?_
   refine awp_ret ?_
   refine ret_now (.none) (Cast.all _ _) ?_
   exact ⟨rfl, rfl⟩
  ·
   have q25 := h25
   try simp only [zs, List.length_map] at q25
   refine pcond_f (.t .here) h25 ?_
   refine awp_skip ?_
   refine awp_seq ?_
   refine awp_seq ?_
   exfalso
   omega
theorem f67_spec (l : List Ent) (hs : l.Pairwise ltE) (hl : l.length ≤ 12) : FSpec Tryd.prog 67 [.d (dEnts l), .fn (.func 68) []] (.tup []) := by
  refine acalls_of Tryd.func67 rfl Tryd.ntmps67 Tryd.results67 (by simp) ?_
  refine awp_seq ?_
  refine awp_region ?_
  refine lv (.plain rfl) rfl rfl (opv_move rfl (Ev.eq (.t .here))) ?_
  refine lv (.plain rfl) rfl rfl (opv_len_sl Tryd.underlying38 rfl (Ev.eq (.t .here)) rfl) ?_
  refine lv (.plain rfl) rfl rfl (opv_assign rfl (Ev.eq (.t .here))) ?_
  refine awpL_nil ?_
  refine awp_region ?_
  refine lv (.plain rfl) rfl rfl (opv_move rfl (Ev.eq (.t (.n 0 3 rfl)))) ?_
  refine lv (.plain rfl) rfl rfl (opv_move rfl (Ev.eq (.t (.n 4 1 rfl)))) ?_
  refine lv (.plain rfl) rfl rfl (opv_move rfl (Ev.eq (.t (.n 4 2 rfl)))) ?_
  refine lv (.plain rfl) rfl rfl (opv_convert Tryd.underlying3 Tryd.underlying124 rfl (Ev.eq (.t .here)) (wrU64 (by simp only [List.length_map]; omega) (by simp only [List.length_map]; omega)) rfl) ?_
  refine lv (.plain rfl) rfl rfl (q_call rfl .f Tryd.call97 (.cons (.t .here) .nil) rfl (f97_spec _ (by simp only [List.length_map]; omega) (by simp only [List.length_map]; omega))) ?_
  refine lv (.plain rfl) rfl rfl (opv_move rfl (Ev.eq (.t (.n 1 9 rfl)))) ?_
  refine lv (.plain rfl) rfl rfl (q_call rfl .f Tryd.call96 (.cons (.t (.n 7 5 rfl)) (.cons .i (.cons (.t (.n 8 4 rfl)) (.cons (.t (.n 11 1 rfl)) (.cons (.t .here) .nil))))) rfl (by have h := f96_spec l hs hl (Lib.bitLen (l.length : Int).toNat : Nat); simpa using h)) ?_
  refine awpL_nil ?_
  refine end_now (.none) (Cast.all _ _) ?_
  exact ⟨rfl, rfl⟩
end Go.Proofs.YtjnkbmodcddbkaaDoor
