/- Build of sorted entries. -/
import Derived.Test.YtjnkbmodcddbkaaDoorTy
import Derived.Test.YtjnkbmodcddbkaaDoorS14
set_option linter.unusedVariables false
set_option linter.unusedSimpArgs false
namespace Go.Proofs.YtjnkbmodcddbkaaDoor
open Go Go.RowKit
def buildR (l : List Ent) : Trie := l.foldl (fun t e => putR t e.path e.rows) emptyT
theorem build_step {l : List Ent} {i : Nat} {x : Ent} (h : l[i]? = some x) : buildR (l.take (i + 1)) = putR (buildR (l.take i)) x.path x.rows := by
  unfold buildR
  rw [take_snoc h, List.foldl_append]
  rfl
theorem build_right {l : List Ent} (hg : goodL l) : ∀ i, i ≤ l.length → rightB (buildR (l.take i)) = true ∧ (buildR (l.take i)).ents ⟨#[]⟩ = l.take i := by
  intro i
  induction i with
  | zero => intro _; exact ⟨rfl, by rw [List.take_zero]; rfl⟩
  | succ i ih =>
    intro hi
    obtain ⟨h1, h2⟩ := ih (by omega)
    obtain ⟨x, hx⟩ := some_at (l := l) (i := i) (by omega)
    have hxm := List.mem_of_getElem? hx
    have hgx := hg.2 x hxm
    rw [build_step hx]
    have hput := put_right h1 hgx.1 hgx.2.1
    refine ⟨hput.1, ?_⟩
    rw [hput.2, h2]
    have hlt : ∀ e, e ∈ l.take i → LS (bl e.path) (bl x.path) := fun e he => by
      obtain ⟨j, hj, rfl⟩ := List.mem_iff_getElem.1 he
      rw [List.length_take] at hj
      have := List.pairwise_iff_getElem.1 hg.1 j i (by omega) (by omega) (by omega)
      rw [(List.getElem?_eq_some_iff.1 hx).2] at this
      rw [List.getElem_take]
      exact this
    have h3 := insE_mid (A := l.take i) (M := []) (B := []) (q := x.path) (rows := x.rows) hlt (fun e he => by cases he)
    simp only [List.append_nil] at h3
    rw [h3, insE_nil, if_neg hgx.2.2, take_snoc hx]
theorem trie_eta (t : Trie) : Trie.mk t.label t.rows t.kids = t := by cases t; rfl
theorem f58_put {t : Trie} {p : ByteArray} {rows : List Row} (ht : rightB t = true) (hp : isPath p = true) (hr : rowsB rows = true) : FSpec Tryd.prog 58 [.agg [.d (.s t.label), .d (dRows t.rows), .d (.sl (encTries t.kids))], .d (.s p), .d (dRows rows)] (aTrie (putR t p rows)) := by
  have hq := (of_decide_eq_true hp).2
  have hk : kidsB t.kids 24 (-1) = true := by
    obtain ⟨l, r, k⟩ := t
    exact (rightB_iff.1 ht).2.2
  have h := f58_spec (p.size + 1) t.label t.rows t.kids p rows 24 (by omega) (by omega) (by omega) hr hk
  rw [trie_eta] at h
  exact h
theorem f30_spec {l : List Ent} (hg : goodL l) (hl : l.length ≤ 12) : FSpec Tryd.prog 30 [.d (dEnts l)] (.tup [aTrie (buildR l), .d (.i .i64 0)]) := by
  have hbad : l.any badE = false := by
    rw [List.any_eq_false]
    intro e he
    have := hg.2 e he
    simp [badE, isPath] at this ⊢
    simp_all
  refine acalls_of Tryd.func30 rfl Tryd.ntmps30 Tryd.results30 (by simp) ?_
  refine awp_seq ?_
  refine awp_region ?_
  refine l_alloc zT25 (.plain rfl) rfl rfl rfl (fun g1 ng1 => ?_)
  refine lv (.plain rfl) rfl rfl (opv_assign rfl (Ev.eq .i)) ?_
  refine awpL_nil ?_
  refine awp_seq ?_
  refine awp_region ?_
  refine lv (.plain rfl) rfl rfl (opv_assign rfl (Ev.eq .f)) ?_
  refine awpL_nil ?_
  refine awp_seq ?_
  refine awp_seq ?_
  refine awp_region ?_
  refine lv (.plain rfl) rfl rfl (opv_move rfl (Ev.eq (.t (.n 0 3 rfl)))) ?_
  refine lv (.plain rfl) rfl rfl (opv_move rfl (Ev.eq (.t (.n 4 1 rfl)))) ?_
  refine lv (.plain rfl) rfl rfl (q_call rfl .f Tryd.call65 (.cons (.t (.n 9 1 rfl)) (.cons (.t .here) .nil)) rfl (by have h := f65_spec l; rw [hbad] at h; exact h)) ?_
  refine awpL_nil ?_
  refine pcond_f (.t .here) rfl ?_
  refine awp_skip ?_
  refine awp_seq ?_
  refine awp_region ?_
  refine lv (.plain rfl) rfl rfl (opv_move rfl (Ev.eq (.t (.n 0 6 rfl)))) ?_
  refine lv (.plain rfl) rfl rfl (q_call rfl .f Tryd.call66 (.cons (.t .here) .nil) rfl (f66_spec l (by omega))) ?_
  refine lv (.plain rfl) rfl rfl (opv_assign rfl (Ev.eq (.t .here))) ?_
  refine awpL_nil ?_
  refine awp_seq ?_
  refine awp_region ?_
  refine lv (.plain rfl) rfl rfl (opv_move rfl (Ev.eq (.t .here))) ?_
  refine lv (.plain rfl) rfl rfl (q_call rfl .f Tryd.call67 (.cons (.t .here) (.cons .f .nil)) rfl (f67_spec l hg.1 hl)) ?_
  refine awpL_nil ?_
  refine awp_seq ?_
  refine awp_region ?_
  refine l_alloc zT25 (.plain rfl) rfl rfl rfl (fun g2 ng2 => ?_)
  refine awpL_nil ?_
  refine awp_seq ?_
  refine awp_seq ?_
  refine pvar (cs' := [.d (.s (buildR (l.take 0)).label), .d (dRows (buildR (l.take 0)).rows), .d (.sl (encTries (buildR (l.take 0)).kids))]) .here (.cons .refl (.cons .nil (.cons .nil .nil))) ?_
  refine awp_region ?_
  refine lv (.plain rfl) rfl rfl (opv_move rfl (Ev.eq (.t (.n 5 3 rfl)))) ?_
  refine lv (.plain rfl) rfl rfl (opv_len_sl Tryd.underlying38 rfl (Ev.eq (.t .here)) rfl) ?_
  refine lv (.plain rfl) rfl rfl (opv_move rfl (Ev.eq .i)) ?_
  refine awpL_nil ?_
  refine awp_block ?_
  refine ploop (fun (i : Nat) => ⟨46, [(2, .ptr g1 0), (3, .d (.i .i64 0)), (5, .d (dEnts l)), (6, .ptr g2 0), (17, .d (dEnts l)), (18, .d (.i .i64 (l.length : Int))), (19, .d (.i .i64 (i : Int)))], [(g2, .var 25 [.d (.s (buildR (l.take i)).label), .d (dRows (buildR (l.take i)).rows), .d (.sl (encTries (buildR (l.take i)).kids))]), (g1, .var 25 [.d (.s ⟨#[]⟩), .nil, .nil])], []⟩) (fun i => i ≤ l.length) (fun i => l.length - i) (0) (weak_both (.ce (.n 2 14 rfl) (by first | rfl | (simp; done) | (simp; omega)) (.ce (.n 3 13 rfl) (by first | rfl | (simp; done) | (simp; omega)) (.ce (.n 5 6 rfl) (by first | rfl | (simp; done) | (simp; omega)) (.ce (.n 6 3 rfl) (by first | rfl | (simp; done) | (simp; omega)) (.ce (.n 17 2 rfl) (by first | rfl | (simp; done) | (simp; omega)) (.ce (.n 18 1 rfl) (by first | rfl | (simp; done) | (simp; omega)) (.ce .here (by first | rfl | (simp; done) | (simp; omega)) .nil))))))) (List.Sublist.refl _)) (Nat.zero_le _) ?_
  rintro i hi
  refine awp_seq ?_
  refine awp_region ?_
  refine lv (.plain rfl) rfl rfl (opv_lss rfl (Ev.eq (.t (.n 19 6 rfl))) (Ev.eq (.t (.n 18 5 rfl))) rfl) ?_
  refine awpL_nil ?_
  refine awp_seq ?_
  refine psplit .here (fun h20 => ?_) (fun h20 => ?_)
  ·
   have q20 := h20
   try simp only [zs, List.length_map] at q20
   refine pcond_t (.t .here) h20 ?_
   refine awp_skip ?_
   refine awp_seq ?_
   refine awp_block ?_
   refine awp_seq ?_
   refine awp_region ?_
   refine lv (.plain rfl) rfl rfl (opv_move rfl (Ev.eq (.t (.n 19 7 rfl)))) ?_
   obtain ⟨x, hx⟩ := some_at (l := l) (i := i) (by omega)
   have hxe := (List.getElem?_eq_some_iff.1 hx).2
   have hgx := hg.2 x (List.mem_of_getElem? hx)
   have hbr := build_right hg i hi
   refine lv (.plain rfl) rfl rfl (p_index (slT38) rfl (Ev.eq (.t (.n 17 6 rfl))) (Ev.eq (.t (.n 19 8 rfl))) (by omega) (by exact map_at hx) rfl) ?_
   refine lv (.plain rfl) rfl rfl (p_loadnf (agT43) rfl (Ev.eq (.t .here)) (Nat.le_of_ble_eq_true rfl) rfl) ?_
   refine l_alloc zT43 (.plain rfl) rfl rfl rfl (fun g4 ng4 => ?_)
   refine lv (.plain rfl) rfl rfl (opv_assign rfl (Ev.eq (.t (.n 21 3 rfl)))) ?_
   refine l_storen Tryd.sizeOf43 (.plain rfl) rfl rfl (.t (.n 8 1 rfl)) (.t (.n 23 2 rfl)) rfl rfl rfl .here ?_
   refine awpL_nil ?_
   refine awp_seq ?_
   refine awp_seq ?_
   refine g_draw mixed (kb_cons (.head _) kb_nil) (by kernel_rfl) (fuel := 13) rfl rfl ?_
   refine g_v (listed' := bs 13 1) 0 rfl (by kernel_rfl) rfl (fun _ => .plain rfl) rfl (fun _ hK => opv_move rfl (Ev.eq (.t .here))) (kb_cons (.head _) kb_nil) ?_
   refine g_v (listed' := bs 13 3) 1 rfl (by kernel_rfl) rfl (fun _ => .plain rfl) rfl (fun _ hK => opv_gtr rfl (Ev.eq (.t .here)) (Ev.eq .i) rfl) (kb_cons (.head _) kb_nil) ?_
   refine g_v (listed' := bs 13 7) 2 rfl (by kernel_rfl) rfl (fun _ => .plain rfl) rfl (fun _ hK => opv_move rfl (Ev.eq (.t .here))) (kb_cons (.head _) kb_nil) ?_
   refine gsplit (.n 25 1 rfl) (fun h25 => ?_) (fun h25 => ?_)
   ·
    have q25 := h25
    try simp only [zs, List.length_map] at q25
    refine g_v (listed' := bs 13 15) 3 rfl (by kernel_rfl) rfl (fun _ => .on rfl rfl .here h25) rfl (fun _ hK => opv_move rfl (Ev.eq (.t (.n 5 11 rfl)))) (kb_cons (.head _) kb_nil) ?_
    refine g_v (listed' := bs 13 31) 4 rfl (by kernel_rfl) rfl (fun _ => .on rfl rfl (.n 26 1 rfl) h25) rfl (fun _ hK => opv_move rfl (Ev.eq (.t (.n 7 4 rfl)))) (kb_cons (.head _) kb_nil) ?_
    refine g_v (listed' := bs 13 63) 5 rfl (by kernel_rfl) rfl (fun _ => .on rfl rfl (.n 26 2 rfl) h25) rfl (fun _ hK => opv_sub rfl (Ev.eq (.t .here)) (Ev.eq .i) (wr64 (by omega) (by omega)) rfl) (kb_cons (.head _) kb_nil) ?_
    obtain ⟨y, hy⟩ := some_at (l := l) (i := i - 1) (by omega)
    have hye := (List.getElem?_eq_some_iff.1 hy).2
    refine g_v (listed' := bs 13 127) 6 rfl (by kernel_rfl) rfl (fun _ => .on rfl rfl (.n 26 3 rfl) h25) rfl (fun _ hK => p_index (slT38) rfl (Ev.eq (.t (.n 27 2 rfl))) (Ev.eq (.t .here)) (by omega) (show (l.map encEnt)[(((i : Int) - 1)).toNat]? = some (encEnt y) by rw [show (((i : Int) - 1)).toNat = i - 1 by omega, List.getElem?_map, hy]; rfl) rfl) (kb_cons (.head _) kb_nil) ?_
    refine g_v (listed' := bs 13 255) 7 rfl (by kernel_rfl) rfl (fun _ => .on rfl rfl (.n 26 4 rfl) h25) rfl (fun _ hK => p_fieldf (fldT43_0) rfl (Ev.eq (.t .here)) rfl) (kb_cons (.head _) kb_nil) ?_
    refine g_v (listed' := bs 13 511) 8 rfl (by kernel_rfl) rfl (fun _ => .on rfl rfl (.n 26 5 rfl) h25) rfl (fun _ hK => p_load1f (scT9) rfl (Ev.eq (.t .here))) (kb_cons (.head _) kb_nil) ?_
    refine g_v (listed' := bs 13 1023) 9 rfl (by kernel_rfl) rfl (fun _ => .on rfl rfl (.n 26 6 rfl) h25) rfl (fun _ hK => p_field (fldT43_0) rfl (Ev.eq (.t (.n 8 10 rfl))) (off' := 0) rfl) (kb_cons (.head _) kb_nil) ?_
    refine g_v (listed' := bs 13 2047) 10 rfl (by kernel_rfl) rfl (fun _ => .on rfl rfl (.n 26 7 rfl) h25) rfl (fun _ hK => m_load1 (scT9) rfl (Ev.eq (.t .here)) (hK _ (.head _)) .here) (kb_cons (.head _) kb_nil) ?_
    refine g_v (listed' := bs 13 4095) 11 rfl (by kernel_rfl) rfl (fun _ => .on rfl rfl (.n 26 8 rfl) h25) rfl (fun _ hK => opv_eql_s rfl (Ev.eq (.t (.n 32 2 rfl))) (Ev.eq (.t .here)) rfl) (kb_cons (.head _) kb_nil) ?_
    refine g_v (listed' := bs 13 8191) 12 rfl (by kernel_rfl) rfl (fun _ => .plain rfl) rfl (fun _ hK => opv_pick_t rfl (Ev.eq (.t (.n 26 9 rfl))) h25 (Ev.eq (.t .here))) (kb_cons (.head _) kb_nil) ?_
    refine g_end (by kernel_rfl) ?_
    refine psplit (.n 35 1 rfl) (fun h35 => ?_) (fun h35 => ?_)
    ·
     have q35 := h35
     try simp only [zs, List.length_map] at q35
     refine pcond_t (.t .here) h35 ?_
     refine awp_seq ?_
     exfalso
     have hlt := List.pairwise_iff_getElem.1 hg.1 (i - 1) i (by omega) (by omega) (by omega)
     rw [hxe, hye] at hlt
     unfold ltE at hlt
     rw [show y.path = x.path from by simp_all [bl_inj]] at hlt
     exact ls_irr hlt
    ·
     have q35 := h35
     try simp only [zs, List.length_map] at q35
     refine pcond_f (.t .here) h35 ?_
     refine awp_skip ?_
     refine awp_region ?_
     refine lv (.plain rfl) rfl rfl (q_loadn (agT25) rfl (Ev.eq (.t (.n 6 22 rfl))) (.there .here) rfl) ?_
     refine lv (.plain rfl) rfl rfl (p_field (fldT43_0) rfl (Ev.eq (.t (.n 8 15 rfl))) (off' := 0) rfl) ?_
     refine lv (.plain rfl) rfl rfl (q_load1 (scT9) rfl (Ev.eq (.t .here)) .here .here) ?_
     refine lv (.plain rfl) rfl rfl (p_field (fldT43_1) rfl (Ev.eq (.t (.n 8 17 rfl))) (off' := 1) rfl) ?_
     refine lv (.plain rfl) rfl rfl (q_load1 (scT22) rfl (Ev.eq (.t .here)) .here (.there .here)) ?_
     refine lv (.plain rfl) rfl rfl (q_call rfl .f Tryd.call58 (.cons (.t (.n 38 4 rfl)) (.cons (.t (.n 40 2 rfl)) (.cons (.t .here) .nil))) rfl (by have h := f58_put hbr.1 hgx.1 hgx.2.1; rw [← build_step hx] at h; exact h)) ?_
     refine l_storen Tryd.sizeOf25 (.plain rfl) rfl rfl (.t (.n 6 28 rfl)) (.t .here) rfl rfl rfl (.there .here) ?_
     refine awpL_nil ?_
     refine awp_region ?_
     refine lv (.plain rfl) rfl rfl (opv_add rfl (Ev.eq (.t (.n 19 31 rfl))) (Ev.eq .i) (wr64 (by omega) (by omega)) rfl) ?_
     refine lv (.plain rfl) rfl rfl (opv_move rfl (Ev.eq (.t .here))) ?_
     refine awpL_nil ?_
     refine ⟨i + 1, by omega, by omega, weak_both (.ce (.n 2 27 rfl) (by first | rfl | (simp; done) | (simp; omega)) (.ce (.n 3 28 rfl) (by first | rfl | (simp; done) | (simp; omega)) (.ce (.n 5 29 rfl) (by first | rfl | (simp; done) | (simp; omega)) (.ce (.n 6 30 rfl) (by first | rfl | (simp; done) | (simp; omega)) (.ce (.n 17 31 rfl) (by first | rfl | (simp; done) | (simp; omega)) (.ce (.n 18 32 rfl) (by first | rfl | (simp; done) | (simp; omega)) (.ce .here (by first | rfl | (simp; done) | (simp; omega)) .nil))))))) (.cons _ (List.Sublist.refl _))⟩
   ·
    have q25 := h25
    try simp only [zs, List.length_map] at q25
    refine g_o (listed' := bs 13 15) 3 rfl (by kernel_rfl) rfl (fun _ => .off rfl rfl .here h25) rfl (kb_cons (.head _) kb_nil) ?_
    refine g_o (listed' := bs 13 31) 4 rfl (by kernel_rfl) rfl (fun _ => .off rfl rfl (.n 26 1 rfl) h25) rfl (kb_cons (.head _) kb_nil) ?_
    refine g_o (listed' := bs 13 63) 5 rfl (by kernel_rfl) rfl (fun _ => .off rfl rfl (.n 26 2 rfl) h25) rfl (kb_cons (.head _) kb_nil) ?_
    refine g_o (listed' := bs 13 127) 6 rfl (by kernel_rfl) rfl (fun _ => .off rfl rfl (.n 26 3 rfl) h25) rfl (kb_cons (.head _) kb_nil) ?_
    refine g_o (listed' := bs 13 255) 7 rfl (by kernel_rfl) rfl (fun _ => .off rfl rfl (.n 26 4 rfl) h25) rfl (kb_cons (.head _) kb_nil) ?_
    refine g_o (listed' := bs 13 511) 8 rfl (by kernel_rfl) rfl (fun _ => .off rfl rfl (.n 26 5 rfl) h25) rfl (kb_cons (.head _) kb_nil) ?_
    refine g_o (listed' := bs 13 1023) 9 rfl (by kernel_rfl) rfl (fun _ => .off rfl rfl (.n 26 6 rfl) h25) rfl (kb_cons (.head _) kb_nil) ?_
    refine g_o (listed' := bs 13 2047) 10 rfl (by kernel_rfl) rfl (fun _ => .off rfl rfl (.n 26 7 rfl) h25) rfl (kb_cons (.head _) kb_nil) ?_
    refine g_o (listed' := bs 13 4095) 11 rfl (by kernel_rfl) rfl (fun _ => .off rfl rfl (.n 26 8 rfl) h25) rfl (kb_cons (.head _) kb_nil) ?_
    refine g_v (listed' := bs 13 8191) 12 rfl (by kernel_rfl) rfl (fun _ => .plain rfl) rfl (fun _ hK => opv_pick_f rfl (Ev.eq (.t (.n 26 9 rfl))) h25 (Ev.eq .b)) (kb_cons (.head _) kb_nil) ?_
    refine g_end (by kernel_rfl) ?_
    refine pcond_f (.t .here) rfl ?_
    refine awp_skip ?_
    refine awp_region ?_
    refine lv (.plain rfl) rfl rfl (q_loadn (agT25) rfl (Ev.eq (.t (.n 6 22 rfl))) (.there .here) rfl) ?_
    refine lv (.plain rfl) rfl rfl (p_field (fldT43_0) rfl (Ev.eq (.t (.n 8 15 rfl))) (off' := 0) rfl) ?_
    refine lv (.plain rfl) rfl rfl (q_load1 (scT9) rfl (Ev.eq (.t .here)) .here .here) ?_
    refine lv (.plain rfl) rfl rfl (p_field (fldT43_1) rfl (Ev.eq (.t (.n 8 17 rfl))) (off' := 1) rfl) ?_
    refine lv (.plain rfl) rfl rfl (q_load1 (scT22) rfl (Ev.eq (.t .here)) .here (.there .here)) ?_
    refine lv (.plain rfl) rfl rfl (q_call rfl .f Tryd.call58 (.cons (.t (.n 38 4 rfl)) (.cons (.t (.n 40 2 rfl)) (.cons (.t .here) .nil))) rfl (by have h := f58_put hbr.1 hgx.1 hgx.2.1; rw [← build_step hx] at h; exact h)) ?_
    refine l_storen Tryd.sizeOf25 (.plain rfl) rfl rfl (.t (.n 6 28 rfl)) (.t .here) rfl rfl rfl (.there .here) ?_
    refine awpL_nil ?_
    refine awp_region ?_
    refine lv (.plain rfl) rfl rfl (opv_add rfl (Ev.eq (.t (.n 19 31 rfl))) (Ev.eq .i) (wr64 (by omega) (by omega)) rfl) ?_
    refine lv (.plain rfl) rfl rfl (opv_move rfl (Ev.eq (.t .here))) ?_
    refine awpL_nil ?_
    refine ⟨i + 1, by omega, by omega, weak_both (.ce (.n 2 27 rfl) (by first | rfl | (simp; done) | (simp; omega)) (.ce (.n 3 28 rfl) (by first | rfl | (simp; done) | (simp; omega)) (.ce (.n 5 29 rfl) (by first | rfl | (simp; done) | (simp; omega)) (.ce (.n 6 30 rfl) (by first | rfl | (simp; done) | (simp; omega)) (.ce (.n 17 31 rfl) (by first | rfl | (simp; done) | (simp; omega)) (.ce (.n 18 32 rfl) (by first | rfl | (simp; done) | (simp; omega)) (.ce .here (by first | rfl | (simp; done) | (simp; omega)) .nil))))))) (.cons _ (List.Sublist.refl _))⟩
  ·
   have q20 := h20
   try simp only [zs, List.length_map] at q20
   refine pcond_f (.t .here) h20 ?_
   refine awp_exit ?_
   refine awp_seq ?_
   refine awp_region ?_
   refine lv (.plain rfl) rfl rfl (q_loadn (agT25) rfl (Ev.eq (.t (.n 6 4 rfl))) .here rfl) ?_
   refine l_storen Tryd.sizeOf25 (.plain rfl) rfl rfl (.t (.n 2 2 rfl)) (.t .here) rfl rfl rfl (.there .here) ?_
   refine lv (.plain rfl) rfl rfl (opv_assign rfl (Ev.eq .i)) ?_
   refine awpL_nil ?_
   refine awp_ret ?_
   refine ret_now (.two (rv_c (agT25) (.n 2 3 rfl) (.there .here) rfl) (rv_t .here)) (Cast.all _ _) ?_
   obtain rfl : i = l.length := by omega
   rw [List.take_length]
   exact ⟨rfl, rfl⟩
end Go.Proofs.YtjnkbmodcddbkaaDoor
