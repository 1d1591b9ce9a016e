/- Code points. -/
import Derived.Test.YtjnkbmodcddbkaaDoorTy
import Derived.Test.YtjnkbmodcddbkaaDoorShf
import Derived.Test.YtjnkbmodcddbkaaDoorTy
import Derived.Test.YtjnkbmodcddbkaaDoorU1
set_option linter.unusedVariables false
set_option linter.unusedSimpArgs false
namespace Go.Proofs.YtjnkbmodcddbkaaDoor
open Go Go.RowKit
theorem f135_spec (s : ByteArray) : FSpec Tryd.prog 135 [.d (.s s)] (.tup [.d (.i .i32 ((Lib.decodeGo s).1 : Nat)), .d (.i .i64 ((Lib.decodeGo s).2 : Nat))]) :=
  fspec_of_calls fun X w vals hg hv => by
    obtain ⟨v, r, rfl, h1, h2⟩ := hv.cons_inv
    obtain rfl := h2.nil_inv
    rw [inv_s h1]
    exact ⟨_, fun Y w' => AVs.tup (.cons (mk_i _ _) (.cons (mk_i _ _) .nil)), (k_utf8_DecodeRuneInString s w hg.2.2.2.2).mono fun e w' ⟨he, hb⟩ => ⟨he, hb.os, hb.tape, hb.output, hb.size, hb.block⟩⟩
theorem f69_spec (a b : ByteArray) : FSpec Tryd.prog 69 [.d (.s a), .d (.s b)] (.d (.i .i64 (Lib.compareBytes (bl a) (bl b)))) :=
  fspec_of_calls fun X w vals hg hv => by
    obtain ⟨v, r, rfl, h1, h2⟩ := hv.cons_inv
    obtain ⟨v2, r, rfl, h3, h4⟩ := h2.cons_inv
    obtain rfl := h4.nil_inv
    rw [inv_s h1, inv_s h3]
    exact ⟨_, fun Y w' => mk_i _ _, (k_strings_Compare a b w).mono fun e w' ⟨he, hb⟩ => by subst hb; exact ⟨he, rfl, rfl, rfl, Nat.le_refl _, fun _ _ => rfl⟩⟩
theorem f97_spec (n : Int) (h0 : 0 ≤ n) (h1 : n ≤ 18446744073709551615) : FSpec Tryd.prog 97 [.d (.i .u64 n)] (.d (.i .i64 (Lib.bitLen n.toNat : Nat))) :=
  fspec_of_calls fun X w vals hg hv => by
    obtain ⟨v, r, rfl, h2, h3⟩ := hv.cons_inv
    obtain rfl := h3.nil_inv
    rw [inv_i h2]
    exact ⟨_, fun Y w' => mk_i _ _, (k_bits_Len n w h0 h1).mono fun e w' ⟨he, hb⟩ => by subst hb; exact ⟨he, rfl, rfl, rfl, Nat.le_refl _, fun _ _ => rfl⟩⟩
theorem f121_at (g : Nat) (at' r n : Int) (h0 : 0 ≤ n) (h1 : n ≤ 1000000) : ACalls Tryd.prog 121 [.d (.i .i64 at'), .d (.i .i32 r), .ptr g 0] [(g, .var 3 [.d (.i .i64 n)])] (fun _ h' => h' = [(g, .var 3 [.d (.i .i64 (n + 1))])]) := by
  refine acalls_of Tryd.func121 rfl Tryd.ntmps121 Tryd.results121 (by simp) ?_
  refine awp_region ?_
  refine lv (.plain rfl) rfl rfl (q_load1 (scT3) rfl (Ev.eq (.t (.n 2 2 rfl))) .here .here) ?_
  refine lv (.plain rfl) rfl rfl (opv_add rfl (Ev.eq (.t .here)) (Ev.eq .i) (wr64 (by omega) (by omega)) rfl) ?_
  refine l_store1 Tryd.sizeOf3 (.plain rfl) rfl rfl (.t (.n 2 4 rfl)) (.t .here) rfl .here .here ?_
  refine awpL_nil ?_
  refine end_now (.none) (Cast.refl _ _) ?_
  exact rfl
theorem runesF_neg : ∀ (s : ByteArray) (f p : Nat), runesF s f p < 0 → runesF s f p = -1
  | s, 0, p, h => by simp [runesF] at h
  | s, f + 1, p, h => by
    rw [runesF] at h ⊢
    split at h
    · omega
    · rename_i h1
      rw [if_neg h1]
      split at h
      · rename_i h2; rw [if_pos h2]
      · rename_i h2
        rw [if_neg h2]
        split at h
        · rename_i h3; rw [if_pos h3]
        · rename_i h3; omega
/-- Gone on over a code point. -/
theorem runes_go {s : ByteArray} {k p : Int} {f pos w : Nat} (hp : pos < s.size) (hw : widR s pos = w) (h0 : w ≠ 0) (h : (runesF s (f + 1) pos < 0 ∧ runesR s < 0) ∨ (0 ≤ runesF s (f + 1) pos ∧ runesR s = k + runesF s (f + 1) pos)) :
    (runesF s f (pos + w) < 0 ∧ runesR s < 0) ∨ (0 ≤ runesF s f (pos + w) ∧ runesR s = k + 1 + runesF s f (pos + w)) := by
  subst hw
  rw [runesF, if_neg (by omega), if_neg h0] at h
  by_cases h1 : runesF s f (pos + widR s pos) < 0
  · rw [if_pos h1] at h
    rcases h with h | h
    · exact .inl ⟨h1, h.2⟩
    · omega
  · rw [if_neg h1] at h
    rcases h with h | h
    · omega
    · exact .inr ⟨by omega, by omega⟩
theorem runes_bad {s : ByteArray} {k : Int} {f pos : Nat} (hp : pos < s.size) (hw : widR s pos = 0) (h : (runesF s (f + 1) pos < 0 ∧ runesR s < 0) ∨ (0 ≤ runesF s (f + 1) pos ∧ runesR s = k + runesF s (f + 1) pos)) : runesR s < 0 := by
  rw [runesF, if_neg (by omega), if_pos hw] at h
  rcases h with h | h
  · exact h.2
  · omega
theorem f131_p (s : ByteArray) (hs : s.size ≤ 1000) (g : Nat) : PCalls Tryd.prog 131 [.d (.s s), .fn (.func 121) [.ptr g 0]] [(g, .var 3 [.d (.i .i64 0)])] 153 (fun ok h' => (ok = true ∧ 0 ≤ runesR s ∧ h' = [(g, .var 3 [.d (.i .i64 (runesR s))])]) ∨ (ok = false ∧ runesR s < 0 ∧ ∃ k, h' = [(g, .var 3 [.d (.i .i64 k)])])) := by
  refine pcalls_of Tryd.func131 rfl Tryd.ntmps131 Tryd.results131 (by simp) ?_
  refine awp_seq ?_
  refine awp_region ?_
  refine lv (.plain rfl) rfl rfl (opv_move rfl (Ev.eq (.t .here))) ?_
  refine l_xd (.plain rfl) rfl rfl (x_range_s Tryd.underlying9 rfl (.t .here)) ?_
  rintro _ _ ⟨gi, ngi, rfl, rfl⟩
  refine awpL_nil ?_
  refine awp_block ?_
  refine ploop (fun (a : Nat × Int) => ⟨32, [(0, .d (.s s)), (1, .fn (.func 121) [.ptr g 0]), (9, .ptr gi 0)], [(gi, itr s a.1), (g, .var 3 [.d (.i .i64 a.2)])], []⟩) (fun a => 0 ≤ a.2 ∧ a.2 ≤ a.1 ∧ ∃ f, s.size ≤ a.1 + f ∧ ((runesF s f a.1 < 0 ∧ runesR s < 0) ∨ (0 ≤ runesF s f a.1 ∧ runesR s = a.2 + runesF s f a.1))) (fun a => s.size - a.1) ((0, 0)) (weak_both (.ce (.n 0 2 rfl) (by first | rfl | (simp; done) | (simp; omega)) (.ce (.n 1 3 rfl) (by first | rfl | (simp; done) | (simp; omega)) (.ce .here (by first | rfl | (simp; done) | (simp; omega)) .nil))) (List.Sublist.refl _)) (⟨Int.le_refl _, Int.le_refl _, s.size, by simp, by dsimp only; by_cases h : runesR s < 0; exact .inl ⟨h, h⟩; exact .inr ⟨by unfold runesR at h; omega, by unfold runesR; simp⟩⟩) ?_
  rintro ⟨pos, k⟩ ⟨hk0, hkp, f, hf, hR⟩
  dsimp only at hk0 hkp hf hR
  dsimp only
  refine awp_seq ?_
  rcases Nat.lt_or_ge pos s.size with hp | hp
  ·
   refine awp_region ?_
   refine l_xd (.plain rfl) rfl rfl (x_next_s rfl (.t (.n 9 2 rfl)) .here hp) ?_
   rintro _ _ ⟨rfl, rfl⟩
   refine lv (.plain rfl) rfl rfl (q_extract rfl (Ev.eq (.t .here)) .here) ?_
   refine awpL_nil ?_
   refine awp_seq ?_
   refine pcond_t (.t .here) rfl ?_
   refine awp_skip ?_
   refine awp_block ?_
   refine awp_seq ?_
   refine awp_region ?_
   refine lv (.plain rfl) rfl rfl (q_extract rfl (Ev.eq (.t (.n 10 1 rfl))) (.there .here)) ?_
   refine lv (.plain rfl) rfl rfl (q_extract rfl (Ev.eq (.t (.n 10 2 rfl))) (.there (.there .here))) ?_
   refine lv (.plain rfl) rfl rfl (opv_assign rfl (Ev.eq (.t (.n 12 1 rfl)))) ?_
   refine lv (.plain rfl) rfl rfl (opv_assign rfl (Ev.eq (.t (.n 13 1 rfl)))) ?_
   refine awpL_nil ?_
   refine awp_seq ?_
   refine awp_seq ?_
   refine awp_region ?_
   refine lv (.plain rfl) rfl rfl (opv_move rfl (Ev.eq (.t .here))) ?_
   refine lv (.plain rfl) rfl rfl (opv_eql_i rfl (Ev.eq (.t .here)) (Ev.eq .i) rfl) ?_
   refine awpL_nil ?_
   refine psplit .here (fun h15 => ?_) (fun h15 => ?_)
   ·
    have q15 := h15
    try simp only [zs] at q15
    refine pcond_t (.t .here) h15 ?_
    refine awp_seq ?_
    refine awp_region ?_
    refine lv (.plain rfl) rfl rfl (opv_move rfl (Ev.eq (.t (.n 0 8 rfl)))) ?_
    refine lv (.plain rfl) rfl rfl (opv_move rfl (Ev.eq (.t (.n 4 4 rfl)))) ?_
    refine lv (.plain rfl) rfl rfl (opv_slice_s Tryd.underlying9 rfl (Ev.eq (.t (.n 17 1 rfl))) ⟨_, (Ev.eq (.t .here))⟩ rfl (by omega) (by omega) (by omega) rfl) ?_
    refine lv (.plain rfl) rfl rfl (q_call rfl .f Tryd.call135 (.cons (.t .here) .nil) rfl (f135_spec _)) ?_
    refine lv (.plain rfl) rfl rfl (opv_move rfl (Ev.eq (.t .here))) ?_
    refine lv (.plain rfl) rfl rfl (q_extract rfl (Ev.eq (.t .here)) .here) ?_
    refine lv (.plain rfl) rfl rfl (q_extract rfl (Ev.eq (.t (.n 16 1 rfl))) (.there .here)) ?_
    refine lv (.plain rfl) rfl rfl (opv_assign rfl (Ev.eq (.t (.n 21 1 rfl)))) ?_
    refine lv (.plain rfl) rfl rfl (opv_assign rfl (Ev.eq (.t (.n 22 1 rfl)))) ?_
    refine awpL_nil ?_
    refine awp_seq ?_
    refine awp_region ?_
    refine lv (.plain rfl) rfl rfl (opv_move rfl (Ev.eq (.t .here))) ?_
    refine lv (.plain rfl) rfl rfl (opv_lss rfl (Ev.eq (.t .here)) (Ev.eq .i) rfl) ?_
    refine awpL_nil ?_
    refine psplit .here (fun h24 => ?_) (fun h24 => ?_)
    ·
     have q24 := h24
     try simp only [zs] at q24
     refine pcond_t (.t .here) h24 ?_
     refine awp_region ?_
     refine lv (.plain rfl) rfl rfl (opv_move rfl (Ev.eq (.t (.n 4 14 rfl)))) ?_
     refine lv (.plain rfl) rfl rfl (p_build (bldT153) rfl (.cons (.t .here) .nil) (by simp [AV.cs, AV.one]) (cs := [_]) rfl) ?_
     refine lv (.plain rfl) rfl rfl (opv_mkiface Tryd.underlying153 rfl rfl (.t .here)) ?_
     refine awpL_panic (.plain rfl) rfl (.t .here) ?_
     have hw0 : widR s pos = 0 := by
       refine Classical.byContradiction fun h0 => ?_
       have h1 := (dec_wid s pos hp).2 h0
       have h2 := dec_cut s pos hp
       rw [show s.extract ((pos : Nat) : Int).toNat ((s.size : Nat) : Int).toNat = s.extract pos s.size from rfl, h2] at q24
       have h3 := h1.2 (by omega)
       omega
     obtain ⟨f', rfl⟩ : ∃ f', f = f' + 1 := ⟨f - 1, by omega⟩
     exact ⟨rfl, ⟨_, rfl⟩, _, (.cons _ (List.Sublist.refl _)), .inr ⟨rfl, runes_bad hp hw0 hR, k, rfl⟩⟩
    ·
     have q24 := h24
     try simp only [zs] at q24
     refine pcond_f (.t .here) h24 ?_
     refine awp_skip ?_
     have hw0 : widR s pos ≠ 0 := fun h => by have h1 := (dec_wid s pos hp).1 h; have h2 := dec_cut s pos hp; rw [h1] at h2; rw [show s.extract ((pos : Nat) : Int).toNat ((s.size : Nat) : Int).toNat = s.extract pos s.size from rfl, h2] at q24; simp at q24
     refine awp_region ?_
     refine lv (.plain rfl) rfl rfl (opv_move rfl (Ev.eq (.t (.n 1 20 rfl)))) ?_
     refine lv (.plain rfl) rfl rfl (opv_move rfl (Ev.eq (.t (.n 4 15 rfl)))) ?_
     refine lv (.plain rfl) rfl rfl (opv_move rfl (Ev.eq (.t (.n 5 15 rfl)))) ?_
     refine l_xd (.plain rfl) rfl rfl (x_calla (hf := [_]) rfl (.t (.n 28 2 rfl)) Tryd.call121 (.cons (.t (.n 29 1 rfl)) (.cons (.t .here) .nil)) rfl rfl (f121_at g _ _ k hk0 (by omega))) ?_
     rintro _ _ ⟨_, rfl, rfl⟩
     dsimp only [List.cons_append, List.nil_append]
     refine awpL_nil ?_
     have hdw := (dec_wid s pos hp).2 hw0
     have hwp : 1 ≤ (Utf8.decode s pos).2 := by rw [hdw.1]; omega
     obtain ⟨f', rfl⟩ : ∃ f', f = f' + 1 := ⟨f - 1, by omega⟩
     refine ⟨(pos + (Utf8.decode s pos).2, k + 1), by dsimp only; omega, ⟨by dsimp only; omega, by dsimp only; omega, f', by dsimp only; omega, by dsimp only; rw [hdw.1]; exact runes_go (p := 0) hp rfl hw0 hR⟩, weak_both (.ce (.n 0 23 rfl) (by first | rfl | (simp; done) | (simp; omega)) (.ce (.n 1 24 rfl) (by first | rfl | (simp; done) | (simp; omega)) (.ce (.n 9 25 rfl) (by first | rfl | (simp; done) | (simp; omega)) .nil))) (List.Sublist.refl _)⟩
   ·
    have q15 := h15
    try simp only [zs] at q15
    refine pcond_f (.t .here) h15 ?_
    refine awp_skip ?_
    have hw0 : widR s pos ≠ 0 := fun h => by have h1 := (dec_wid s pos hp).1 h; rw [h1] at q15; simp at q15
    refine awp_region ?_
    refine lv (.plain rfl) rfl rfl (opv_move rfl (Ev.eq (.t (.n 1 9 rfl)))) ?_
    refine lv (.plain rfl) rfl rfl (opv_move rfl (Ev.eq (.t (.n 4 4 rfl)))) ?_
    refine lv (.plain rfl) rfl rfl (opv_move rfl (Ev.eq (.t (.n 5 4 rfl)))) ?_
    refine l_xd (.plain rfl) rfl rfl (x_calla (hf := [_]) rfl (.t (.n 28 2 rfl)) Tryd.call121 (.cons (.t (.n 29 1 rfl)) (.cons (.t .here) .nil)) rfl rfl (f121_at g _ _ k hk0 (by omega))) ?_
    rintro _ _ ⟨_, rfl, rfl⟩
    dsimp only [List.cons_append, List.nil_append]
    refine awpL_nil ?_
    have hdw := (dec_wid s pos hp).2 hw0
    have hwp : 1 ≤ (Utf8.decode s pos).2 := by rw [hdw.1]; omega
    obtain ⟨f', rfl⟩ : ∃ f', f = f' + 1 := ⟨f - 1, by omega⟩
    refine ⟨(pos + (Utf8.decode s pos).2, k + 1), by dsimp only; omega, ⟨by dsimp only; omega, by dsimp only; omega, f', by dsimp only; omega, by dsimp only; rw [hdw.1]; exact runes_go (p := 0) hp rfl hw0 hR⟩, weak_both (.ce (.n 0 12 rfl) (by first | rfl | (simp; done) | (simp; omega)) (.ce (.n 1 13 rfl) (by first | rfl | (simp; done) | (simp; omega)) (.ce (.n 9 14 rfl) (by first | rfl | (simp; done) | (simp; omega)) .nil))) (List.Sublist.refl _)⟩
  ·
   refine awp_region ?_
   refine l_xd (.plain rfl) rfl rfl (x_next_end rfl (.t (.n 9 2 rfl)) (.head _) hp) ?_
   rintro _ _ ⟨rfl, rfl⟩
   refine lv (.plain rfl) rfl rfl (q_extract rfl (Ev.eq (.t .here)) .here) ?_
   refine awpL_nil ?_
   refine awp_seq ?_
   refine pcond_f (.t .here) rfl ?_
   refine awp_exit ?_
   have hRR : runesR s = k := by
     cases f with
     | zero => simp only [runesF] at hR; omega
     | succ f => rw [runesF, if_pos hp] at hR; omega
   exact ⟨rfl, _, (.cons _ (List.Sublist.refl _)), .inl ⟨rfl, by omega, by rw [hRR]⟩⟩
theorem f136_spec (s : ByteArray) (hs : s.size ≤ 1000000) (p : Nat) (hp : p ≤ 2000000) : FSpec Tryd.prog 136 [.d (.s s), .d (.i .i64 (p : Int))] (.d (.i .i64 (widR s p : Nat))) := by
  refine acalls_of Tryd.func136 rfl Tryd.ntmps136 Tryd.results136 (by simp) ?_
  refine awp_seq ?_
  refine awp_region ?_
  refine lv (.plain rfl) rfl rfl (opv_assign rfl (Ev.eq .i)) ?_
  refine awpL_nil ?_
  refine awp_seq ?_
  refine awp_seq ?_
  refine awp_region ?_
  refine lv (.plain rfl) rfl rfl (opv_move rfl (Ev.eq (.t (.n 1 2 rfl)))) ?_
  refine lv (.plain rfl) rfl rfl (opv_lss rfl (Ev.eq (.t .here)) (Ev.eq .i) rfl) ?_
  refine lv (.plain rfl) rfl rfl (opv_move rfl (Ev.eq (.t .here))) ?_
  refine lsplit (.n 11 1 rfl) (fun h11 => ?_) (fun h11 => ?_)
  ·
   have q11 := h11
   try simp only [zs, List.length_map] at q11
   refine lo (.off rfl rfl .here h11) rfl rfl ?_
   refine lo (.off rfl rfl (.n 12 1 rfl) h11) rfl rfl ?_
   refine lo (.off rfl rfl (.n 12 2 rfl) h11) rfl rfl ?_
   refine lo (.off rfl rfl (.n 12 3 rfl) h11) rfl rfl ?_
   refine lv (.plain rfl) rfl rfl (opv_pick_t rfl (Ev.eq (.t (.n 12 4 rfl))) h11 (Ev.eq .b)) ?_
   refine awpL_nil ?_
   refine pcond_t (.t .here) rfl ?_
   refine awp_seq ?_
   refine awp_region ?_
   refine lv (.plain rfl) rfl rfl (opv_assign rfl (Ev.eq .i)) ?_
   refine awpL_nil ?_
   refine awp_ret ?_
   refine ret_now (.one (rv_t .here)) (Cast.all _ _) ?_
   refine ⟨congrArg (fun x => AV.d (D.i .i64 x)) ?_, rfl⟩
   unfold widR
   rw [if_pos (by omega)]
   rfl
  ·
   have q11 := h11
   try simp only [zs, List.length_map] at q11
   refine lv (.on rfl rfl .here h11) rfl rfl (opv_move rfl (Ev.eq (.t (.n 1 5 rfl)))) ?_
   refine lv (.on rfl rfl (.n 12 1 rfl) h11) rfl rfl (opv_move rfl (Ev.eq (.t (.n 0 5 rfl)))) ?_
   refine lv (.on rfl rfl (.n 12 2 rfl) h11) rfl rfl (opv_len_s Tryd.underlying9 rfl (Ev.eq (.t .here)) rfl) ?_
   refine lv (.on rfl rfl (.n 12 3 rfl) h11) rfl rfl (opv_geq rfl (Ev.eq (.t (.n 13 2 rfl))) (Ev.eq (.t .here)) rfl) ?_
   refine lv (.plain rfl) rfl rfl (opv_pick_f rfl (Ev.eq (.t (.n 12 4 rfl))) h11 (Ev.eq (.t .here))) ?_
   refine awpL_nil ?_
   refine psplit (.n 16 1 rfl) (fun h16 => ?_) (fun h16 => ?_)
   ·
    have q16 := h16
    try simp only [zs, List.length_map] at q16
    refine pcond_t (.t .here) h16 ?_
    refine awp_seq ?_
    refine awp_region ?_
    refine lv (.plain rfl) rfl rfl (opv_assign rfl (Ev.eq .i)) ?_
    refine awpL_nil ?_
    refine awp_ret ?_
    refine ret_now (.one (rv_t .here)) (Cast.all _ _) ?_
    refine ⟨congrArg (fun x => AV.d (D.i .i64 x)) ?_, rfl⟩
    unfold widR
    rw [if_pos (by omega)]
    rfl
   ·
    have q16 := h16
    try simp only [zs, List.length_map] at q16
    refine pcond_f (.t .here) h16 ?_
    refine awp_skip ?_
    refine awp_seq ?_
    refine awp_region ?_
    refine lv (.plain rfl) rfl rfl (opv_move rfl (Ev.eq (.t (.n 0 9 rfl)))) ?_
    refine lv (.plain rfl) rfl rfl (opv_move rfl (Ev.eq (.t (.n 1 11 rfl)))) ?_
    have hb0 := bt_range s (p : Int)
    refine lv (.plain rfl) rfl rfl (opv_index_s Tryd.underlying9 rfl (Ev.eq (.t (.n 18 1 rfl))) (Ev.eq (.t .here)) (by omega) (by omega) rfl) ?_
    refine lv (.plain rfl) rfl rfl (opv_convert Tryd.underlying5 Tryd.underlying3 rfl (Ev.eq (.t .here)) (wr_bt _ _) rfl) ?_
    refine lv (.plain rfl) rfl rfl (opv_assign rfl (Ev.eq (.t .here))) ?_
    refine awpL_nil ?_
    refine awp_seq ?_
    refine awp_region ?_
    refine lv (.plain rfl) rfl rfl (opv_move rfl (Ev.eq (.t .here))) ?_
    refine lv (.plain rfl) rfl rfl (opv_assign rfl (Ev.eq .i)) ?_
    refine lv (.plain rfl) rfl rfl (opv_assign rfl (Ev.eq (.t (.n 22 1 rfl)))) ?_
    refine lv (.plain rfl) rfl rfl (opv_assign rfl (Ev.eq .i)) ?_
    refine awpL_nil ?_
    refine awp_seq ?_
    refine awp_block ?_
    refine awp_seq ?_
    refine awp_region ?_
    refine lv (.plain rfl) rfl rfl (opv_move rfl (Ev.eq (.t (.n 5 4 rfl)))) ?_
    refine lv (.plain rfl) rfl rfl (opv_lss rfl (Ev.eq (.t .here)) (Ev.eq .i) rfl) ?_
    refine lv (.plain rfl) rfl rfl (opv_assign rfl (Ev.eq (.t .here))) ?_
    refine awpL_nil ?_
    refine psplit (.n 25 1 rfl) (fun h25 => ?_) (fun h25 => ?_)
    ·
     have q25 := h25
     try simp only [zs, List.length_map] at q25
     refine pcond_t (.t .here) h25 ?_
     refine awp_seq ?_
     refine awp_region ?_
     refine lv (.plain rfl) rfl rfl (opv_assign rfl (Ev.eq .i)) ?_
     refine awpL_nil ?_
     refine awp_ret ?_
     refine ret_now (.one (rv_t .here)) (Cast.all _ _) ?_
     refine ⟨congrArg (fun x => AV.d (D.i .i64 x)) ?_, rfl⟩
     unfold widR
     rw [if_neg (by omega), if_pos (by omega)]
     rfl
    ·
     have q25 := h25
     try simp only [zs, List.length_map] at q25
     refine pcond_f (.t .here) h25 ?_
     refine awp_seq ?_
     refine awp_region ?_
     refine lv (.plain rfl) rfl rfl (opv_move rfl (Ev.eq (.t (.n 5 7 rfl)))) ?_
     refine lv (.plain rfl) rfl rfl (opv_geq rfl (Ev.eq (.t .here)) (Ev.eq .i) rfl) ?_
     refine lv (.plain rfl) rfl rfl (opv_move rfl (Ev.eq (.t .here))) ?_
     refine lsplit (.n 28 1 rfl) (fun h28 => ?_) (fun h28 => ?_)
     ·
      have q28 := h28
      try simp only [zs, List.length_map] at q28
      refine lv (.on rfl rfl .here h28) rfl rfl (opv_move rfl (Ev.eq (.t (.n 5 10 rfl)))) ?_
      refine lv (.on rfl rfl (.n 29 1 rfl) h28) rfl rfl (opv_lss rfl (Ev.eq (.t .here)) (Ev.eq .i) rfl) ?_
      refine lv (.plain rfl) rfl rfl (opv_pick_t rfl (Ev.eq (.t (.n 29 2 rfl))) h28 (Ev.eq (.t .here))) ?_
      refine lv (.plain rfl) rfl rfl (opv_assign rfl (Ev.eq (.t .here))) ?_
      refine awpL_nil ?_
      refine psplit (.n 31 2 rfl) (fun h31 => ?_) (fun h31 => ?_)
      ·
       have q31 := h31
       try simp only [zs, List.length_map] at q31
       refine pcond_t (.t .here) h31 ?_
       refine awp_region ?_
       refine lv (.plain rfl) rfl rfl (opv_move rfl (Ev.eq (.t (.n 5 14 rfl)))) ?_
       refine lv (.plain rfl) rfl rfl (opv_sub rfl (Ev.eq (.t .here)) (Ev.eq .i) (wr64 (by omega) (by omega)) rfl) ?_
       refine lv (.plain rfl) rfl rfl (opv_assign rfl (Ev.eq .i)) ?_
       refine lv (.plain rfl) rfl rfl (opv_assign rfl (Ev.eq (.t (.n 34 1 rfl)))) ?_
       refine lv (.plain rfl) rfl rfl (opv_assign rfl (Ev.eq .i)) ?_
       refine awpL_nil ?_
       refine awp_seq ?_
       refine awp_seq ?_
       refine awp_region ?_
       refine lv (.plain rfl) rfl rfl (opv_assign rfl (Ev.eq .i)) ?_
       refine awpL_nil ?_
       refine awp_block ?_
       have hbr := bt_range s (p : Int)
       refine ploop (fun (a : Nat × Int) => ⟨100, [(0, .d (.s s)), (1, .d (.i .i64 (p : Int))), (6, .d (.i .i64 2)), (7, .d (.i .i64 a.2)), (8, .d (.i .i64 128)), (9, .d (.i .i64 (a.1 : Int)))], [], []⟩) (fun a => a.1 ≤ 2 ∧ 0 ≤ a.2 ∧ (a.1 = 1 ∧ a.2 ≤ 31 ∨ a.1 = 2 ∧ a.2 ≤ 2047 ∨ a.1 = 3 ∧ a.2 ≤ 131071 ∨ a.1 = 4 ∧ a.2 ≤ 8388607) ∧ wid1 s p a.1 (2 - a.1) a.2 = wid1 s p 1 1 (bt s (p : Int) - 192)) (fun a => 2 - a.1) ((1, bt s (p : Int) - 192)) (weak_both (.ce (.n 0 34 rfl) (by first | rfl | (simp; done) | (simp; omega)) (.ce (.n 1 35 rfl) (by first | rfl | (simp; done) | (simp; omega)) (.ce (.n 6 3 rfl) (by first | rfl | (simp; done) | (simp; omega)) (.ce (.n 7 2 rfl) (by first | rfl | (simp; done) | (simp; omega)) (.ce (.n 8 1 rfl) (by first | rfl | (simp; done) | (simp; omega)) (.ce .here (by first | rfl | (simp; done) | (simp; omega)) .nil)))))) (List.Sublist.refl _)) (⟨by dsimp only; omega, by dsimp only; omega, by dsimp only; omega, rfl⟩) ?_
       rintro ⟨i, q⟩ ⟨hi, hq0, hqb, hEQ⟩
       dsimp only at hi hq0 hqb hEQ
       dsimp only
       have hn : 2 = 2 := rfl
       refine awp_seq ?_
       refine awp_seq ?_
       refine awp_region ?_
       refine lv (.plain rfl) rfl rfl (opv_move rfl (Ev.eq (.t (.n 9 5 rfl)))) ?_
       refine lv (.plain rfl) rfl rfl (opv_move rfl (Ev.eq (.t (.n 6 3 rfl)))) ?_
       refine lv (.plain rfl) rfl rfl (opv_lss rfl (Ev.eq (.t (.n 53 1 rfl))) (Ev.eq (.t .here)) rfl) ?_
       refine awpL_nil ?_
       refine psplit .here (fun h55 => ?_) (fun h55 => ?_)
       ·
        have q55 := h55
        try simp only [zs, List.length_map] at q55
        refine pcond_t (.t .here) h55 ?_
        refine awp_skip ?_
        refine awp_seq ?_
        refine awp_block ?_
        refine awp_seq ?_
        refine awp_seq ?_
        refine awp_region ?_
        refine lv (.plain rfl) rfl rfl (opv_move rfl (Ev.eq (.t (.n 1 4 rfl)))) ?_
        refine lv (.plain rfl) rfl rfl (opv_move rfl (Ev.eq (.t (.n 9 9 rfl)))) ?_
        refine lv (.plain rfl) rfl rfl (opv_add rfl (Ev.eq (.t (.n 58 1 rfl))) (Ev.eq (.t .here)) (wr64 (by omega) (by omega)) rfl) ?_
        refine lv (.plain rfl) rfl rfl (opv_move rfl (Ev.eq (.t (.n 0 6 rfl)))) ?_
        refine lv (.plain rfl) rfl rfl (opv_len_s Tryd.underlying9 rfl (Ev.eq (.t .here)) rfl) ?_
        refine lv (.plain rfl) rfl rfl (opv_geq rfl (Ev.eq (.t (.n 60 2 rfl))) (Ev.eq (.t .here)) rfl) ?_
        refine lv (.plain rfl) rfl rfl (opv_move rfl (Ev.eq (.t .here))) ?_
        refine lsplit (.n 63 1 rfl) (fun h63 => ?_) (fun h63 => ?_)
        ·
         have q63 := h63
         try simp only [zs, List.length_map] at q63
         refine lo (.off rfl rfl .here h63) rfl rfl ?_
         refine lo (.off rfl rfl (.n 64 1 rfl) h63) rfl rfl ?_
         refine lo (.off rfl rfl (.n 64 2 rfl) h63) rfl rfl ?_
         refine lo (.off rfl rfl (.n 64 3 rfl) h63) rfl rfl ?_
         refine lo (.off rfl rfl (.n 64 4 rfl) h63) rfl rfl ?_
         refine lo (.off rfl rfl (.n 64 5 rfl) h63) rfl rfl ?_
         refine lo (.off rfl rfl (.n 64 6 rfl) h63) rfl rfl ?_
         refine lo (.off rfl rfl (.n 64 7 rfl) h63) rfl rfl ?_
         refine lv (.plain rfl) rfl rfl (opv_pick_t rfl (Ev.eq (.t (.n 64 8 rfl))) h63 (Ev.eq .b)) ?_
         refine awpL_nil ?_
         refine pcond_t (.t .here) rfl ?_
         refine awp_seq ?_
         refine awp_region ?_
         refine lv (.plain rfl) rfl rfl (opv_assign rfl (Ev.eq .i)) ?_
         refine awpL_nil ?_
         refine awp_ret ?_
         refine ret_now (.one (rv_t .here)) (Cast.all _ _) ?_
         have hbi := bt_range s ((p : Int) + i)
         refine ⟨congrArg (fun x => AV.d (D.i .i64 x)) ?_, rfl⟩
         rw [show widR s p = widN s p 2 (bt s (p : Int) - 192) 128 from by unfold widR; rw [if_neg (by omega), if_neg (by omega), if_pos (by omega)]]; unfold widN; rw [show (2 - 1 : Nat) = 1 from rfl, ← hEQ]
         rw [show 2 - i = (2 - (i + 1)) + 1 by omega, wid1, if_pos (by first | omega | (right; omega))]
         try rfl
        ·
         have q63 := h63
         try simp only [zs, List.length_map] at q63
         refine lv (.on rfl rfl .here h63) rfl rfl (opv_move rfl (Ev.eq (.t (.n 0 10 rfl)))) ?_
         refine lv (.on rfl rfl (.n 64 1 rfl) h63) rfl rfl (opv_move rfl (Ev.eq (.t (.n 1 12 rfl)))) ?_
         refine lv (.on rfl rfl (.n 64 2 rfl) h63) rfl rfl (opv_move rfl (Ev.eq (.t (.n 9 17 rfl)))) ?_
         refine lv (.on rfl rfl (.n 64 3 rfl) h63) rfl rfl (opv_add rfl (Ev.eq (.t (.n 66 1 rfl))) (Ev.eq (.t .here)) (wr64 (by omega) (by omega)) rfl) ?_
         refine lv (.on rfl rfl (.n 64 4 rfl) h63) rfl rfl (opv_index_s Tryd.underlying9 rfl (Ev.eq (.t (.n 65 3 rfl))) (Ev.eq (.t .here)) (by omega) (by omega) rfl) ?_
         refine lv (.on rfl rfl (.n 64 5 rfl) h63) rfl rfl (opv_convert Tryd.underlying5 Tryd.underlying3 rfl (Ev.eq (.t .here)) (wr_bt _ _) rfl) ?_
         refine lv (.on rfl rfl (.n 64 6 rfl) h63) rfl rfl (opv_quo rfl (Ev.eq (.t .here)) (Ev.eq .i) (by omega) (wr_div (bt_range _ _).1 (by decide) (by have := bt_range s ((p : Int) + i); omega)) rfl) ?_
         refine lv (.on rfl rfl (.n 64 7 rfl) h63) rfl rfl (opv_neq_i rfl (Ev.eq (.t .here)) (Ev.eq .i) rfl) ?_
         refine lv (.plain rfl) rfl rfl (opv_pick_f rfl (Ev.eq (.t (.n 64 8 rfl))) h63 (Ev.eq (.t .here))) ?_
         refine awpL_nil ?_
         refine psplit (.n 72 1 rfl) (fun h72 => ?_) (fun h72 => ?_)
         ·
          have q72 := h72
          try simp only [zs, List.length_map] at q72
          refine pcond_t (.t .here) h72 ?_
          refine awp_seq ?_
          refine awp_region ?_
          refine lv (.plain rfl) rfl rfl (opv_assign rfl (Ev.eq .i)) ?_
          refine awpL_nil ?_
          refine awp_ret ?_
          refine ret_now (.one (rv_t .here)) (Cast.all _ _) ?_
          have hbi := bt_range s ((p : Int) + i)
          refine ⟨congrArg (fun x => AV.d (D.i .i64 x)) ?_, rfl⟩
          rw [show widR s p = widN s p 2 (bt s (p : Int) - 192) 128 from by unfold widR; rw [if_neg (by omega), if_neg (by omega), if_pos (by omega)]]; unfold widN; rw [show (2 - 1 : Nat) = 1 from rfl, ← hEQ]
          rw [show 2 - i = (2 - (i + 1)) + 1 by omega, wid1, if_pos (by first | omega | (right; omega))]
          try rfl
         ·
          have q72 := h72
          try simp only [zs, List.length_map] at q72
          refine pcond_f (.t .here) h72 ?_
          refine awp_skip ?_
          refine awp_region ?_
          refine lv (.plain rfl) rfl rfl (opv_move rfl (Ev.eq (.t (.n 7 22 rfl)))) ?_
          refine lv (.plain rfl) rfl rfl (opv_mul rfl (Ev.eq .i) (Ev.eq (.t .here)) (wr64 (by omega) (by omega)) rfl) ?_
          refine lv (.plain rfl) rfl rfl (opv_move rfl (Ev.eq (.t (.n 0 21 rfl)))) ?_
          refine lv (.plain rfl) rfl rfl (opv_move rfl (Ev.eq (.t (.n 1 23 rfl)))) ?_
          refine lv (.plain rfl) rfl rfl (opv_move rfl (Ev.eq (.t (.n 9 28 rfl)))) ?_
          refine lv (.plain rfl) rfl rfl (opv_add rfl (Ev.eq (.t (.n 77 1 rfl))) (Ev.eq (.t .here)) (wr64 (by omega) (by omega)) rfl) ?_
          refine lv (.plain rfl) rfl rfl (opv_index_s Tryd.underlying9 rfl (Ev.eq (.t (.n 76 3 rfl))) (Ev.eq (.t .here)) (by omega) (by omega) rfl) ?_
          refine lv (.plain rfl) rfl rfl (opv_convert Tryd.underlying5 Tryd.underlying3 rfl (Ev.eq (.t .here)) (wr_bt _ _) rfl) ?_
          refine lv (.plain rfl) rfl rfl (opv_rem rfl (Ev.eq (.t .here)) (Ev.eq .i) (by omega) (Int.tmod_eq_emod_of_nonneg (bt_range _ _).1) rfl) ?_
          refine lv (.plain rfl) rfl rfl (opv_add rfl (Ev.eq (.t (.n 75 7 rfl))) (Ev.eq (.t .here)) (wr64 (by have := bt_range s ((p : Int) + i); omega) (by have := bt_range s ((p : Int) + i); omega)) rfl) ?_
          refine lv (.plain rfl) rfl rfl (opv_assign rfl (Ev.eq (.t .here))) ?_
          refine awpL_nil ?_
          refine awp_region ?_
          refine lv (.plain rfl) rfl rfl (opv_move rfl (Ev.eq (.t (.n 9 35 rfl)))) ?_
          refine lv (.plain rfl) rfl rfl (opv_add rfl (Ev.eq (.t .here)) (Ev.eq .i) (wr64 (by omega) (by omega)) rfl) ?_
          refine lv (.plain rfl) rfl rfl (opv_assign rfl (Ev.eq (.t .here))) ?_
          refine awpL_nil ?_
          have hbi := bt_range s ((p : Int) + i)
          refine ⟨(i + 1, 64 * q + bt s ((p : Int) + i) % 64), by dsimp only; omega, ⟨by dsimp only; omega, by dsimp only; omega, by dsimp only; omega, by dsimp only; rw [show 2 - i = (2 - (i + 1)) + 1 by omega, wid1, if_neg (by omega)] at hEQ; exact hEQ⟩, weak_both (.ce (.n 0 33 rfl) (by first | rfl | (simp; done) | (simp; omega)) (.ce (.n 1 34 rfl) (by first | rfl | (simp; done) | (simp; omega)) (.ce (.n 6 35 rfl) (by first | rfl | (simp; done) | (simp; omega)) (.ce (.n 7 3 rfl) (by first | rfl | (simp; done) | (simp; omega)) (.ce (.n 8 37 rfl) (by first | rfl | (simp; done) | (simp; omega)) (.ce .here (by first | rfl | (simp; done) | (simp; omega)) .nil)))))) (List.Sublist.refl _)⟩
       ·
        have q55 := h55
        try simp only [zs, List.length_map] at q55
        refine pcond_f (.t .here) h55 ?_
        refine awp_exit ?_
        refine awp_seq ?_
        refine awp_seq ?_
        refine awp_region ?_
        refine lv (.plain rfl) rfl rfl (opv_move rfl (Ev.eq (.t (.n 7 6 rfl)))) ?_
        refine lv (.plain rfl) rfl rfl (opv_move rfl (Ev.eq (.t (.n 8 8 rfl)))) ?_
        refine lv (.plain rfl) rfl rfl (opv_lss rfl (Ev.eq (.t (.n 84 1 rfl))) (Ev.eq (.t .here)) rfl) ?_
        refine lv (.plain rfl) rfl rfl (opv_move rfl (Ev.eq (.t .here))) ?_
        refine lsplit (.n 86 1 rfl) (fun h86 => ?_) (fun h86 => ?_)
        ·
         have q86 := h86
         try simp only [zs, List.length_map] at q86
         refine lo (.off rfl rfl .here h86) rfl rfl ?_
         refine lo (.off rfl rfl (.n 87 1 rfl) h86) rfl rfl ?_
         refine lo (.off rfl rfl (.n 87 2 rfl) h86) rfl rfl ?_
         refine lo (.no rfl rfl .here) rfl rfl ?_
         refine lo (.no rfl rfl (.n 90 1 rfl)) rfl rfl ?_
         refine lo (.off rfl rfl (.n 87 5 rfl) h86) rfl rfl ?_
         refine lv (.plain rfl) rfl rfl (opv_pick_t rfl (Ev.eq (.t (.n 87 6 rfl))) h86 (Ev.eq .b)) ?_
         refine lv (.plain rfl) rfl rfl (opv_move rfl (Ev.eq (.t .here))) ?_
         refine lo (.off rfl rfl .here rfl) rfl rfl ?_
         refine lo (.off rfl rfl (.n 95 1 rfl) rfl) rfl rfl ?_
         refine lv (.plain rfl) rfl rfl (opv_pick_t rfl (Ev.eq (.t (.n 95 2 rfl))) rfl (Ev.eq .b)) ?_
         refine awpL_nil ?_
         refine pcond_t (.t .here) rfl ?_
         refine awp_seq ?_
         refine awp_region ?_
         refine lv (.plain rfl) rfl rfl (opv_assign rfl (Ev.eq .i)) ?_
         refine awpL_nil ?_
         refine awp_ret ?_
         refine ret_now (.one (rv_t .here)) (Cast.all _ _) ?_
         refine ⟨congrArg (fun x => AV.d (D.i .i64 x)) ?_, rfl⟩
         obtain rfl : i = 2 := by omega
         rw [show widR s p = widN s p 2 (bt s (p : Int) - 192) 128 from by unfold widR; rw [if_neg (by omega), if_neg (by omega), if_pos (by omega)]]; unfold widN; rw [show (2 - 1 : Nat) = 1 from rfl, ← hEQ]
         rw [Nat.sub_self, wid1]
         simp only
         first | (rw [if_pos (by omega)]; rfl) | (rw [if_neg (by omega)]; rfl)
        ·
         have q86 := h86
         try simp only [zs, List.length_map] at q86
         refine lv (.on rfl rfl .here h86) rfl rfl (opv_move rfl (Ev.eq (.t (.n 7 10 rfl)))) ?_
         refine lv (.on rfl rfl (.n 87 1 rfl) h86) rfl rfl (opv_geq rfl (Ev.eq (.t .here)) (Ev.eq .i) rfl) ?_
         refine lv (.on rfl rfl (.n 87 2 rfl) h86) rfl rfl (opv_move rfl (Ev.eq (.t .here))) ?_
         refine lsplit (.n 89 1 rfl) (fun h89 => ?_) (fun h89 => ?_)
         ·
          have q89 := h89
          try simp only [zs, List.length_map] at q89
          refine lv (.on rfl rfl .here h89) rfl rfl (opv_move rfl (Ev.eq (.t (.n 7 13 rfl)))) ?_
          refine lv (.on rfl rfl (.n 90 1 rfl) h89) rfl rfl (opv_lss rfl (Ev.eq (.t .here)) (Ev.eq .i) rfl) ?_
          refine lv (.on rfl rfl (.n 87 5 rfl) h86) rfl rfl (opv_pick_t rfl (Ev.eq (.t (.n 90 2 rfl))) h89 (Ev.eq (.t .here))) ?_
          refine lv (.plain rfl) rfl rfl (opv_pick_f rfl (Ev.eq (.t (.n 87 6 rfl))) h86 (Ev.eq (.t .here))) ?_
          refine lv (.plain rfl) rfl rfl (opv_move rfl (Ev.eq (.t .here))) ?_
          refine lsplit (.n 92 3 rfl) (fun h92 => ?_) (fun h92 => ?_)
          ·
           have q92 := h92
           try simp only [zs, List.length_map] at q92
           refine lo (.off rfl rfl .here h92) rfl rfl ?_
           refine lo (.off rfl rfl (.n 95 1 rfl) h92) rfl rfl ?_
           refine lv (.plain rfl) rfl rfl (opv_pick_t rfl (Ev.eq (.t (.n 95 2 rfl))) h92 (Ev.eq .b)) ?_
           refine awpL_nil ?_
           refine pcond_t (.t .here) rfl ?_
           refine awp_seq ?_
           refine awp_region ?_
           refine lv (.plain rfl) rfl rfl (opv_assign rfl (Ev.eq .i)) ?_
           refine awpL_nil ?_
           refine awp_ret ?_
           refine ret_now (.one (rv_t .here)) (Cast.all _ _) ?_
           refine ⟨congrArg (fun x => AV.d (D.i .i64 x)) ?_, rfl⟩
           obtain rfl : i = 2 := by omega
           rw [show widR s p = widN s p 2 (bt s (p : Int) - 192) 128 from by unfold widR; rw [if_neg (by omega), if_neg (by omega), if_pos (by omega)]]; unfold widN; rw [show (2 - 1 : Nat) = 1 from rfl, ← hEQ]
           rw [Nat.sub_self, wid1]
           simp only
           first | (rw [if_pos (by omega)]; rfl) | (rw [if_neg (by omega)]; rfl)
          ·
           have q92 := h92
           try simp only [zs, List.length_map] at q92
           refine lv (.on rfl rfl .here h92) rfl rfl (opv_move rfl (Ev.eq (.t (.n 7 18 rfl)))) ?_
           refine lv (.on rfl rfl (.n 95 1 rfl) h92) rfl rfl (opv_gtr rfl (Ev.eq (.t .here)) (Ev.eq .i) rfl) ?_
           refine lv (.plain rfl) rfl rfl (opv_pick_f rfl (Ev.eq (.t (.n 95 2 rfl))) h92 (Ev.eq (.t .here))) ?_
           refine awpL_nil ?_
           refine psplit (.n 97 1 rfl) (fun h97 => ?_) (fun h97 => ?_)
           ·
            have q97 := h97
            try simp only [zs, List.length_map] at q97
            refine pcond_t (.t .here) h97 ?_
            refine awp_seq ?_
            refine awp_region ?_
            refine lv (.plain rfl) rfl rfl (opv_assign rfl (Ev.eq .i)) ?_
            refine awpL_nil ?_
            refine awp_ret ?_
            refine ret_now (.one (rv_t .here)) (Cast.all _ _) ?_
            refine ⟨congrArg (fun x => AV.d (D.i .i64 x)) ?_, rfl⟩
            obtain rfl : i = 2 := by omega
            rw [show widR s p = widN s p 2 (bt s (p : Int) - 192) 128 from by unfold widR; rw [if_neg (by omega), if_neg (by omega), if_pos (by omega)]]; unfold widN; rw [show (2 - 1 : Nat) = 1 from rfl, ← hEQ]
            rw [Nat.sub_self, wid1]
            simp only
            first | (rw [if_pos (by omega)]; rfl) | (rw [if_neg (by omega)]; rfl)
           ·
            have q97 := h97
            try simp only [zs, List.length_map] at q97
            refine pcond_f (.t .here) h97 ?_
            refine awp_skip ?_
            refine awp_seq ?_
            refine awp_region ?_
            refine lv (.plain rfl) rfl rfl (opv_move rfl (Ev.eq (.t (.n 6 20 rfl)))) ?_
            refine lv (.plain rfl) rfl rfl (opv_assign rfl (Ev.eq (.t .here))) ?_
            refine awpL_nil ?_
            refine awp_ret ?_
            refine ret_now (.one (rv_t .here)) (Cast.all _ _) ?_
            refine ⟨congrArg (fun x => AV.d (D.i .i64 x)) ?_, rfl⟩
            obtain rfl : i = 2 := by omega
            rw [show widR s p = widN s p 2 (bt s (p : Int) - 192) 128 from by unfold widR; rw [if_neg (by omega), if_neg (by omega), if_pos (by omega)]]; unfold widN; rw [show (2 - 1 : Nat) = 1 from rfl, ← hEQ]
            rw [Nat.sub_self, wid1]
            simp only
            first | (rw [if_pos (by omega)]; rfl) | (rw [if_neg (by omega)]; rfl)
         ·
          have q89 := h89
          try simp only [zs, List.length_map] at q89
          refine lo (.off rfl rfl .here h89) rfl rfl ?_
          refine lo (.off rfl rfl (.n 90 1 rfl) h89) rfl rfl ?_
          refine lv (.on rfl rfl (.n 87 5 rfl) h86) rfl rfl (opv_pick_f rfl (Ev.eq (.t (.n 90 2 rfl))) h89 (Ev.eq .b)) ?_
          refine lv (.plain rfl) rfl rfl (opv_pick_f rfl (Ev.eq (.t (.n 87 6 rfl))) h86 (Ev.eq (.t .here))) ?_
          refine lv (.plain rfl) rfl rfl (opv_move rfl (Ev.eq (.t .here))) ?_
          refine lv (.on rfl rfl .here rfl) rfl rfl (opv_move rfl (Ev.eq (.t (.n 7 18 rfl)))) ?_
          refine lv (.on rfl rfl (.n 95 1 rfl) rfl) rfl rfl (opv_gtr rfl (Ev.eq (.t .here)) (Ev.eq .i) rfl) ?_
          refine lv (.plain rfl) rfl rfl (opv_pick_f rfl (Ev.eq (.t (.n 95 2 rfl))) rfl (Ev.eq (.t .here))) ?_
          refine awpL_nil ?_
          refine psplit (.n 97 1 rfl) (fun h97 => ?_) (fun h97 => ?_)
          ·
           have q97 := h97
           try simp only [zs, List.length_map] at q97
           refine pcond_t (.t .here) h97 ?_
           refine awp_seq ?_
           refine awp_region ?_
           refine lv (.plain rfl) rfl rfl (opv_assign rfl (Ev.eq .i)) ?_
           refine awpL_nil ?_
           refine awp_ret ?_
           refine ret_now (.one (rv_t .here)) (Cast.all _ _) ?_
           refine ⟨congrArg (fun x => AV.d (D.i .i64 x)) ?_, rfl⟩
           obtain rfl : i = 2 := by omega
           rw [show widR s p = widN s p 2 (bt s (p : Int) - 192) 128 from by unfold widR; rw [if_neg (by omega), if_neg (by omega), if_pos (by omega)]]; unfold widN; rw [show (2 - 1 : Nat) = 1 from rfl, ← hEQ]
           rw [Nat.sub_self, wid1]
           simp only
           first | (rw [if_pos (by omega)]; rfl) | (rw [if_neg (by omega)]; rfl)
          ·
           have q97 := h97
           try simp only [zs, List.length_map] at q97
           refine pcond_f (.t .here) h97 ?_
           refine awp_skip ?_
           refine awp_seq ?_
           refine awp_region ?_
           refine lv (.plain rfl) rfl rfl (opv_move rfl (Ev.eq (.t (.n 6 20 rfl)))) ?_
           refine lv (.plain rfl) rfl rfl (opv_assign rfl (Ev.eq (.t .here))) ?_
           refine awpL_nil ?_
           refine awp_ret ?_
           refine ret_now (.one (rv_t .here)) (Cast.all _ _) ?_
           refine ⟨congrArg (fun x => AV.d (D.i .i64 x)) ?_, rfl⟩
           obtain rfl : i = 2 := by omega
           rw [show widR s p = widN s p 2 (bt s (p : Int) - 192) 128 from by unfold widR; rw [if_neg (by omega), if_neg (by omega), if_pos (by omega)]]; unfold widN; rw [show (2 - 1 : Nat) = 1 from rfl, ← hEQ]
           rw [Nat.sub_self, wid1]
           simp only
           first | (rw [if_pos (by omega)]; rfl) | (rw [if_neg (by omega)]; rfl)
      ·
       have q31 := h31
       try simp only [zs, List.length_map] at q31
       refine pcond_f (.t .here) h31 ?_
       refine awp_seq ?_
       refine awp_region ?_
       refine lv (.plain rfl) rfl rfl (opv_move rfl (Ev.eq (.t (.n 5 14 rfl)))) ?_
       refine lv (.plain rfl) rfl rfl (opv_geq rfl (Ev.eq (.t .here)) (Ev.eq .i) rfl) ?_
       refine lv (.plain rfl) rfl rfl (opv_move rfl (Ev.eq (.t .here))) ?_
       refine lsplit (.n 37 1 rfl) (fun h37 => ?_) (fun h37 => ?_)
       ·
        have q37 := h37
        try simp only [zs, List.length_map] at q37
        refine lv (.on rfl rfl .here h37) rfl rfl (opv_move rfl (Ev.eq (.t (.n 5 17 rfl)))) ?_
        refine lv (.on rfl rfl (.n 38 1 rfl) h37) rfl rfl (opv_lss rfl (Ev.eq (.t .here)) (Ev.eq .i) rfl) ?_
        refine lv (.plain rfl) rfl rfl (opv_pick_t rfl (Ev.eq (.t (.n 38 2 rfl))) h37 (Ev.eq (.t .here))) ?_
        refine lv (.plain rfl) rfl rfl (opv_assign rfl (Ev.eq (.t .here))) ?_
        refine awpL_nil ?_
        refine psplit (.n 40 2 rfl) (fun h40 => ?_) (fun h40 => ?_)
        ·
         have q40 := h40
         try simp only [zs, List.length_map] at q40
         refine pcond_t (.t .here) h40 ?_
         refine awp_region ?_
         refine lv (.plain rfl) rfl rfl (opv_move rfl (Ev.eq (.t (.n 5 21 rfl)))) ?_
         refine lv (.plain rfl) rfl rfl (opv_sub rfl (Ev.eq (.t .here)) (Ev.eq .i) (wr64 (by omega) (by omega)) rfl) ?_
         refine lv (.plain rfl) rfl rfl (opv_assign rfl (Ev.eq .i)) ?_
         refine lv (.plain rfl) rfl rfl (opv_assign rfl (Ev.eq (.t (.n 43 1 rfl)))) ?_
         refine lv (.plain rfl) rfl rfl (opv_assign rfl (Ev.eq .i)) ?_
         refine awpL_nil ?_
         refine awp_seq ?_
         refine awp_seq ?_
         refine awp_region ?_
         refine lv (.plain rfl) rfl rfl (opv_assign rfl (Ev.eq .i)) ?_
         refine awpL_nil ?_
         refine awp_block ?_
         have hbr := bt_range s (p : Int)
         refine ploop (fun (a : Nat × Int) => ⟨100, [(0, .d (.s s)), (1, .d (.i .i64 (p : Int))), (6, .d (.i .i64 3)), (7, .d (.i .i64 a.2)), (8, .d (.i .i64 2048)), (9, .d (.i .i64 (a.1 : Int)))], [], []⟩) (fun a => a.1 ≤ 3 ∧ 0 ≤ a.2 ∧ (a.1 = 1 ∧ a.2 ≤ 31 ∨ a.1 = 2 ∧ a.2 ≤ 2047 ∨ a.1 = 3 ∧ a.2 ≤ 131071 ∨ a.1 = 4 ∧ a.2 ≤ 8388607) ∧ wid1 s p a.1 (3 - a.1) a.2 = wid1 s p 1 2 (bt s (p : Int) - 224)) (fun a => 3 - a.1) ((1, bt s (p : Int) - 224)) (weak_both (.ce (.n 0 41 rfl) (by first | rfl | (simp; done) | (simp; omega)) (.ce (.n 1 42 rfl) (by first | rfl | (simp; done) | (simp; omega)) (.ce (.n 6 3 rfl) (by first | rfl | (simp; done) | (simp; omega)) (.ce (.n 7 2 rfl) (by first | rfl | (simp; done) | (simp; omega)) (.ce (.n 8 1 rfl) (by first | rfl | (simp; done) | (simp; omega)) (.ce .here (by first | rfl | (simp; done) | (simp; omega)) .nil)))))) (List.Sublist.refl _)) (⟨by dsimp only; omega, by dsimp only; omega, by dsimp only; omega, rfl⟩) ?_
         rintro ⟨i, q⟩ ⟨hi, hq0, hqb, hEQ⟩
         dsimp only at hi hq0 hqb hEQ
         dsimp only
         have hn : 3 = 3 := rfl
         refine awp_seq ?_
         refine awp_seq ?_
         refine awp_region ?_
         refine lv (.plain rfl) rfl rfl (opv_move rfl (Ev.eq (.t (.n 9 5 rfl)))) ?_
         refine lv (.plain rfl) rfl rfl (opv_move rfl (Ev.eq (.t (.n 6 3 rfl)))) ?_
         refine lv (.plain rfl) rfl rfl (opv_lss rfl (Ev.eq (.t (.n 53 1 rfl))) (Ev.eq (.t .here)) rfl) ?_
         refine awpL_nil ?_
         refine psplit .here (fun h55 => ?_) (fun h55 => ?_)
         ·
          have q55 := h55
          try simp only [zs, List.length_map] at q55
          refine pcond_t (.t .here) h55 ?_
          refine awp_skip ?_
          refine awp_seq ?_
          refine awp_block ?_
          refine awp_seq ?_
          refine awp_seq ?_
          refine awp_region ?_
          refine lv (.plain rfl) rfl rfl (opv_move rfl (Ev.eq (.t (.n 1 4 rfl)))) ?_
          refine lv (.plain rfl) rfl rfl (opv_move rfl (Ev.eq (.t (.n 9 9 rfl)))) ?_
          refine lv (.plain rfl) rfl rfl (opv_add rfl (Ev.eq (.t (.n 58 1 rfl))) (Ev.eq (.t .here)) (wr64 (by omega) (by omega)) rfl) ?_
          refine lv (.plain rfl) rfl rfl (opv_move rfl (Ev.eq (.t (.n 0 6 rfl)))) ?_
          refine lv (.plain rfl) rfl rfl (opv_len_s Tryd.underlying9 rfl (Ev.eq (.t .here)) rfl) ?_
          refine lv (.plain rfl) rfl rfl (opv_geq rfl (Ev.eq (.t (.n 60 2 rfl))) (Ev.eq (.t .here)) rfl) ?_
          refine lv (.plain rfl) rfl rfl (opv_move rfl (Ev.eq (.t .here))) ?_
          refine lsplit (.n 63 1 rfl) (fun h63 => ?_) (fun h63 => ?_)
          ·
           have q63 := h63
           try simp only [zs, List.length_map] at q63
           refine lo (.off rfl rfl .here h63) rfl rfl ?_
           refine lo (.off rfl rfl (.n 64 1 rfl) h63) rfl rfl ?_
           refine lo (.off rfl rfl (.n 64 2 rfl) h63) rfl rfl ?_
           refine lo (.off rfl rfl (.n 64 3 rfl) h63) rfl rfl ?_
           refine lo (.off rfl rfl (.n 64 4 rfl) h63) rfl rfl ?_
           refine lo (.off rfl rfl (.n 64 5 rfl) h63) rfl rfl ?_
           refine lo (.off rfl rfl (.n 64 6 rfl) h63) rfl rfl ?_
           refine lo (.off rfl rfl (.n 64 7 rfl) h63) rfl rfl ?_
           refine lv (.plain rfl) rfl rfl (opv_pick_t rfl (Ev.eq (.t (.n 64 8 rfl))) h63 (Ev.eq .b)) ?_
           refine awpL_nil ?_
           refine pcond_t (.t .here) rfl ?_
           refine awp_seq ?_
           refine awp_region ?_
           refine lv (.plain rfl) rfl rfl (opv_assign rfl (Ev.eq .i)) ?_
           refine awpL_nil ?_
           refine awp_ret ?_
           refine ret_now (.one (rv_t .here)) (Cast.all _ _) ?_
           have hbi := bt_range s ((p : Int) + i)
           refine ⟨congrArg (fun x => AV.d (D.i .i64 x)) ?_, rfl⟩
           rw [show widR s p = widN s p 3 (bt s (p : Int) - 224) 2048 from by unfold widR; rw [if_neg (by omega), if_neg (by omega), if_neg (by omega), if_pos (by omega)]]; unfold widN; rw [show (3 - 1 : Nat) = 2 from rfl, ← hEQ]
           rw [show 3 - i = (3 - (i + 1)) + 1 by omega, wid1, if_pos (by first | omega | (right; omega))]
           try rfl
          ·
           have q63 := h63
           try simp only [zs, List.length_map] at q63
           refine lv (.on rfl rfl .here h63) rfl rfl (opv_move rfl (Ev.eq (.t (.n 0 10 rfl)))) ?_
           refine lv (.on rfl rfl (.n 64 1 rfl) h63) rfl rfl (opv_move rfl (Ev.eq (.t (.n 1 12 rfl)))) ?_
           refine lv (.on rfl rfl (.n 64 2 rfl) h63) rfl rfl (opv_move rfl (Ev.eq (.t (.n 9 17 rfl)))) ?_
           refine lv (.on rfl rfl (.n 64 3 rfl) h63) rfl rfl (opv_add rfl (Ev.eq (.t (.n 66 1 rfl))) (Ev.eq (.t .here)) (wr64 (by omega) (by omega)) rfl) ?_
           refine lv (.on rfl rfl (.n 64 4 rfl) h63) rfl rfl (opv_index_s Tryd.underlying9 rfl (Ev.eq (.t (.n 65 3 rfl))) (Ev.eq (.t .here)) (by omega) (by omega) rfl) ?_
           refine lv (.on rfl rfl (.n 64 5 rfl) h63) rfl rfl (opv_convert Tryd.underlying5 Tryd.underlying3 rfl (Ev.eq (.t .here)) (wr_bt _ _) rfl) ?_
           refine lv (.on rfl rfl (.n 64 6 rfl) h63) rfl rfl (opv_quo rfl (Ev.eq (.t .here)) (Ev.eq .i) (by omega) (wr_div (bt_range _ _).1 (by decide) (by have := bt_range s ((p : Int) + i); omega)) rfl) ?_
           refine lv (.on rfl rfl (.n 64 7 rfl) h63) rfl rfl (opv_neq_i rfl (Ev.eq (.t .here)) (Ev.eq .i) rfl) ?_
           refine lv (.plain rfl) rfl rfl (opv_pick_f rfl (Ev.eq (.t (.n 64 8 rfl))) h63 (Ev.eq (.t .here))) ?_
           refine awpL_nil ?_
           refine psplit (.n 72 1 rfl) (fun h72 => ?_) (fun h72 => ?_)
           ·
            have q72 := h72
            try simp only [zs, List.length_map] at q72
            refine pcond_t (.t .here) h72 ?_
            refine awp_seq ?_
            refine awp_region ?_
            refine lv (.plain rfl) rfl rfl (opv_assign rfl (Ev.eq .i)) ?_
            refine awpL_nil ?_
            refine awp_ret ?_
            refine ret_now (.one (rv_t .here)) (Cast.all _ _) ?_
            have hbi := bt_range s ((p : Int) + i)
            refine ⟨congrArg (fun x => AV.d (D.i .i64 x)) ?_, rfl⟩
            rw [show widR s p = widN s p 3 (bt s (p : Int) - 224) 2048 from by unfold widR; rw [if_neg (by omega), if_neg (by omega), if_neg (by omega), if_pos (by omega)]]; unfold widN; rw [show (3 - 1 : Nat) = 2 from rfl, ← hEQ]
            rw [show 3 - i = (3 - (i + 1)) + 1 by omega, wid1, if_pos (by first | omega | (right; omega))]
            try rfl
           ·
            have q72 := h72
            try simp only [zs, List.length_map] at q72
            refine pcond_f (.t .here) h72 ?_
            refine awp_skip ?_
            refine awp_region ?_
            refine lv (.plain rfl) rfl rfl (opv_move rfl (Ev.eq (.t (.n 7 22 rfl)))) ?_
            refine lv (.plain rfl) rfl rfl (opv_mul rfl (Ev.eq .i) (Ev.eq (.t .here)) (wr64 (by omega) (by omega)) rfl) ?_
            refine lv (.plain rfl) rfl rfl (opv_move rfl (Ev.eq (.t (.n 0 21 rfl)))) ?_
            refine lv (.plain rfl) rfl rfl (opv_move rfl (Ev.eq (.t (.n 1 23 rfl)))) ?_
            refine lv (.plain rfl) rfl rfl (opv_move rfl (Ev.eq (.t (.n 9 28 rfl)))) ?_
            refine lv (.plain rfl) rfl rfl (opv_add rfl (Ev.eq (.t (.n 77 1 rfl))) (Ev.eq (.t .here)) (wr64 (by omega) (by omega)) rfl) ?_
            refine lv (.plain rfl) rfl rfl (opv_index_s Tryd.underlying9 rfl (Ev.eq (.t (.n 76 3 rfl))) (Ev.eq (.t .here)) (by omega) (by omega) rfl) ?_
            refine lv (.plain rfl) rfl rfl (opv_convert Tryd.underlying5 Tryd.underlying3 rfl (Ev.eq (.t .here)) (wr_bt _ _) rfl) ?_
            refine lv (.plain rfl) rfl rfl (opv_rem rfl (Ev.eq (.t .here)) (Ev.eq .i) (by omega) (Int.tmod_eq_emod_of_nonneg (bt_range _ _).1) rfl) ?_
            refine lv (.plain rfl) rfl rfl (opv_add rfl (Ev.eq (.t (.n 75 7 rfl))) (Ev.eq (.t .here)) (wr64 (by have := bt_range s ((p : Int) + i); omega) (by have := bt_range s ((p : Int) + i); omega)) rfl) ?_
            refine lv (.plain rfl) rfl rfl (opv_assign rfl (Ev.eq (.t .here))) ?_
            refine awpL_nil ?_
            refine awp_region ?_
            refine lv (.plain rfl) rfl rfl (opv_move rfl (Ev.eq (.t (.n 9 35 rfl)))) ?_
            refine lv (.plain rfl) rfl rfl (opv_add rfl (Ev.eq (.t .here)) (Ev.eq .i) (wr64 (by omega) (by omega)) rfl) ?_
            refine lv (.plain rfl) rfl rfl (opv_assign rfl (Ev.eq (.t .here))) ?_
            refine awpL_nil ?_
            have hbi := bt_range s ((p : Int) + i)
            refine ⟨(i + 1, 64 * q + bt s ((p : Int) + i) % 64), by dsimp only; omega, ⟨by dsimp only; omega, by dsimp only; omega, by dsimp only; omega, by dsimp only; rw [show 3 - i = (3 - (i + 1)) + 1 by omega, wid1, if_neg (by omega)] at hEQ; exact hEQ⟩, weak_both (.ce (.n 0 33 rfl) (by first | rfl | (simp; done) | (simp; omega)) (.ce (.n 1 34 rfl) (by first | rfl | (simp; done) | (simp; omega)) (.ce (.n 6 35 rfl) (by first | rfl | (simp; done) | (simp; omega)) (.ce (.n 7 3 rfl) (by first | rfl | (simp; done) | (simp; omega)) (.ce (.n 8 37 rfl) (by first | rfl | (simp; done) | (simp; omega)) (.ce .here (by first | rfl | (simp; done) | (simp; omega)) .nil)))))) (List.Sublist.refl _)⟩
         ·
          have q55 := h55
          try simp only [zs, List.length_map] at q55
          refine pcond_f (.t .here) h55 ?_
          refine awp_exit ?_
          refine awp_seq ?_
          refine awp_seq ?_
          refine awp_region ?_
          refine lv (.plain rfl) rfl rfl (opv_move rfl (Ev.eq (.t (.n 7 6 rfl)))) ?_
          refine lv (.plain rfl) rfl rfl (opv_move rfl (Ev.eq (.t (.n 8 8 rfl)))) ?_
          refine lv (.plain rfl) rfl rfl (opv_lss rfl (Ev.eq (.t (.n 84 1 rfl))) (Ev.eq (.t .here)) rfl) ?_
          refine lv (.plain rfl) rfl rfl (opv_move rfl (Ev.eq (.t .here))) ?_
          refine lsplit (.n 86 1 rfl) (fun h86 => ?_) (fun h86 => ?_)
          ·
           have q86 := h86
           try simp only [zs, List.length_map] at q86
           refine lo (.off rfl rfl .here h86) rfl rfl ?_
           refine lo (.off rfl rfl (.n 87 1 rfl) h86) rfl rfl ?_
           refine lo (.off rfl rfl (.n 87 2 rfl) h86) rfl rfl ?_
           refine lo (.no rfl rfl .here) rfl rfl ?_
           refine lo (.no rfl rfl (.n 90 1 rfl)) rfl rfl ?_
           refine lo (.off rfl rfl (.n 87 5 rfl) h86) rfl rfl ?_
           refine lv (.plain rfl) rfl rfl (opv_pick_t rfl (Ev.eq (.t (.n 87 6 rfl))) h86 (Ev.eq .b)) ?_
           refine lv (.plain rfl) rfl rfl (opv_move rfl (Ev.eq (.t .here))) ?_
           refine lo (.off rfl rfl .here rfl) rfl rfl ?_
           refine lo (.off rfl rfl (.n 95 1 rfl) rfl) rfl rfl ?_
           refine lv (.plain rfl) rfl rfl (opv_pick_t rfl (Ev.eq (.t (.n 95 2 rfl))) rfl (Ev.eq .b)) ?_
           refine awpL_nil ?_
           refine pcond_t (.t .here) rfl ?_
           refine awp_seq ?_
           refine awp_region ?_
           refine lv (.plain rfl) rfl rfl (opv_assign rfl (Ev.eq .i)) ?_
           refine awpL_nil ?_
           refine awp_ret ?_
           refine ret_now (.one (rv_t .here)) (Cast.all _ _) ?_
           refine ⟨congrArg (fun x => AV.d (D.i .i64 x)) ?_, rfl⟩
           obtain rfl : i = 3 := by omega
           rw [show widR s p = widN s p 3 (bt s (p : Int) - 224) 2048 from by unfold widR; rw [if_neg (by omega), if_neg (by omega), if_neg (by omega), if_pos (by omega)]]; unfold widN; rw [show (3 - 1 : Nat) = 2 from rfl, ← hEQ]
           rw [Nat.sub_self, wid1]
           simp only
           first | (rw [if_pos (by omega)]; rfl) | (rw [if_neg (by omega)]; rfl)
          ·
           have q86 := h86
           try simp only [zs, List.length_map] at q86
           refine lv (.on rfl rfl .here h86) rfl rfl (opv_move rfl (Ev.eq (.t (.n 7 10 rfl)))) ?_
           refine lv (.on rfl rfl (.n 87 1 rfl) h86) rfl rfl (opv_geq rfl (Ev.eq (.t .here)) (Ev.eq .i) rfl) ?_
           refine lv (.on rfl rfl (.n 87 2 rfl) h86) rfl rfl (opv_move rfl (Ev.eq (.t .here))) ?_
           refine lsplit (.n 89 1 rfl) (fun h89 => ?_) (fun h89 => ?_)
           ·
            have q89 := h89
            try simp only [zs, List.length_map] at q89
            refine lv (.on rfl rfl .here h89) rfl rfl (opv_move rfl (Ev.eq (.t (.n 7 13 rfl)))) ?_
            refine lv (.on rfl rfl (.n 90 1 rfl) h89) rfl rfl (opv_lss rfl (Ev.eq (.t .here)) (Ev.eq .i) rfl) ?_
            refine lv (.on rfl rfl (.n 87 5 rfl) h86) rfl rfl (opv_pick_t rfl (Ev.eq (.t (.n 90 2 rfl))) h89 (Ev.eq (.t .here))) ?_
            refine lv (.plain rfl) rfl rfl (opv_pick_f rfl (Ev.eq (.t (.n 87 6 rfl))) h86 (Ev.eq (.t .here))) ?_
            refine lv (.plain rfl) rfl rfl (opv_move rfl (Ev.eq (.t .here))) ?_
            refine lsplit (.n 92 3 rfl) (fun h92 => ?_) (fun h92 => ?_)
            ·
             have q92 := h92
             try simp only [zs, List.length_map] at q92
             refine lo (.off rfl rfl .here h92) rfl rfl ?_
             refine lo (.off rfl rfl (.n 95 1 rfl) h92) rfl rfl ?_
             refine lv (.plain rfl) rfl rfl (opv_pick_t rfl (Ev.eq (.t (.n 95 2 rfl))) h92 (Ev.eq .b)) ?_
             refine awpL_nil ?_
             refine pcond_t (.t .here) rfl ?_
             refine awp_seq ?_
             refine awp_region ?_
             refine lv (.plain rfl) rfl rfl (opv_assign rfl (Ev.eq .i)) ?_
             refine awpL_nil ?_
             refine awp_ret ?_
             refine ret_now (.one (rv_t .here)) (Cast.all _ _) ?_
             refine ⟨congrArg (fun x => AV.d (D.i .i64 x)) ?_, rfl⟩
             obtain rfl : i = 3 := by omega
             rw [show widR s p = widN s p 3 (bt s (p : Int) - 224) 2048 from by unfold widR; rw [if_neg (by omega), if_neg (by omega), if_neg (by omega), if_pos (by omega)]]; unfold widN; rw [show (3 - 1 : Nat) = 2 from rfl, ← hEQ]
             rw [Nat.sub_self, wid1]
             simp only
             first | (rw [if_pos (by omega)]; rfl) | (rw [if_neg (by omega)]; rfl)
            ·
             have q92 := h92
             try simp only [zs, List.length_map] at q92
             refine lv (.on rfl rfl .here h92) rfl rfl (opv_move rfl (Ev.eq (.t (.n 7 18 rfl)))) ?_
             refine lv (.on rfl rfl (.n 95 1 rfl) h92) rfl rfl (opv_gtr rfl (Ev.eq (.t .here)) (Ev.eq .i) rfl) ?_
             refine lv (.plain rfl) rfl rfl (opv_pick_f rfl (Ev.eq (.t (.n 95 2 rfl))) h92 (Ev.eq (.t .here))) ?_
             refine awpL_nil ?_
             refine psplit (.n 97 1 rfl) (fun h97 => ?_) (fun h97 => ?_)
             ·
              have q97 := h97
              try simp only [zs, List.length_map] at q97
              refine pcond_t (.t .here) h97 ?_
              refine awp_seq ?_
              refine awp_region ?_
              refine lv (.plain rfl) rfl rfl (opv_assign rfl (Ev.eq .i)) ?_
              refine awpL_nil ?_
              refine awp_ret ?_
              refine ret_now (.one (rv_t .here)) (Cast.all _ _) ?_
              refine ⟨congrArg (fun x => AV.d (D.i .i64 x)) ?_, rfl⟩
              obtain rfl : i = 3 := by omega
              rw [show widR s p = widN s p 3 (bt s (p : Int) - 224) 2048 from by unfold widR; rw [if_neg (by omega), if_neg (by omega), if_neg (by omega), if_pos (by omega)]]; unfold widN; rw [show (3 - 1 : Nat) = 2 from rfl, ← hEQ]
              rw [Nat.sub_self, wid1]
              simp only
              first | (rw [if_pos (by omega)]; rfl) | (rw [if_neg (by omega)]; rfl)
             ·
              have q97 := h97
              try simp only [zs, List.length_map] at q97
              refine pcond_f (.t .here) h97 ?_
              refine awp_skip ?_
              refine awp_seq ?_
              refine awp_region ?_
              refine lv (.plain rfl) rfl rfl (opv_move rfl (Ev.eq (.t (.n 6 20 rfl)))) ?_
              refine lv (.plain rfl) rfl rfl (opv_assign rfl (Ev.eq (.t .here))) ?_
              refine awpL_nil ?_
              refine awp_ret ?_
              refine ret_now (.one (rv_t .here)) (Cast.all _ _) ?_
              refine ⟨congrArg (fun x => AV.d (D.i .i64 x)) ?_, rfl⟩
              obtain rfl : i = 3 := by omega
              rw [show widR s p = widN s p 3 (bt s (p : Int) - 224) 2048 from by unfold widR; rw [if_neg (by omega), if_neg (by omega), if_neg (by omega), if_pos (by omega)]]; unfold widN; rw [show (3 - 1 : Nat) = 2 from rfl, ← hEQ]
              rw [Nat.sub_self, wid1]
              simp only
              first | (rw [if_pos (by omega)]; rfl) | (rw [if_neg (by omega)]; rfl)
           ·
            have q89 := h89
            try simp only [zs, List.length_map] at q89
            refine lo (.off rfl rfl .here h89) rfl rfl ?_
            refine lo (.off rfl rfl (.n 90 1 rfl) h89) rfl rfl ?_
            refine lv (.on rfl rfl (.n 87 5 rfl) h86) rfl rfl (opv_pick_f rfl (Ev.eq (.t (.n 90 2 rfl))) h89 (Ev.eq .b)) ?_
            refine lv (.plain rfl) rfl rfl (opv_pick_f rfl (Ev.eq (.t (.n 87 6 rfl))) h86 (Ev.eq (.t .here))) ?_
            refine lv (.plain rfl) rfl rfl (opv_move rfl (Ev.eq (.t .here))) ?_
            refine lv (.on rfl rfl .here rfl) rfl rfl (opv_move rfl (Ev.eq (.t (.n 7 18 rfl)))) ?_
            refine lv (.on rfl rfl (.n 95 1 rfl) rfl) rfl rfl (opv_gtr rfl (Ev.eq (.t .here)) (Ev.eq .i) rfl) ?_
            refine lv (.plain rfl) rfl rfl (opv_pick_f rfl (Ev.eq (.t (.n 95 2 rfl))) rfl (Ev.eq (.t .here))) ?_
            refine awpL_nil ?_
            refine psplit (.n 97 1 rfl) (fun h97 => ?_) (fun h97 => ?_)
            ·
             have q97 := h97
             try simp only [zs, List.length_map] at q97
             refine pcond_t (.t .here) h97 ?_
             refine awp_seq ?_
             refine awp_region ?_
             refine lv (.plain rfl) rfl rfl (opv_assign rfl (Ev.eq .i)) ?_
             refine awpL_nil ?_
             refine awp_ret ?_
             refine ret_now (.one (rv_t .here)) (Cast.all _ _) ?_
             refine ⟨congrArg (fun x => AV.d (D.i .i64 x)) ?_, rfl⟩
             obtain rfl : i = 3 := by omega
             rw [show widR s p = widN s p 3 (bt s (p : Int) - 224) 2048 from by unfold widR; rw [if_neg (by omega), if_neg (by omega), if_neg (by omega), if_pos (by omega)]]; unfold widN; rw [show (3 - 1 : Nat) = 2 from rfl, ← hEQ]
             rw [Nat.sub_self, wid1]
             simp only
             first | (rw [if_pos (by omega)]; rfl) | (rw [if_neg (by omega)]; rfl)
            ·
             have q97 := h97
             try simp only [zs, List.length_map] at q97
             refine pcond_f (.t .here) h97 ?_
             refine awp_skip ?_
             refine awp_seq ?_
             refine awp_region ?_
             refine lv (.plain rfl) rfl rfl (opv_move rfl (Ev.eq (.t (.n 6 20 rfl)))) ?_
             refine lv (.plain rfl) rfl rfl (opv_assign rfl (Ev.eq (.t .here))) ?_
             refine awpL_nil ?_
             refine awp_ret ?_
             refine ret_now (.one (rv_t .here)) (Cast.all _ _) ?_
             refine ⟨congrArg (fun x => AV.d (D.i .i64 x)) ?_, rfl⟩
             obtain rfl : i = 3 := by omega
             rw [show widR s p = widN s p 3 (bt s (p : Int) - 224) 2048 from by unfold widR; rw [if_neg (by omega), if_neg (by omega), if_neg (by omega), if_pos (by omega)]]; unfold widN; rw [show (3 - 1 : Nat) = 2 from rfl, ← hEQ]
             rw [Nat.sub_self, wid1]
             simp only
             first | (rw [if_pos (by omega)]; rfl) | (rw [if_neg (by omega)]; rfl)
        ·
         have q40 := h40
         try simp only [zs, List.length_map] at q40
         refine pcond_f (.t .here) h40 ?_
         refine awp_seq ?_
         refine awp_region ?_
         refine lv (.plain rfl) rfl rfl (opv_move rfl (Ev.eq (.t (.n 5 21 rfl)))) ?_
         refine lv (.plain rfl) rfl rfl (opv_geq rfl (Ev.eq (.t .here)) (Ev.eq .i) rfl) ?_
         refine lv (.plain rfl) rfl rfl (opv_move rfl (Ev.eq (.t .here))) ?_
         refine lsplit (.n 46 1 rfl) (fun h46 => ?_) (fun h46 => ?_)
         ·
          have q46 := h46
          try simp only [zs, List.length_map] at q46
          refine lv (.on rfl rfl .here h46) rfl rfl (opv_move rfl (Ev.eq (.t (.n 5 24 rfl)))) ?_
          refine lv (.on rfl rfl (.n 47 1 rfl) h46) rfl rfl (opv_lss rfl (Ev.eq (.t .here)) (Ev.eq .i) rfl) ?_
          refine lv (.plain rfl) rfl rfl (opv_pick_t rfl (Ev.eq (.t (.n 47 2 rfl))) h46 (Ev.eq (.t .here))) ?_
          refine lv (.plain rfl) rfl rfl (opv_assign rfl (Ev.eq (.t .here))) ?_
          refine awpL_nil ?_
          refine psplit (.n 49 2 rfl) (fun h49 => ?_) (fun h49 => ?_)
          ·
           have q49 := h49
           try simp only [zs, List.length_map] at q49
           refine pcond_t (.t .here) h49 ?_
           refine awp_region ?_
           refine lv (.plain rfl) rfl rfl (opv_move rfl (Ev.eq (.t (.n 5 28 rfl)))) ?_
           refine lv (.plain rfl) rfl rfl (opv_sub rfl (Ev.eq (.t .here)) (Ev.eq .i) (wr64 (by omega) (by omega)) rfl) ?_
           refine lv (.plain rfl) rfl rfl (opv_assign rfl (Ev.eq .i)) ?_
           refine lv (.plain rfl) rfl rfl (opv_assign rfl (Ev.eq (.t (.n 52 1 rfl)))) ?_
           refine lv (.plain rfl) rfl rfl (opv_assign rfl (Ev.eq .i)) ?_
           refine awpL_nil ?_
           refine awp_seq ?_
           refine awp_seq ?_
           refine awp_region ?_
           refine lv (.plain rfl) rfl rfl (opv_assign rfl (Ev.eq .i)) ?_
           refine awpL_nil ?_
           refine awp_block ?_
           have hbr := bt_range s (p : Int)
           refine ploop (fun (a : Nat × Int) => ⟨100, [(0, .d (.s s)), (1, .d (.i .i64 (p : Int))), (6, .d (.i .i64 4)), (7, .d (.i .i64 a.2)), (8, .d (.i .i64 65536)), (9, .d (.i .i64 (a.1 : Int)))], [], []⟩) (fun a => a.1 ≤ 4 ∧ 0 ≤ a.2 ∧ (a.1 = 1 ∧ a.2 ≤ 31 ∨ a.1 = 2 ∧ a.2 ≤ 2047 ∨ a.1 = 3 ∧ a.2 ≤ 131071 ∨ a.1 = 4 ∧ a.2 ≤ 8388607) ∧ wid1 s p a.1 (4 - a.1) a.2 = wid1 s p 1 3 (bt s (p : Int) - 240)) (fun a => 4 - a.1) ((1, bt s (p : Int) - 240)) (weak_both (.ce (.n 0 48 rfl) (by first | rfl | (simp; done) | (simp; omega)) (.ce (.n 1 49 rfl) (by first | rfl | (simp; done) | (simp; omega)) (.ce (.n 6 3 rfl) (by first | rfl | (simp; done) | (simp; omega)) (.ce (.n 7 2 rfl) (by first | rfl | (simp; done) | (simp; omega)) (.ce (.n 8 1 rfl) (by first | rfl | (simp; done) | (simp; omega)) (.ce .here (by first | rfl | (simp; done) | (simp; omega)) .nil)))))) (List.Sublist.refl _)) (⟨by dsimp only; omega, by dsimp only; omega, by dsimp only; omega, rfl⟩) ?_
           rintro ⟨i, q⟩ ⟨hi, hq0, hqb, hEQ⟩
           dsimp only at hi hq0 hqb hEQ
           dsimp only
           have hn : 4 = 4 := rfl
           refine awp_seq ?_
           refine awp_seq ?_
           refine awp_region ?_
           refine lv (.plain rfl) rfl rfl (opv_move rfl (Ev.eq (.t (.n 9 5 rfl)))) ?_
           refine lv (.plain rfl) rfl rfl (opv_move rfl (Ev.eq (.t (.n 6 3 rfl)))) ?_
           refine lv (.plain rfl) rfl rfl (opv_lss rfl (Ev.eq (.t (.n 53 1 rfl))) (Ev.eq (.t .here)) rfl) ?_
           refine awpL_nil ?_
           refine psplit .here (fun h55 => ?_) (fun h55 => ?_)
           ·
            have q55 := h55
            try simp only [zs, List.length_map] at q55
            refine pcond_t (.t .here) h55 ?_
            refine awp_skip ?_
            refine awp_seq ?_
            refine awp_block ?_
            refine awp_seq ?_
            refine awp_seq ?_
            refine awp_region ?_
            refine lv (.plain rfl) rfl rfl (opv_move rfl (Ev.eq (.t (.n 1 4 rfl)))) ?_
            refine lv (.plain rfl) rfl rfl (opv_move rfl (Ev.eq (.t (.n 9 9 rfl)))) ?_
            refine lv (.plain rfl) rfl rfl (opv_add rfl (Ev.eq (.t (.n 58 1 rfl))) (Ev.eq (.t .here)) (wr64 (by omega) (by omega)) rfl) ?_
            refine lv (.plain rfl) rfl rfl (opv_move rfl (Ev.eq (.t (.n 0 6 rfl)))) ?_
            refine lv (.plain rfl) rfl rfl (opv_len_s Tryd.underlying9 rfl (Ev.eq (.t .here)) rfl) ?_
            refine lv (.plain rfl) rfl rfl (opv_geq rfl (Ev.eq (.t (.n 60 2 rfl))) (Ev.eq (.t .here)) rfl) ?_
            refine lv (.plain rfl) rfl rfl (opv_move rfl (Ev.eq (.t .here))) ?_
            refine lsplit (.n 63 1 rfl) (fun h63 => ?_) (fun h63 => ?_)
            ·
             have q63 := h63
             try simp only [zs, List.length_map] at q63
             refine lo (.off rfl rfl .here h63) rfl rfl ?_
             refine lo (.off rfl rfl (.n 64 1 rfl) h63) rfl rfl ?_
             refine lo (.off rfl rfl (.n 64 2 rfl) h63) rfl rfl ?_
             refine lo (.off rfl rfl (.n 64 3 rfl) h63) rfl rfl ?_
             refine lo (.off rfl rfl (.n 64 4 rfl) h63) rfl rfl ?_
             refine lo (.off rfl rfl (.n 64 5 rfl) h63) rfl rfl ?_
             refine lo (.off rfl rfl (.n 64 6 rfl) h63) rfl rfl ?_
             refine lo (.off rfl rfl (.n 64 7 rfl) h63) rfl rfl ?_
             refine lv (.plain rfl) rfl rfl (opv_pick_t rfl (Ev.eq (.t (.n 64 8 rfl))) h63 (Ev.eq .b)) ?_
             refine awpL_nil ?_
             refine pcond_t (.t .here) rfl ?_
             refine awp_seq ?_
             refine awp_region ?_
             refine lv (.plain rfl) rfl rfl (opv_assign rfl (Ev.eq .i)) ?_
             refine awpL_nil ?_
             refine awp_ret ?_
             refine ret_now (.one (rv_t .here)) (Cast.all _ _) ?_
             have hbi := bt_range s ((p : Int) + i)
             refine ⟨congrArg (fun x => AV.d (D.i .i64 x)) ?_, rfl⟩
             rw [show widR s p = widN s p 4 (bt s (p : Int) - 240) 65536 from by unfold widR; rw [if_neg (by omega), if_neg (by omega), if_neg (by omega), if_neg (by omega), if_pos (by omega)]]; unfold widN; rw [show (4 - 1 : Nat) = 3 from rfl, ← hEQ]
             rw [show 4 - i = (4 - (i + 1)) + 1 by omega, wid1, if_pos (by first | omega | (right; omega))]
             try rfl
            ·
             have q63 := h63
             try simp only [zs, List.length_map] at q63
             refine lv (.on rfl rfl .here h63) rfl rfl (opv_move rfl (Ev.eq (.t (.n 0 10 rfl)))) ?_
             refine lv (.on rfl rfl (.n 64 1 rfl) h63) rfl rfl (opv_move rfl (Ev.eq (.t (.n 1 12 rfl)))) ?_
             refine lv (.on rfl rfl (.n 64 2 rfl) h63) rfl rfl (opv_move rfl (Ev.eq (.t (.n 9 17 rfl)))) ?_
             refine lv (.on rfl rfl (.n 64 3 rfl) h63) rfl rfl (opv_add rfl (Ev.eq (.t (.n 66 1 rfl))) (Ev.eq (.t .here)) (wr64 (by omega) (by omega)) rfl) ?_
             refine lv (.on rfl rfl (.n 64 4 rfl) h63) rfl rfl (opv_index_s Tryd.underlying9 rfl (Ev.eq (.t (.n 65 3 rfl))) (Ev.eq (.t .here)) (by omega) (by omega) rfl) ?_
             refine lv (.on rfl rfl (.n 64 5 rfl) h63) rfl rfl (opv_convert Tryd.underlying5 Tryd.underlying3 rfl (Ev.eq (.t .here)) (wr_bt _ _) rfl) ?_
             refine lv (.on rfl rfl (.n 64 6 rfl) h63) rfl rfl (opv_quo rfl (Ev.eq (.t .here)) (Ev.eq .i) (by omega) (wr_div (bt_range _ _).1 (by decide) (by have := bt_range s ((p : Int) + i); omega)) rfl) ?_
             refine lv (.on rfl rfl (.n 64 7 rfl) h63) rfl rfl (opv_neq_i rfl (Ev.eq (.t .here)) (Ev.eq .i) rfl) ?_
             refine lv (.plain rfl) rfl rfl (opv_pick_f rfl (Ev.eq (.t (.n 64 8 rfl))) h63 (Ev.eq (.t .here))) ?_
             refine awpL_nil ?_
             refine psplit (.n 72 1 rfl) (fun h72 => ?_) (fun h72 => ?_)
             ·
              have q72 := h72
              try simp only [zs, List.length_map] at q72
              refine pcond_t (.t .here) h72 ?_
              refine awp_seq ?_
              refine awp_region ?_
              refine lv (.plain rfl) rfl rfl (opv_assign rfl (Ev.eq .i)) ?_
              refine awpL_nil ?_
              refine awp_ret ?_
              refine ret_now (.one (rv_t .here)) (Cast.all _ _) ?_
              have hbi := bt_range s ((p : Int) + i)
              refine ⟨congrArg (fun x => AV.d (D.i .i64 x)) ?_, rfl⟩
              rw [show widR s p = widN s p 4 (bt s (p : Int) - 240) 65536 from by unfold widR; rw [if_neg (by omega), if_neg (by omega), if_neg (by omega), if_neg (by omega), if_pos (by omega)]]; unfold widN; rw [show (4 - 1 : Nat) = 3 from rfl, ← hEQ]
              rw [show 4 - i = (4 - (i + 1)) + 1 by omega, wid1, if_pos (by first | omega | (right; omega))]
              try rfl
             ·
              have q72 := h72
              try simp only [zs, List.length_map] at q72
              refine pcond_f (.t .here) h72 ?_
              refine awp_skip ?_
              refine awp_region ?_
              refine lv (.plain rfl) rfl rfl (opv_move rfl (Ev.eq (.t (.n 7 22 rfl)))) ?_
              refine lv (.plain rfl) rfl rfl (opv_mul rfl (Ev.eq .i) (Ev.eq (.t .here)) (wr64 (by omega) (by omega)) rfl) ?_
              refine lv (.plain rfl) rfl rfl (opv_move rfl (Ev.eq (.t (.n 0 21 rfl)))) ?_
              refine lv (.plain rfl) rfl rfl (opv_move rfl (Ev.eq (.t (.n 1 23 rfl)))) ?_
              refine lv (.plain rfl) rfl rfl (opv_move rfl (Ev.eq (.t (.n 9 28 rfl)))) ?_
              refine lv (.plain rfl) rfl rfl (opv_add rfl (Ev.eq (.t (.n 77 1 rfl))) (Ev.eq (.t .here)) (wr64 (by omega) (by omega)) rfl) ?_
              refine lv (.plain rfl) rfl rfl (opv_index_s Tryd.underlying9 rfl (Ev.eq (.t (.n 76 3 rfl))) (Ev.eq (.t .here)) (by omega) (by omega) rfl) ?_
              refine lv (.plain rfl) rfl rfl (opv_convert Tryd.underlying5 Tryd.underlying3 rfl (Ev.eq (.t .here)) (wr_bt _ _) rfl) ?_
              refine lv (.plain rfl) rfl rfl (opv_rem rfl (Ev.eq (.t .here)) (Ev.eq .i) (by omega) (Int.tmod_eq_emod_of_nonneg (bt_range _ _).1) rfl) ?_
              refine lv (.plain rfl) rfl rfl (opv_add rfl (Ev.eq (.t (.n 75 7 rfl))) (Ev.eq (.t .here)) (wr64 (by have := bt_range s ((p : Int) + i); omega) (by have := bt_range s ((p : Int) + i); omega)) rfl) ?_
              refine lv (.plain rfl) rfl rfl (opv_assign rfl (Ev.eq (.t .here))) ?_
              refine awpL_nil ?_
              refine awp_region ?_
              refine lv (.plain rfl) rfl rfl (opv_move rfl (Ev.eq (.t (.n 9 35 rfl)))) ?_
              refine lv (.plain rfl) rfl rfl (opv_add rfl (Ev.eq (.t .here)) (Ev.eq .i) (wr64 (by omega) (by omega)) rfl) ?_
              refine lv (.plain rfl) rfl rfl (opv_assign rfl (Ev.eq (.t .here))) ?_
              refine awpL_nil ?_
              have hbi := bt_range s ((p : Int) + i)
              refine ⟨(i + 1, 64 * q + bt s ((p : Int) + i) % 64), by dsimp only; omega, ⟨by dsimp only; omega, by dsimp only; omega, by dsimp only; omega, by dsimp only; rw [show 4 - i = (4 - (i + 1)) + 1 by omega, wid1, if_neg (by omega)] at hEQ; exact hEQ⟩, weak_both (.ce (.n 0 33 rfl) (by first | rfl | (simp; done) | (simp; omega)) (.ce (.n 1 34 rfl) (by first | rfl | (simp; done) | (simp; omega)) (.ce (.n 6 35 rfl) (by first | rfl | (simp; done) | (simp; omega)) (.ce (.n 7 3 rfl) (by first | rfl | (simp; done) | (simp; omega)) (.ce (.n 8 37 rfl) (by first | rfl | (simp; done) | (simp; omega)) (.ce .here (by first | rfl | (simp; done) | (simp; omega)) .nil)))))) (List.Sublist.refl _)⟩
           ·
            have q55 := h55
            try simp only [zs, List.length_map] at q55
            refine pcond_f (.t .here) h55 ?_
            refine awp_exit ?_
            refine awp_seq ?_
            refine awp_seq ?_
            refine awp_region ?_
            refine lv (.plain rfl) rfl rfl (opv_move rfl (Ev.eq (.t (.n 7 6 rfl)))) ?_
            refine lv (.plain rfl) rfl rfl (opv_move rfl (Ev.eq (.t (.n 8 8 rfl)))) ?_
            refine lv (.plain rfl) rfl rfl (opv_lss rfl (Ev.eq (.t (.n 84 1 rfl))) (Ev.eq (.t .here)) rfl) ?_
            refine lv (.plain rfl) rfl rfl (opv_move rfl (Ev.eq (.t .here))) ?_
            refine lsplit (.n 86 1 rfl) (fun h86 => ?_) (fun h86 => ?_)
            ·
             have q86 := h86
             try simp only [zs, List.length_map] at q86
             refine lo (.off rfl rfl .here h86) rfl rfl ?_
             refine lo (.off rfl rfl (.n 87 1 rfl) h86) rfl rfl ?_
             refine lo (.off rfl rfl (.n 87 2 rfl) h86) rfl rfl ?_
             refine lo (.no rfl rfl .here) rfl rfl ?_
             refine lo (.no rfl rfl (.n 90 1 rfl)) rfl rfl ?_
             refine lo (.off rfl rfl (.n 87 5 rfl) h86) rfl rfl ?_
             refine lv (.plain rfl) rfl rfl (opv_pick_t rfl (Ev.eq (.t (.n 87 6 rfl))) h86 (Ev.eq .b)) ?_
             refine lv (.plain rfl) rfl rfl (opv_move rfl (Ev.eq (.t .here))) ?_
             refine lo (.off rfl rfl .here rfl) rfl rfl ?_
             refine lo (.off rfl rfl (.n 95 1 rfl) rfl) rfl rfl ?_
             refine lv (.plain rfl) rfl rfl (opv_pick_t rfl (Ev.eq (.t (.n 95 2 rfl))) rfl (Ev.eq .b)) ?_
             refine awpL_nil ?_
             refine pcond_t (.t .here) rfl ?_
             refine awp_seq ?_
             refine awp_region ?_
             refine lv (.plain rfl) rfl rfl (opv_assign rfl (Ev.eq .i)) ?_
             refine awpL_nil ?_
             refine awp_ret ?_
             refine ret_now (.one (rv_t .here)) (Cast.all _ _) ?_
             refine ⟨congrArg (fun x => AV.d (D.i .i64 x)) ?_, rfl⟩
             obtain rfl : i = 4 := by omega
             rw [show widR s p = widN s p 4 (bt s (p : Int) - 240) 65536 from by unfold widR; rw [if_neg (by omega), if_neg (by omega), if_neg (by omega), if_neg (by omega), if_pos (by omega)]]; unfold widN; rw [show (4 - 1 : Nat) = 3 from rfl, ← hEQ]
             rw [Nat.sub_self, wid1]
             simp only
             first | (rw [if_pos (by omega)]; rfl) | (rw [if_neg (by omega)]; rfl)
            ·
             have q86 := h86
             try simp only [zs, List.length_map] at q86
             refine lv (.on rfl rfl .here h86) rfl rfl (opv_move rfl (Ev.eq (.t (.n 7 10 rfl)))) ?_
             refine lv (.on rfl rfl (.n 87 1 rfl) h86) rfl rfl (opv_geq rfl (Ev.eq (.t .here)) (Ev.eq .i) rfl) ?_
             refine lv (.on rfl rfl (.n 87 2 rfl) h86) rfl rfl (opv_move rfl (Ev.eq (.t .here))) ?_
             refine lsplit (.n 89 1 rfl) (fun h89 => ?_) (fun h89 => ?_)
             ·
              have q89 := h89
              try simp only [zs, List.length_map] at q89
              refine lv (.on rfl rfl .here h89) rfl rfl (opv_move rfl (Ev.eq (.t (.n 7 13 rfl)))) ?_
              refine lv (.on rfl rfl (.n 90 1 rfl) h89) rfl rfl (opv_lss rfl (Ev.eq (.t .here)) (Ev.eq .i) rfl) ?_
              refine lv (.on rfl rfl (.n 87 5 rfl) h86) rfl rfl (opv_pick_t rfl (Ev.eq (.t (.n 90 2 rfl))) h89 (Ev.eq (.t .here))) ?_
              refine lv (.plain rfl) rfl rfl (opv_pick_f rfl (Ev.eq (.t (.n 87 6 rfl))) h86 (Ev.eq (.t .here))) ?_
              refine lv (.plain rfl) rfl rfl (opv_move rfl (Ev.eq (.t .here))) ?_
              refine lsplit (.n 92 3 rfl) (fun h92 => ?_) (fun h92 => ?_)
              ·
               have q92 := h92
               try simp only [zs, List.length_map] at q92
               refine lo (.off rfl rfl .here h92) rfl rfl ?_
               refine lo (.off rfl rfl (.n 95 1 rfl) h92) rfl rfl ?_
               refine lv (.plain rfl) rfl rfl (opv_pick_t rfl (Ev.eq (.t (.n 95 2 rfl))) h92 (Ev.eq .b)) ?_
               refine awpL_nil ?_
               refine pcond_t (.t .here) rfl ?_
               refine awp_seq ?_
               refine awp_region ?_
               refine lv (.plain rfl) rfl rfl (opv_assign rfl (Ev.eq .i)) ?_
               refine awpL_nil ?_
               refine awp_ret ?_
               refine ret_now (.one (rv_t .here)) (Cast.all _ _) ?_
               refine ⟨congrArg (fun x => AV.d (D.i .i64 x)) ?_, rfl⟩
               obtain rfl : i = 4 := by omega
               rw [show widR s p = widN s p 4 (bt s (p : Int) - 240) 65536 from by unfold widR; rw [if_neg (by omega), if_neg (by omega), if_neg (by omega), if_neg (by omega), if_pos (by omega)]]; unfold widN; rw [show (4 - 1 : Nat) = 3 from rfl, ← hEQ]
               rw [Nat.sub_self, wid1]
               simp only
               first | (rw [if_pos (by omega)]; rfl) | (rw [if_neg (by omega)]; rfl)
              ·
               have q92 := h92
               try simp only [zs, List.length_map] at q92
               refine lv (.on rfl rfl .here h92) rfl rfl (opv_move rfl (Ev.eq (.t (.n 7 18 rfl)))) ?_
               refine lv (.on rfl rfl (.n 95 1 rfl) h92) rfl rfl (opv_gtr rfl (Ev.eq (.t .here)) (Ev.eq .i) rfl) ?_
               refine lv (.plain rfl) rfl rfl (opv_pick_f rfl (Ev.eq (.t (.n 95 2 rfl))) h92 (Ev.eq (.t .here))) ?_
               refine awpL_nil ?_
               refine psplit (.n 97 1 rfl) (fun h97 => ?_) (fun h97 => ?_)
               ·
                have q97 := h97
                try simp only [zs, List.length_map] at q97
                refine pcond_t (.t .here) h97 ?_
                refine awp_seq ?_
                refine awp_region ?_
                refine lv (.plain rfl) rfl rfl (opv_assign rfl (Ev.eq .i)) ?_
                refine awpL_nil ?_
                refine awp_ret ?_
                refine ret_now (.one (rv_t .here)) (Cast.all _ _) ?_
                refine ⟨congrArg (fun x => AV.d (D.i .i64 x)) ?_, rfl⟩
                obtain rfl : i = 4 := by omega
                rw [show widR s p = widN s p 4 (bt s (p : Int) - 240) 65536 from by unfold widR; rw [if_neg (by omega), if_neg (by omega), if_neg (by omega), if_neg (by omega), if_pos (by omega)]]; unfold widN; rw [show (4 - 1 : Nat) = 3 from rfl, ← hEQ]
                rw [Nat.sub_self, wid1]
                simp only
                first | (rw [if_pos (by omega)]; rfl) | (rw [if_neg (by omega)]; rfl)
               ·
                have q97 := h97
                try simp only [zs, List.length_map] at q97
                refine pcond_f (.t .here) h97 ?_
                refine awp_skip ?_
                refine awp_seq ?_
                refine awp_region ?_
                refine lv (.plain rfl) rfl rfl (opv_move rfl (Ev.eq (.t (.n 6 20 rfl)))) ?_
                refine lv (.plain rfl) rfl rfl (opv_assign rfl (Ev.eq (.t .here))) ?_
                refine awpL_nil ?_
                refine awp_ret ?_
                refine ret_now (.one (rv_t .here)) (Cast.all _ _) ?_
                refine ⟨congrArg (fun x => AV.d (D.i .i64 x)) ?_, rfl⟩
                obtain rfl : i = 4 := by omega
                rw [show widR s p = widN s p 4 (bt s (p : Int) - 240) 65536 from by unfold widR; rw [if_neg (by omega), if_neg (by omega), if_neg (by omega), if_neg (by omega), if_pos (by omega)]]; unfold widN; rw [show (4 - 1 : Nat) = 3 from rfl, ← hEQ]
                rw [Nat.sub_self, wid1]
                simp only
                first | (rw [if_pos (by omega)]; rfl) | (rw [if_neg (by omega)]; rfl)
             ·
              have q89 := h89
              try simp only [zs, List.length_map] at q89
              refine lo (.off rfl rfl .here h89) rfl rfl ?_
              refine lo (.off rfl rfl (.n 90 1 rfl) h89) rfl rfl ?_
              refine lv (.on rfl rfl (.n 87 5 rfl) h86) rfl rfl (opv_pick_f rfl (Ev.eq (.t (.n 90 2 rfl))) h89 (Ev.eq .b)) ?_
              refine lv (.plain rfl) rfl rfl (opv_pick_f rfl (Ev.eq (.t (.n 87 6 rfl))) h86 (Ev.eq (.t .here))) ?_
              refine lv (.plain rfl) rfl rfl (opv_move rfl (Ev.eq (.t .here))) ?_
              refine lv (.on rfl rfl .here rfl) rfl rfl (opv_move rfl (Ev.eq (.t (.n 7 18 rfl)))) ?_
              refine lv (.on rfl rfl (.n 95 1 rfl) rfl) rfl rfl (opv_gtr rfl (Ev.eq (.t .here)) (Ev.eq .i) rfl) ?_
              refine lv (.plain rfl) rfl rfl (opv_pick_f rfl (Ev.eq (.t (.n 95 2 rfl))) rfl (Ev.eq (.t .here))) ?_
              refine awpL_nil ?_
              refine psplit (.n 97 1 rfl) (fun h97 => ?_) (fun h97 => ?_)
              ·
               have q97 := h97
               try simp only [zs, List.length_map] at q97
               refine pcond_t (.t .here) h97 ?_
               refine awp_seq ?_
               refine awp_region ?_
               refine lv (.plain rfl) rfl rfl (opv_assign rfl (Ev.eq .i)) ?_
               refine awpL_nil ?_
               refine awp_ret ?_
               refine ret_now (.one (rv_t .here)) (Cast.all _ _) ?_
               refine ⟨congrArg (fun x => AV.d (D.i .i64 x)) ?_, rfl⟩
               obtain rfl : i = 4 := by omega
               rw [show widR s p = widN s p 4 (bt s (p : Int) - 240) 65536 from by unfold widR; rw [if_neg (by omega), if_neg (by omega), if_neg (by omega), if_neg (by omega), if_pos (by omega)]]; unfold widN; rw [show (4 - 1 : Nat) = 3 from rfl, ← hEQ]
               rw [Nat.sub_self, wid1]
               simp only
               first | (rw [if_pos (by omega)]; rfl) | (rw [if_neg (by omega)]; rfl)
              ·
               have q97 := h97
               try simp only [zs, List.length_map] at q97
               refine pcond_f (.t .here) h97 ?_
               refine awp_skip ?_
               refine awp_seq ?_
               refine awp_region ?_
               refine lv (.plain rfl) rfl rfl (opv_move rfl (Ev.eq (.t (.n 6 20 rfl)))) ?_
               refine lv (.plain rfl) rfl rfl (opv_assign rfl (Ev.eq (.t .here))) ?_
               refine awpL_nil ?_
               refine awp_ret ?_
               refine ret_now (.one (rv_t .here)) (Cast.all _ _) ?_
               refine ⟨congrArg (fun x => AV.d (D.i .i64 x)) ?_, rfl⟩
               obtain rfl : i = 4 := by omega
               rw [show widR s p = widN s p 4 (bt s (p : Int) - 240) 65536 from by unfold widR; rw [if_neg (by omega), if_neg (by omega), if_neg (by omega), if_neg (by omega), if_pos (by omega)]]; unfold widN; rw [show (4 - 1 : Nat) = 3 from rfl, ← hEQ]
               rw [Nat.sub_self, wid1]
               simp only
               first | (rw [if_pos (by omega)]; rfl) | (rw [if_neg (by omega)]; rfl)
          ·
           have q49 := h49
           try simp only [zs, List.length_map] at q49
           refine pcond_f (.t .here) h49 ?_
           refine awp_seq ?_
           refine awp_region ?_
           refine lv (.plain rfl) rfl rfl (opv_assign rfl (Ev.eq .i)) ?_
           refine awpL_nil ?_
           refine awp_ret ?_
           refine ret_now (.one (rv_t .here)) (Cast.all _ _) ?_
           refine ⟨congrArg (fun x => AV.d (D.i .i64 x)) ?_, rfl⟩
           unfold widR
           rw [if_neg (by omega), if_neg (by omega), if_neg (by omega), if_neg (by omega), if_neg (by omega)]
           rfl
         ·
          have q46 := h46
          try simp only [zs, List.length_map] at q46
          refine lo (.off rfl rfl .here h46) rfl rfl ?_
          refine lo (.off rfl rfl (.n 47 1 rfl) h46) rfl rfl ?_
          refine lv (.plain rfl) rfl rfl (opv_pick_f rfl (Ev.eq (.t (.n 47 2 rfl))) h46 (Ev.eq .b)) ?_
          refine lv (.plain rfl) rfl rfl (opv_assign rfl (Ev.eq (.t .here))) ?_
          refine awpL_nil ?_
          refine pcond_f (.t .here) rfl ?_
          refine awp_seq ?_
          refine awp_region ?_
          refine lv (.plain rfl) rfl rfl (opv_assign rfl (Ev.eq .i)) ?_
          refine awpL_nil ?_
          refine awp_ret ?_
          refine ret_now (.one (rv_t .here)) (Cast.all _ _) ?_
          refine ⟨congrArg (fun x => AV.d (D.i .i64 x)) ?_, rfl⟩
          unfold widR
          rw [if_neg (by omega), if_neg (by omega), if_neg (by omega), if_neg (by omega), if_neg (by omega)]
          rfl
       ·
        have q37 := h37
        try simp only [zs, List.length_map] at q37
        refine lo (.off rfl rfl .here h37) rfl rfl ?_
        refine lo (.off rfl rfl (.n 38 1 rfl) h37) rfl rfl ?_
        refine lv (.plain rfl) rfl rfl (opv_pick_f rfl (Ev.eq (.t (.n 38 2 rfl))) h37 (Ev.eq .b)) ?_
        refine lv (.plain rfl) rfl rfl (opv_assign rfl (Ev.eq (.t .here))) ?_
        refine awpL_nil ?_
        refine pcond_f (.t .here) rfl ?_
        refine awp_seq ?_
        refine awp_region ?_
        refine lv (.plain rfl) rfl rfl (opv_move rfl (Ev.eq (.t (.n 5 21 rfl)))) ?_
        refine lv (.plain rfl) rfl rfl (opv_geq rfl (Ev.eq (.t .here)) (Ev.eq .i) rfl) ?_
        refine lv (.plain rfl) rfl rfl (opv_move rfl (Ev.eq (.t .here))) ?_
        refine lsplit (.n 46 1 rfl) (fun h46 => ?_) (fun h46 => ?_)
        ·
         have q46 := h46
         try simp only [zs, List.length_map] at q46
         refine lv (.on rfl rfl .here h46) rfl rfl (opv_move rfl (Ev.eq (.t (.n 5 24 rfl)))) ?_
         refine lv (.on rfl rfl (.n 47 1 rfl) h46) rfl rfl (opv_lss rfl (Ev.eq (.t .here)) (Ev.eq .i) rfl) ?_
         refine lv (.plain rfl) rfl rfl (opv_pick_t rfl (Ev.eq (.t (.n 47 2 rfl))) h46 (Ev.eq (.t .here))) ?_
         refine lv (.plain rfl) rfl rfl (opv_assign rfl (Ev.eq (.t .here))) ?_
         refine awpL_nil ?_
         refine psplit (.n 49 2 rfl) (fun h49 => ?_) (fun h49 => ?_)
         ·
          have q49 := h49
          try simp only [zs, List.length_map] at q49
          refine pcond_t (.t .here) h49 ?_
          refine awp_region ?_
          refine lv (.plain rfl) rfl rfl (opv_move rfl (Ev.eq (.t (.n 5 28 rfl)))) ?_
          refine lv (.plain rfl) rfl rfl (opv_sub rfl (Ev.eq (.t .here)) (Ev.eq .i) (wr64 (by omega) (by omega)) rfl) ?_
          refine lv (.plain rfl) rfl rfl (opv_assign rfl (Ev.eq .i)) ?_
          refine lv (.plain rfl) rfl rfl (opv_assign rfl (Ev.eq (.t (.n 52 1 rfl)))) ?_
          refine lv (.plain rfl) rfl rfl (opv_assign rfl (Ev.eq .i)) ?_
          refine awpL_nil ?_
          refine awp_seq ?_
          refine awp_seq ?_
          refine awp_region ?_
          refine lv (.plain rfl) rfl rfl (opv_assign rfl (Ev.eq .i)) ?_
          refine awpL_nil ?_
          refine awp_block ?_
          have hbr := bt_range s (p : Int)
          refine ploop (fun (a : Nat × Int) => ⟨100, [(0, .d (.s s)), (1, .d (.i .i64 (p : Int))), (6, .d (.i .i64 4)), (7, .d (.i .i64 a.2)), (8, .d (.i .i64 65536)), (9, .d (.i .i64 (a.1 : Int)))], [], []⟩) (fun a => a.1 ≤ 4 ∧ 0 ≤ a.2 ∧ (a.1 = 1 ∧ a.2 ≤ 31 ∨ a.1 = 2 ∧ a.2 ≤ 2047 ∨ a.1 = 3 ∧ a.2 ≤ 131071 ∨ a.1 = 4 ∧ a.2 ≤ 8388607) ∧ wid1 s p a.1 (4 - a.1) a.2 = wid1 s p 1 3 (bt s (p : Int) - 240)) (fun a => 4 - a.1) ((1, bt s (p : Int) - 240)) (weak_both (.ce (.n 0 48 rfl) (by first | rfl | (simp; done) | (simp; omega)) (.ce (.n 1 49 rfl) (by first | rfl | (simp; done) | (simp; omega)) (.ce (.n 6 3 rfl) (by first | rfl | (simp; done) | (simp; omega)) (.ce (.n 7 2 rfl) (by first | rfl | (simp; done) | (simp; omega)) (.ce (.n 8 1 rfl) (by first | rfl | (simp; done) | (simp; omega)) (.ce .here (by first | rfl | (simp; done) | (simp; omega)) .nil)))))) (List.Sublist.refl _)) (⟨by dsimp only; omega, by dsimp only; omega, by dsimp only; omega, rfl⟩) ?_
          rintro ⟨i, q⟩ ⟨hi, hq0, hqb, hEQ⟩
          dsimp only at hi hq0 hqb hEQ
          dsimp only
          have hn : 4 = 4 := rfl
          refine awp_seq ?_
          refine awp_seq ?_
          refine awp_region ?_
          refine lv (.plain rfl) rfl rfl (opv_move rfl (Ev.eq (.t (.n 9 5 rfl)))) ?_
          refine lv (.plain rfl) rfl rfl (opv_move rfl (Ev.eq (.t (.n 6 3 rfl)))) ?_
          refine lv (.plain rfl) rfl rfl (opv_lss rfl (Ev.eq (.t (.n 53 1 rfl))) (Ev.eq (.t .here)) rfl) ?_
          refine awpL_nil ?_
          refine psplit .here (fun h55 => ?_) (fun h55 => ?_)
          ·
           have q55 := h55
           try simp only [zs, List.length_map] at q55
           refine pcond_t (.t .here) h55 ?_
           refine awp_skip ?_
           refine awp_seq ?_
           refine awp_block ?_
           refine awp_seq ?_
           refine awp_seq ?_
           refine awp_region ?_
           refine lv (.plain rfl) rfl rfl (opv_move rfl (Ev.eq (.t (.n 1 4 rfl)))) ?_
           refine lv (.plain rfl) rfl rfl (opv_move rfl (Ev.eq (.t (.n 9 9 rfl)))) ?_
           refine lv (.plain rfl) rfl rfl (opv_add rfl (Ev.eq (.t (.n 58 1 rfl))) (Ev.eq (.t .here)) (wr64 (by omega) (by omega)) rfl) ?_
           refine lv (.plain rfl) rfl rfl (opv_move rfl (Ev.eq (.t (.n 0 6 rfl)))) ?_
           refine lv (.plain rfl) rfl rfl (opv_len_s Tryd.underlying9 rfl (Ev.eq (.t .here)) rfl) ?_
           refine lv (.plain rfl) rfl rfl (opv_geq rfl (Ev.eq (.t (.n 60 2 rfl))) (Ev.eq (.t .here)) rfl) ?_
           refine lv (.plain rfl) rfl rfl (opv_move rfl (Ev.eq (.t .here))) ?_
           refine lsplit (.n 63 1 rfl) (fun h63 => ?_) (fun h63 => ?_)
           ·
            have q63 := h63
            try simp only [zs, List.length_map] at q63
            refine lo (.off rfl rfl .here h63) rfl rfl ?_
            refine lo (.off rfl rfl (.n 64 1 rfl) h63) rfl rfl ?_
            refine lo (.off rfl rfl (.n 64 2 rfl) h63) rfl rfl ?_
            refine lo (.off rfl rfl (.n 64 3 rfl) h63) rfl rfl ?_
            refine lo (.off rfl rfl (.n 64 4 rfl) h63) rfl rfl ?_
            refine lo (.off rfl rfl (.n 64 5 rfl) h63) rfl rfl ?_
            refine lo (.off rfl rfl (.n 64 6 rfl) h63) rfl rfl ?_
            refine lo (.off rfl rfl (.n 64 7 rfl) h63) rfl rfl ?_
            refine lv (.plain rfl) rfl rfl (opv_pick_t rfl (Ev.eq (.t (.n 64 8 rfl))) h63 (Ev.eq .b)) ?_
            refine awpL_nil ?_
            refine pcond_t (.t .here) rfl ?_
            refine awp_seq ?_
            refine awp_region ?_
            refine lv (.plain rfl) rfl rfl (opv_assign rfl (Ev.eq .i)) ?_
            refine awpL_nil ?_
            refine awp_ret ?_
            refine ret_now (.one (rv_t .here)) (Cast.all _ _) ?_
            have hbi := bt_range s ((p : Int) + i)
            refine ⟨congrArg (fun x => AV.d (D.i .i64 x)) ?_, rfl⟩
            rw [show widR s p = widN s p 4 (bt s (p : Int) - 240) 65536 from by unfold widR; rw [if_neg (by omega), if_neg (by omega), if_neg (by omega), if_neg (by omega), if_pos (by omega)]]; unfold widN; rw [show (4 - 1 : Nat) = 3 from rfl, ← hEQ]
            rw [show 4 - i = (4 - (i + 1)) + 1 by omega, wid1, if_pos (by first | omega | (right; omega))]
            try rfl
           ·
            have q63 := h63
            try simp only [zs, List.length_map] at q63
            refine lv (.on rfl rfl .here h63) rfl rfl (opv_move rfl (Ev.eq (.t (.n 0 10 rfl)))) ?_
            refine lv (.on rfl rfl (.n 64 1 rfl) h63) rfl rfl (opv_move rfl (Ev.eq (.t (.n 1 12 rfl)))) ?_
            refine lv (.on rfl rfl (.n 64 2 rfl) h63) rfl rfl (opv_move rfl (Ev.eq (.t (.n 9 17 rfl)))) ?_
            refine lv (.on rfl rfl (.n 64 3 rfl) h63) rfl rfl (opv_add rfl (Ev.eq (.t (.n 66 1 rfl))) (Ev.eq (.t .here)) (wr64 (by omega) (by omega)) rfl) ?_
            refine lv (.on rfl rfl (.n 64 4 rfl) h63) rfl rfl (opv_index_s Tryd.underlying9 rfl (Ev.eq (.t (.n 65 3 rfl))) (Ev.eq (.t .here)) (by omega) (by omega) rfl) ?_
            refine lv (.on rfl rfl (.n 64 5 rfl) h63) rfl rfl (opv_convert Tryd.underlying5 Tryd.underlying3 rfl (Ev.eq (.t .here)) (wr_bt _ _) rfl) ?_
            refine lv (.on rfl rfl (.n 64 6 rfl) h63) rfl rfl (opv_quo rfl (Ev.eq (.t .here)) (Ev.eq .i) (by omega) (wr_div (bt_range _ _).1 (by decide) (by have := bt_range s ((p : Int) + i); omega)) rfl) ?_
            refine lv (.on rfl rfl (.n 64 7 rfl) h63) rfl rfl (opv_neq_i rfl (Ev.eq (.t .here)) (Ev.eq .i) rfl) ?_
            refine lv (.plain rfl) rfl rfl (opv_pick_f rfl (Ev.eq (.t (.n 64 8 rfl))) h63 (Ev.eq (.t .here))) ?_
            refine awpL_nil ?_
            refine psplit (.n 72 1 rfl) (fun h72 => ?_) (fun h72 => ?_)
            ·
             have q72 := h72
             try simp only [zs, List.length_map] at q72
             refine pcond_t (.t .here) h72 ?_
             refine awp_seq ?_
             refine awp_region ?_
             refine lv (.plain rfl) rfl rfl (opv_assign rfl (Ev.eq .i)) ?_
             refine awpL_nil ?_
             refine awp_ret ?_
             refine ret_now (.one (rv_t .here)) (Cast.all _ _) ?_
             have hbi := bt_range s ((p : Int) + i)
             refine ⟨congrArg (fun x => AV.d (D.i .i64 x)) ?_, rfl⟩
             rw [show widR s p = widN s p 4 (bt s (p : Int) - 240) 65536 from by unfold widR; rw [if_neg (by omega), if_neg (by omega), if_neg (by omega), if_neg (by omega), if_pos (by omega)]]; unfold widN; rw [show (4 - 1 : Nat) = 3 from rfl, ← hEQ]
             rw [show 4 - i = (4 - (i + 1)) + 1 by omega, wid1, if_pos (by first | omega | (right; omega))]
             try rfl
            ·
             have q72 := h72
             try simp only [zs, List.length_map] at q72
             refine pcond_f (.t .here) h72 ?_
             refine awp_skip ?_
             refine awp_region ?_
             refine lv (.plain rfl) rfl rfl (opv_move rfl (Ev.eq (.t (.n 7 22 rfl)))) ?_
             refine lv (.plain rfl) rfl rfl (opv_mul rfl (Ev.eq .i) (Ev.eq (.t .here)) (wr64 (by omega) (by omega)) rfl) ?_
             refine lv (.plain rfl) rfl rfl (opv_move rfl (Ev.eq (.t (.n 0 21 rfl)))) ?_
             refine lv (.plain rfl) rfl rfl (opv_move rfl (Ev.eq (.t (.n 1 23 rfl)))) ?_
             refine lv (.plain rfl) rfl rfl (opv_move rfl (Ev.eq (.t (.n 9 28 rfl)))) ?_
             refine lv (.plain rfl) rfl rfl (opv_add rfl (Ev.eq (.t (.n 77 1 rfl))) (Ev.eq (.t .here)) (wr64 (by omega) (by omega)) rfl) ?_
             refine lv (.plain rfl) rfl rfl (opv_index_s Tryd.underlying9 rfl (Ev.eq (.t (.n 76 3 rfl))) (Ev.eq (.t .here)) (by omega) (by omega) rfl) ?_
             refine lv (.plain rfl) rfl rfl (opv_convert Tryd.underlying5 Tryd.underlying3 rfl (Ev.eq (.t .here)) (wr_bt _ _) rfl) ?_
             refine lv (.plain rfl) rfl rfl (opv_rem rfl (Ev.eq (.t .here)) (Ev.eq .i) (by omega) (Int.tmod_eq_emod_of_nonneg (bt_range _ _).1) rfl) ?_
             refine lv (.plain rfl) rfl rfl (opv_add rfl (Ev.eq (.t (.n 75 7 rfl))) (Ev.eq (.t .here)) (wr64 (by have := bt_range s ((p : Int) + i); omega) (by have := bt_range s ((p : Int) + i); omega)) rfl) ?_
             refine lv (.plain rfl) rfl rfl (opv_assign rfl (Ev.eq (.t .here))) ?_
             refine awpL_nil ?_
             refine awp_region ?_
             refine lv (.plain rfl) rfl rfl (opv_move rfl (Ev.eq (.t (.n 9 35 rfl)))) ?_
             refine lv (.plain rfl) rfl rfl (opv_add rfl (Ev.eq (.t .here)) (Ev.eq .i) (wr64 (by omega) (by omega)) rfl) ?_
             refine lv (.plain rfl) rfl rfl (opv_assign rfl (Ev.eq (.t .here))) ?_
             refine awpL_nil ?_
             have hbi := bt_range s ((p : Int) + i)
             refine ⟨(i + 1, 64 * q + bt s ((p : Int) + i) % 64), by dsimp only; omega, ⟨by dsimp only; omega, by dsimp only; omega, by dsimp only; omega, by dsimp only; rw [show 4 - i = (4 - (i + 1)) + 1 by omega, wid1, if_neg (by omega)] at hEQ; exact hEQ⟩, weak_both (.ce (.n 0 33 rfl) (by first | rfl | (simp; done) | (simp; omega)) (.ce (.n 1 34 rfl) (by first | rfl | (simp; done) | (simp; omega)) (.ce (.n 6 35 rfl) (by first | rfl | (simp; done) | (simp; omega)) (.ce (.n 7 3 rfl) (by first | rfl | (simp; done) | (simp; omega)) (.ce (.n 8 37 rfl) (by first | rfl | (simp; done) | (simp; omega)) (.ce .here (by first | rfl | (simp; done) | (simp; omega)) .nil)))))) (List.Sublist.refl _)⟩
          ·
           have q55 := h55
           try simp only [zs, List.length_map] at q55
           refine pcond_f (.t .here) h55 ?_
           refine awp_exit ?_
           refine awp_seq ?_
           refine awp_seq ?_
           refine awp_region ?_
           refine lv (.plain rfl) rfl rfl (opv_move rfl (Ev.eq (.t (.n 7 6 rfl)))) ?_
           refine lv (.plain rfl) rfl rfl (opv_move rfl (Ev.eq (.t (.n 8 8 rfl)))) ?_
           refine lv (.plain rfl) rfl rfl (opv_lss rfl (Ev.eq (.t (.n 84 1 rfl))) (Ev.eq (.t .here)) rfl) ?_
           refine lv (.plain rfl) rfl rfl (opv_move rfl (Ev.eq (.t .here))) ?_
           refine lsplit (.n 86 1 rfl) (fun h86 => ?_) (fun h86 => ?_)
           ·
            have q86 := h86
            try simp only [zs, List.length_map] at q86
            refine lo (.off rfl rfl .here h86) rfl rfl ?_
            refine lo (.off rfl rfl (.n 87 1 rfl) h86) rfl rfl ?_
            refine lo (.off rfl rfl (.n 87 2 rfl) h86) rfl rfl ?_
            refine lo (.no rfl rfl .here) rfl rfl ?_
            refine lo (.no rfl rfl (.n 90 1 rfl)) rfl rfl ?_
            refine lo (.off rfl rfl (.n 87 5 rfl) h86) rfl rfl ?_
            refine lv (.plain rfl) rfl rfl (opv_pick_t rfl (Ev.eq (.t (.n 87 6 rfl))) h86 (Ev.eq .b)) ?_
            refine lv (.plain rfl) rfl rfl (opv_move rfl (Ev.eq (.t .here))) ?_
            refine lo (.off rfl rfl .here rfl) rfl rfl ?_
            refine lo (.off rfl rfl (.n 95 1 rfl) rfl) rfl rfl ?_
            refine lv (.plain rfl) rfl rfl (opv_pick_t rfl (Ev.eq (.t (.n 95 2 rfl))) rfl (Ev.eq .b)) ?_
            refine awpL_nil ?_
            refine pcond_t (.t .here) rfl ?_
            refine awp_seq ?_
            refine awp_region ?_
            refine lv (.plain rfl) rfl rfl (opv_assign rfl (Ev.eq .i)) ?_
            refine awpL_nil ?_
            refine awp_ret ?_
            refine ret_now (.one (rv_t .here)) (Cast.all _ _) ?_
            refine ⟨congrArg (fun x => AV.d (D.i .i64 x)) ?_, rfl⟩
            obtain rfl : i = 4 := by omega
            rw [show widR s p = widN s p 4 (bt s (p : Int) - 240) 65536 from by unfold widR; rw [if_neg (by omega), if_neg (by omega), if_neg (by omega), if_neg (by omega), if_pos (by omega)]]; unfold widN; rw [show (4 - 1 : Nat) = 3 from rfl, ← hEQ]
            rw [Nat.sub_self, wid1]
            simp only
            first | (rw [if_pos (by omega)]; rfl) | (rw [if_neg (by omega)]; rfl)
           ·
            have q86 := h86
            try simp only [zs, List.length_map] at q86
            refine lv (.on rfl rfl .here h86) rfl rfl (opv_move rfl (Ev.eq (.t (.n 7 10 rfl)))) ?_
            refine lv (.on rfl rfl (.n 87 1 rfl) h86) rfl rfl (opv_geq rfl (Ev.eq (.t .here)) (Ev.eq .i) rfl) ?_
            refine lv (.on rfl rfl (.n 87 2 rfl) h86) rfl rfl (opv_move rfl (Ev.eq (.t .here))) ?_
            refine lsplit (.n 89 1 rfl) (fun h89 => ?_) (fun h89 => ?_)
            ·
             have q89 := h89
             try simp only [zs, List.length_map] at q89
             refine lv (.on rfl rfl .here h89) rfl rfl (opv_move rfl (Ev.eq (.t (.n 7 13 rfl)))) ?_
             refine lv (.on rfl rfl (.n 90 1 rfl) h89) rfl rfl (opv_lss rfl (Ev.eq (.t .here)) (Ev.eq .i) rfl) ?_
             refine lv (.on rfl rfl (.n 87 5 rfl) h86) rfl rfl (opv_pick_t rfl (Ev.eq (.t (.n 90 2 rfl))) h89 (Ev.eq (.t .here))) ?_
             refine lv (.plain rfl) rfl rfl (opv_pick_f rfl (Ev.eq (.t (.n 87 6 rfl))) h86 (Ev.eq (.t .here))) ?_
             refine lv (.plain rfl) rfl rfl (opv_move rfl (Ev.eq (.t .here))) ?_
             refine lsplit (.n 92 3 rfl) (fun h92 => ?_) (fun h92 => ?_)
             ·
              have q92 := h92
              try simp only [zs, List.length_map] at q92
              refine lo (.off rfl rfl .here h92) rfl rfl ?_
              refine lo (.off rfl rfl (.n 95 1 rfl) h92) rfl rfl ?_
              refine lv (.plain rfl) rfl rfl (opv_pick_t rfl (Ev.eq (.t (.n 95 2 rfl))) h92 (Ev.eq .b)) ?_
              refine awpL_nil ?_
              refine pcond_t (.t .here) rfl ?_
              refine awp_seq ?_
              refine awp_region ?_
              refine lv (.plain rfl) rfl rfl (opv_assign rfl (Ev.eq .i)) ?_
              refine awpL_nil ?_
              refine awp_ret ?_
              refine ret_now (.one (rv_t .here)) (Cast.all _ _) ?_
              refine ⟨congrArg (fun x => AV.d (D.i .i64 x)) ?_, rfl⟩
              obtain rfl : i = 4 := by omega
              rw [show widR s p = widN s p 4 (bt s (p : Int) - 240) 65536 from by unfold widR; rw [if_neg (by omega), if_neg (by omega), if_neg (by omega), if_neg (by omega), if_pos (by omega)]]; unfold widN; rw [show (4 - 1 : Nat) = 3 from rfl, ← hEQ]
              rw [Nat.sub_self, wid1]
              simp only
              first | (rw [if_pos (by omega)]; rfl) | (rw [if_neg (by omega)]; rfl)
             ·
              have q92 := h92
              try simp only [zs, List.length_map] at q92
              refine lv (.on rfl rfl .here h92) rfl rfl (opv_move rfl (Ev.eq (.t (.n 7 18 rfl)))) ?_
              refine lv (.on rfl rfl (.n 95 1 rfl) h92) rfl rfl (opv_gtr rfl (Ev.eq (.t .here)) (Ev.eq .i) rfl) ?_
              refine lv (.plain rfl) rfl rfl (opv_pick_f rfl (Ev.eq (.t (.n 95 2 rfl))) h92 (Ev.eq (.t .here))) ?_
              refine awpL_nil ?_
              refine psplit (.n 97 1 rfl) (fun h97 => ?_) (fun h97 => ?_)
              ·
               have q97 := h97
               try simp only [zs, List.length_map] at q97
               refine pcond_t (.t .here) h97 ?_
               refine awp_seq ?_
               refine awp_region ?_
               refine lv (.plain rfl) rfl rfl (opv_assign rfl (Ev.eq .i)) ?_
               refine awpL_nil ?_
               refine awp_ret ?_
               refine ret_now (.one (rv_t .here)) (Cast.all _ _) ?_
               refine ⟨congrArg (fun x => AV.d (D.i .i64 x)) ?_, rfl⟩
               obtain rfl : i = 4 := by omega
               rw [show widR s p = widN s p 4 (bt s (p : Int) - 240) 65536 from by unfold widR; rw [if_neg (by omega), if_neg (by omega), if_neg (by omega), if_neg (by omega), if_pos (by omega)]]; unfold widN; rw [show (4 - 1 : Nat) = 3 from rfl, ← hEQ]
               rw [Nat.sub_self, wid1]
               simp only
               first | (rw [if_pos (by omega)]; rfl) | (rw [if_neg (by omega)]; rfl)
              ·
               have q97 := h97
               try simp only [zs, List.length_map] at q97
               refine pcond_f (.t .here) h97 ?_
               refine awp_skip ?_
               refine awp_seq ?_
               refine awp_region ?_
               refine lv (.plain rfl) rfl rfl (opv_move rfl (Ev.eq (.t (.n 6 20 rfl)))) ?_
               refine lv (.plain rfl) rfl rfl (opv_assign rfl (Ev.eq (.t .here))) ?_
               refine awpL_nil ?_
               refine awp_ret ?_
               refine ret_now (.one (rv_t .here)) (Cast.all _ _) ?_
               refine ⟨congrArg (fun x => AV.d (D.i .i64 x)) ?_, rfl⟩
               obtain rfl : i = 4 := by omega
               rw [show widR s p = widN s p 4 (bt s (p : Int) - 240) 65536 from by unfold widR; rw [if_neg (by omega), if_neg (by omega), if_neg (by omega), if_neg (by omega), if_pos (by omega)]]; unfold widN; rw [show (4 - 1 : Nat) = 3 from rfl, ← hEQ]
               rw [Nat.sub_self, wid1]
               simp only
               first | (rw [if_pos (by omega)]; rfl) | (rw [if_neg (by omega)]; rfl)
            ·
             have q89 := h89
             try simp only [zs, List.length_map] at q89
             refine lo (.off rfl rfl .here h89) rfl rfl ?_
             refine lo (.off rfl rfl (.n 90 1 rfl) h89) rfl rfl ?_
             refine lv (.on rfl rfl (.n 87 5 rfl) h86) rfl rfl (opv_pick_f rfl (Ev.eq (.t (.n 90 2 rfl))) h89 (Ev.eq .b)) ?_
             refine lv (.plain rfl) rfl rfl (opv_pick_f rfl (Ev.eq (.t (.n 87 6 rfl))) h86 (Ev.eq (.t .here))) ?_
             refine lv (.plain rfl) rfl rfl (opv_move rfl (Ev.eq (.t .here))) ?_
             refine lv (.on rfl rfl .here rfl) rfl rfl (opv_move rfl (Ev.eq (.t (.n 7 18 rfl)))) ?_
             refine lv (.on rfl rfl (.n 95 1 rfl) rfl) rfl rfl (opv_gtr rfl (Ev.eq (.t .here)) (Ev.eq .i) rfl) ?_
             refine lv (.plain rfl) rfl rfl (opv_pick_f rfl (Ev.eq (.t (.n 95 2 rfl))) rfl (Ev.eq (.t .here))) ?_
             refine awpL_nil ?_
             refine psplit (.n 97 1 rfl) (fun h97 => ?_) (fun h97 => ?_)
             ·
              have q97 := h97
              try simp only [zs, List.length_map] at q97
              refine pcond_t (.t .here) h97 ?_
              refine awp_seq ?_
              refine awp_region ?_
              refine lv (.plain rfl) rfl rfl (opv_assign rfl (Ev.eq .i)) ?_
              refine awpL_nil ?_
              refine awp_ret ?_
              refine ret_now (.one (rv_t .here)) (Cast.all _ _) ?_
              refine ⟨congrArg (fun x => AV.d (D.i .i64 x)) ?_, rfl⟩
              obtain rfl : i = 4 := by omega
              rw [show widR s p = widN s p 4 (bt s (p : Int) - 240) 65536 from by unfold widR; rw [if_neg (by omega), if_neg (by omega), if_neg (by omega), if_neg (by omega), if_pos (by omega)]]; unfold widN; rw [show (4 - 1 : Nat) = 3 from rfl, ← hEQ]
              rw [Nat.sub_self, wid1]
              simp only
              first | (rw [if_pos (by omega)]; rfl) | (rw [if_neg (by omega)]; rfl)
             ·
              have q97 := h97
              try simp only [zs, List.length_map] at q97
              refine pcond_f (.t .here) h97 ?_
              refine awp_skip ?_
              refine awp_seq ?_
              refine awp_region ?_
              refine lv (.plain rfl) rfl rfl (opv_move rfl (Ev.eq (.t (.n 6 20 rfl)))) ?_
              refine lv (.plain rfl) rfl rfl (opv_assign rfl (Ev.eq (.t .here))) ?_
              refine awpL_nil ?_
              refine awp_ret ?_
              refine ret_now (.one (rv_t .here)) (Cast.all _ _) ?_
              refine ⟨congrArg (fun x => AV.d (D.i .i64 x)) ?_, rfl⟩
              obtain rfl : i = 4 := by omega
              rw [show widR s p = widN s p 4 (bt s (p : Int) - 240) 65536 from by unfold widR; rw [if_neg (by omega), if_neg (by omega), if_neg (by omega), if_neg (by omega), if_pos (by omega)]]; unfold widN; rw [show (4 - 1 : Nat) = 3 from rfl, ← hEQ]
              rw [Nat.sub_self, wid1]
              simp only
              first | (rw [if_pos (by omega)]; rfl) | (rw [if_neg (by omega)]; rfl)
         ·
          have q49 := h49
          try simp only [zs, List.length_map] at q49
          refine pcond_f (.t .here) h49 ?_
          refine awp_seq ?_
          refine awp_region ?_
          refine lv (.plain rfl) rfl rfl (opv_assign rfl (Ev.eq .i)) ?_
          refine awpL_nil ?_
          refine awp_ret ?_
          refine ret_now (.one (rv_t .here)) (Cast.all _ _) ?_
          refine ⟨congrArg (fun x => AV.d (D.i .i64 x)) ?_, rfl⟩
          unfold widR
          rw [if_neg (by omega), if_neg (by omega), if_neg (by omega), if_neg (by omega), if_neg (by omega)]
          rfl
        ·
         have q46 := h46
         try simp only [zs, List.length_map] at q46
         refine lo (.off rfl rfl .here h46) rfl rfl ?_
         refine lo (.off rfl rfl (.n 47 1 rfl) h46) rfl rfl ?_
         refine lv (.plain rfl) rfl rfl (opv_pick_f rfl (Ev.eq (.t (.n 47 2 rfl))) h46 (Ev.eq .b)) ?_
         refine lv (.plain rfl) rfl rfl (opv_assign rfl (Ev.eq (.t .here))) ?_
         refine awpL_nil ?_
         refine pcond_f (.t .here) rfl ?_
         refine awp_seq ?_
         refine awp_region ?_
         refine lv (.plain rfl) rfl rfl (opv_assign rfl (Ev.eq .i)) ?_
         refine awpL_nil ?_
         refine awp_ret ?_
         refine ret_now (.one (rv_t .here)) (Cast.all _ _) ?_
         refine ⟨congrArg (fun x => AV.d (D.i .i64 x)) ?_, rfl⟩
         unfold widR
         rw [if_neg (by omega), if_neg (by omega), if_neg (by omega), if_neg (by omega), if_neg (by omega)]
         rfl
     ·
      have q28 := h28
      try simp only [zs, List.length_map] at q28
      refine lo (.off rfl rfl .here h28) rfl rfl ?_
      refine lo (.off rfl rfl (.n 29 1 rfl) h28) rfl rfl ?_
      refine lv (.plain rfl) rfl rfl (opv_pick_f rfl (Ev.eq (.t (.n 29 2 rfl))) h28 (Ev.eq .b)) ?_
      refine lv (.plain rfl) rfl rfl (opv_assign rfl (Ev.eq (.t .here))) ?_
      refine awpL_nil ?_
      refine pcond_f (.t .here) rfl ?_
      refine awp_seq ?_
      refine awp_region ?_
      refine lv (.plain rfl) rfl rfl (opv_move rfl (Ev.eq (.t (.n 5 14 rfl)))) ?_
      refine lv (.plain rfl) rfl rfl (opv_geq rfl (Ev.eq (.t .here)) (Ev.eq .i) rfl) ?_
      refine lv (.plain rfl) rfl rfl (opv_move rfl (Ev.eq (.t .here))) ?_
      refine lsplit (.n 37 1 rfl) (fun h37 => ?_) (fun h37 => ?_)
      ·
       have q37 := h37
       try simp only [zs, List.length_map] at q37
       refine lv (.on rfl rfl .here h37) rfl rfl (opv_move rfl (Ev.eq (.t (.n 5 17 rfl)))) ?_
       refine lv (.on rfl rfl (.n 38 1 rfl) h37) rfl rfl (opv_lss rfl (Ev.eq (.t .here)) (Ev.eq .i) rfl) ?_
       refine lv (.plain rfl) rfl rfl (opv_pick_t rfl (Ev.eq (.t (.n 38 2 rfl))) h37 (Ev.eq (.t .here))) ?_
       refine lv (.plain rfl) rfl rfl (opv_assign rfl (Ev.eq (.t .here))) ?_
       refine awpL_nil ?_
       refine psplit (.n 40 2 rfl) (fun h40 => ?_) (fun h40 => ?_)
       ·
        have q40 := h40
        try simp only [zs, List.length_map] at q40
        refine pcond_t (.t .here) h40 ?_
        refine awp_region ?_
        refine lv (.plain rfl) rfl rfl (opv_move rfl (Ev.eq (.t (.n 5 21 rfl)))) ?_
        refine lv (.plain rfl) rfl rfl (opv_sub rfl (Ev.eq (.t .here)) (Ev.eq .i) (wr64 (by omega) (by omega)) rfl) ?_
        refine lv (.plain rfl) rfl rfl (opv_assign rfl (Ev.eq .i)) ?_
        refine lv (.plain rfl) rfl rfl (opv_assign rfl (Ev.eq (.t (.n 43 1 rfl)))) ?_
        refine lv (.plain rfl) rfl rfl (opv_assign rfl (Ev.eq .i)) ?_
        refine awpL_nil ?_
        refine awp_seq ?_
        refine awp_seq ?_
        refine awp_region ?_
        refine lv (.plain rfl) rfl rfl (opv_assign rfl (Ev.eq .i)) ?_
        refine awpL_nil ?_
        refine awp_block ?_
        have hbr := bt_range s (p : Int)
        refine ploop (fun (a : Nat × Int) => ⟨100, [(0, .d (.s s)), (1, .d (.i .i64 (p : Int))), (6, .d (.i .i64 3)), (7, .d (.i .i64 a.2)), (8, .d (.i .i64 2048)), (9, .d (.i .i64 (a.1 : Int)))], [], []⟩) (fun a => a.1 ≤ 3 ∧ 0 ≤ a.2 ∧ (a.1 = 1 ∧ a.2 ≤ 31 ∨ a.1 = 2 ∧ a.2 ≤ 2047 ∨ a.1 = 3 ∧ a.2 ≤ 131071 ∨ a.1 = 4 ∧ a.2 ≤ 8388607) ∧ wid1 s p a.1 (3 - a.1) a.2 = wid1 s p 1 2 (bt s (p : Int) - 224)) (fun a => 3 - a.1) ((1, bt s (p : Int) - 224)) (weak_both (.ce (.n 0 41 rfl) (by first | rfl | (simp; done) | (simp; omega)) (.ce (.n 1 42 rfl) (by first | rfl | (simp; done) | (simp; omega)) (.ce (.n 6 3 rfl) (by first | rfl | (simp; done) | (simp; omega)) (.ce (.n 7 2 rfl) (by first | rfl | (simp; done) | (simp; omega)) (.ce (.n 8 1 rfl) (by first | rfl | (simp; done) | (simp; omega)) (.ce .here (by first | rfl | (simp; done) | (simp; omega)) .nil)))))) (List.Sublist.refl _)) (⟨by dsimp only; omega, by dsimp only; omega, by dsimp only; omega, rfl⟩) ?_
        rintro ⟨i, q⟩ ⟨hi, hq0, hqb, hEQ⟩
        dsimp only at hi hq0 hqb hEQ
        dsimp only
        have hn : 3 = 3 := rfl
        refine awp_seq ?_
        refine awp_seq ?_
        refine awp_region ?_
        refine lv (.plain rfl) rfl rfl (opv_move rfl (Ev.eq (.t (.n 9 5 rfl)))) ?_
        refine lv (.plain rfl) rfl rfl (opv_move rfl (Ev.eq (.t (.n 6 3 rfl)))) ?_
        refine lv (.plain rfl) rfl rfl (opv_lss rfl (Ev.eq (.t (.n 53 1 rfl))) (Ev.eq (.t .here)) rfl) ?_
        refine awpL_nil ?_
        refine psplit .here (fun h55 => ?_) (fun h55 => ?_)
        ·
         have q55 := h55
         try simp only [zs, List.length_map] at q55
         refine pcond_t (.t .here) h55 ?_
         refine awp_skip ?_
         refine awp_seq ?_
         refine awp_block ?_
         refine awp_seq ?_
         refine awp_seq ?_
         refine awp_region ?_
         refine lv (.plain rfl) rfl rfl (opv_move rfl (Ev.eq (.t (.n 1 4 rfl)))) ?_
         refine lv (.plain rfl) rfl rfl (opv_move rfl (Ev.eq (.t (.n 9 9 rfl)))) ?_
         refine lv (.plain rfl) rfl rfl (opv_add rfl (Ev.eq (.t (.n 58 1 rfl))) (Ev.eq (.t .here)) (wr64 (by omega) (by omega)) rfl) ?_
         refine lv (.plain rfl) rfl rfl (opv_move rfl (Ev.eq (.t (.n 0 6 rfl)))) ?_
         refine lv (.plain rfl) rfl rfl (opv_len_s Tryd.underlying9 rfl (Ev.eq (.t .here)) rfl) ?_
         refine lv (.plain rfl) rfl rfl (opv_geq rfl (Ev.eq (.t (.n 60 2 rfl))) (Ev.eq (.t .here)) rfl) ?_
         refine lv (.plain rfl) rfl rfl (opv_move rfl (Ev.eq (.t .here))) ?_
         refine lsplit (.n 63 1 rfl) (fun h63 => ?_) (fun h63 => ?_)
         ·
          have q63 := h63
          try simp only [zs, List.length_map] at q63
          refine lo (.off rfl rfl .here h63) rfl rfl ?_
          refine lo (.off rfl rfl (.n 64 1 rfl) h63) rfl rfl ?_
          refine lo (.off rfl rfl (.n 64 2 rfl) h63) rfl rfl ?_
          refine lo (.off rfl rfl (.n 64 3 rfl) h63) rfl rfl ?_
          refine lo (.off rfl rfl (.n 64 4 rfl) h63) rfl rfl ?_
          refine lo (.off rfl rfl (.n 64 5 rfl) h63) rfl rfl ?_
          refine lo (.off rfl rfl (.n 64 6 rfl) h63) rfl rfl ?_
          refine lo (.off rfl rfl (.n 64 7 rfl) h63) rfl rfl ?_
          refine lv (.plain rfl) rfl rfl (opv_pick_t rfl (Ev.eq (.t (.n 64 8 rfl))) h63 (Ev.eq .b)) ?_
          refine awpL_nil ?_
          refine pcond_t (.t .here) rfl ?_
          refine awp_seq ?_
          refine awp_region ?_
          refine lv (.plain rfl) rfl rfl (opv_assign rfl (Ev.eq .i)) ?_
          refine awpL_nil ?_
          refine awp_ret ?_
          refine ret_now (.one (rv_t .here)) (Cast.all _ _) ?_
          have hbi := bt_range s ((p : Int) + i)
          refine ⟨congrArg (fun x => AV.d (D.i .i64 x)) ?_, rfl⟩
          rw [show widR s p = widN s p 3 (bt s (p : Int) - 224) 2048 from by unfold widR; rw [if_neg (by omega), if_neg (by omega), if_neg (by omega), if_pos (by omega)]]; unfold widN; rw [show (3 - 1 : Nat) = 2 from rfl, ← hEQ]
          rw [show 3 - i = (3 - (i + 1)) + 1 by omega, wid1, if_pos (by first | omega | (right; omega))]
          try rfl
         ·
          have q63 := h63
          try simp only [zs, List.length_map] at q63
          refine lv (.on rfl rfl .here h63) rfl rfl (opv_move rfl (Ev.eq (.t (.n 0 10 rfl)))) ?_
          refine lv (.on rfl rfl (.n 64 1 rfl) h63) rfl rfl (opv_move rfl (Ev.eq (.t (.n 1 12 rfl)))) ?_
          refine lv (.on rfl rfl (.n 64 2 rfl) h63) rfl rfl (opv_move rfl (Ev.eq (.t (.n 9 17 rfl)))) ?_
          refine lv (.on rfl rfl (.n 64 3 rfl) h63) rfl rfl (opv_add rfl (Ev.eq (.t (.n 66 1 rfl))) (Ev.eq (.t .here)) (wr64 (by omega) (by omega)) rfl) ?_
          refine lv (.on rfl rfl (.n 64 4 rfl) h63) rfl rfl (opv_index_s Tryd.underlying9 rfl (Ev.eq (.t (.n 65 3 rfl))) (Ev.eq (.t .here)) (by omega) (by omega) rfl) ?_
          refine lv (.on rfl rfl (.n 64 5 rfl) h63) rfl rfl (opv_convert Tryd.underlying5 Tryd.underlying3 rfl (Ev.eq (.t .here)) (wr_bt _ _) rfl) ?_
          refine lv (.on rfl rfl (.n 64 6 rfl) h63) rfl rfl (opv_quo rfl (Ev.eq (.t .here)) (Ev.eq .i) (by omega) (wr_div (bt_range _ _).1 (by decide) (by have := bt_range s ((p : Int) + i); omega)) rfl) ?_
          refine lv (.on rfl rfl (.n 64 7 rfl) h63) rfl rfl (opv_neq_i rfl (Ev.eq (.t .here)) (Ev.eq .i) rfl) ?_
          refine lv (.plain rfl) rfl rfl (opv_pick_f rfl (Ev.eq (.t (.n 64 8 rfl))) h63 (Ev.eq (.t .here))) ?_
          refine awpL_nil ?_
          refine psplit (.n 72 1 rfl) (fun h72 => ?_) (fun h72 => ?_)
          ·
           have q72 := h72
           try simp only [zs, List.length_map] at q72
           refine pcond_t (.t .here) h72 ?_
           refine awp_seq ?_
           refine awp_region ?_
           refine lv (.plain rfl) rfl rfl (opv_assign rfl (Ev.eq .i)) ?_
           refine awpL_nil ?_
           refine awp_ret ?_
           refine ret_now (.one (rv_t .here)) (Cast.all _ _) ?_
           have hbi := bt_range s ((p : Int) + i)
           refine ⟨congrArg (fun x => AV.d (D.i .i64 x)) ?_, rfl⟩
           rw [show widR s p = widN s p 3 (bt s (p : Int) - 224) 2048 from by unfold widR; rw [if_neg (by omega), if_neg (by omega), if_neg (by omega), if_pos (by omega)]]; unfold widN; rw [show (3 - 1 : Nat) = 2 from rfl, ← hEQ]
           rw [show 3 - i = (3 - (i + 1)) + 1 by omega, wid1, if_pos (by first | omega | (right; omega))]
           try rfl
          ·
           have q72 := h72
           try simp only [zs, List.length_map] at q72
           refine pcond_f (.t .here) h72 ?_
           refine awp_skip ?_
           refine awp_region ?_
           refine lv (.plain rfl) rfl rfl (opv_move rfl (Ev.eq (.t (.n 7 22 rfl)))) ?_
           refine lv (.plain rfl) rfl rfl (opv_mul rfl (Ev.eq .i) (Ev.eq (.t .here)) (wr64 (by omega) (by omega)) rfl) ?_
           refine lv (.plain rfl) rfl rfl (opv_move rfl (Ev.eq (.t (.n 0 21 rfl)))) ?_
           refine lv (.plain rfl) rfl rfl (opv_move rfl (Ev.eq (.t (.n 1 23 rfl)))) ?_
           refine lv (.plain rfl) rfl rfl (opv_move rfl (Ev.eq (.t (.n 9 28 rfl)))) ?_
           refine lv (.plain rfl) rfl rfl (opv_add rfl (Ev.eq (.t (.n 77 1 rfl))) (Ev.eq (.t .here)) (wr64 (by omega) (by omega)) rfl) ?_
           refine lv (.plain rfl) rfl rfl (opv_index_s Tryd.underlying9 rfl (Ev.eq (.t (.n 76 3 rfl))) (Ev.eq (.t .here)) (by omega) (by omega) rfl) ?_
           refine lv (.plain rfl) rfl rfl (opv_convert Tryd.underlying5 Tryd.underlying3 rfl (Ev.eq (.t .here)) (wr_bt _ _) rfl) ?_
           refine lv (.plain rfl) rfl rfl (opv_rem rfl (Ev.eq (.t .here)) (Ev.eq .i) (by omega) (Int.tmod_eq_emod_of_nonneg (bt_range _ _).1) rfl) ?_
           refine lv (.plain rfl) rfl rfl (opv_add rfl (Ev.eq (.t (.n 75 7 rfl))) (Ev.eq (.t .here)) (wr64 (by have := bt_range s ((p : Int) + i); omega) (by have := bt_range s ((p : Int) + i); omega)) rfl) ?_
           refine lv (.plain rfl) rfl rfl (opv_assign rfl (Ev.eq (.t .here))) ?_
           refine awpL_nil ?_
           refine awp_region ?_
           refine lv (.plain rfl) rfl rfl (opv_move rfl (Ev.eq (.t (.n 9 35 rfl)))) ?_
           refine lv (.plain rfl) rfl rfl (opv_add rfl (Ev.eq (.t .here)) (Ev.eq .i) (wr64 (by omega) (by omega)) rfl) ?_
           refine lv (.plain rfl) rfl rfl (opv_assign rfl (Ev.eq (.t .here))) ?_
           refine awpL_nil ?_
           have hbi := bt_range s ((p : Int) + i)
           refine ⟨(i + 1, 64 * q + bt s ((p : Int) + i) % 64), by dsimp only; omega, ⟨by dsimp only; omega, by dsimp only; omega, by dsimp only; omega, by dsimp only; rw [show 3 - i = (3 - (i + 1)) + 1 by omega, wid1, if_neg (by omega)] at hEQ; exact hEQ⟩, weak_both (.ce (.n 0 33 rfl) (by first | rfl | (simp; done) | (simp; omega)) (.ce (.n 1 34 rfl) (by first | rfl | (simp; done) | (simp; omega)) (.ce (.n 6 35 rfl) (by first | rfl | (simp; done) | (simp; omega)) (.ce (.n 7 3 rfl) (by first | rfl | (simp; done) | (simp; omega)) (.ce (.n 8 37 rfl) (by first | rfl | (simp; done) | (simp; omega)) (.ce .here (by first | rfl | (simp; done) | (simp; omega)) .nil)))))) (List.Sublist.refl _)⟩
        ·
         have q55 := h55
         try simp only [zs, List.length_map] at q55
         refine pcond_f (.t .here) h55 ?_
         refine awp_exit ?_
         refine awp_seq ?_
         refine awp_seq ?_
         refine awp_region ?_
         refine lv (.plain rfl) rfl rfl (opv_move rfl (Ev.eq (.t (.n 7 6 rfl)))) ?_
         refine lv (.plain rfl) rfl rfl (opv_move rfl (Ev.eq (.t (.n 8 8 rfl)))) ?_
         refine lv (.plain rfl) rfl rfl (opv_lss rfl (Ev.eq (.t (.n 84 1 rfl))) (Ev.eq (.t .here)) rfl) ?_
         refine lv (.plain rfl) rfl rfl (opv_move rfl (Ev.eq (.t .here))) ?_
         refine lsplit (.n 86 1 rfl) (fun h86 => ?_) (fun h86 => ?_)
         ·
          have q86 := h86
          try simp only [zs, List.length_map] at q86
          refine lo (.off rfl rfl .here h86) rfl rfl ?_
          refine lo (.off rfl rfl (.n 87 1 rfl) h86) rfl rfl ?_
          refine lo (.off rfl rfl (.n 87 2 rfl) h86) rfl rfl ?_
          refine lo (.no rfl rfl .here) rfl rfl ?_
          refine lo (.no rfl rfl (.n 90 1 rfl)) rfl rfl ?_
          refine lo (.off rfl rfl (.n 87 5 rfl) h86) rfl rfl ?_
          refine lv (.plain rfl) rfl rfl (opv_pick_t rfl (Ev.eq (.t (.n 87 6 rfl))) h86 (Ev.eq .b)) ?_
          refine lv (.plain rfl) rfl rfl (opv_move rfl (Ev.eq (.t .here))) ?_
          refine lo (.off rfl rfl .here rfl) rfl rfl ?_
          refine lo (.off rfl rfl (.n 95 1 rfl) rfl) rfl rfl ?_
          refine lv (.plain rfl) rfl rfl (opv_pick_t rfl (Ev.eq (.t (.n 95 2 rfl))) rfl (Ev.eq .b)) ?_
          refine awpL_nil ?_
          refine pcond_t (.t .here) rfl ?_
          refine awp_seq ?_
          refine awp_region ?_
          refine lv (.plain rfl) rfl rfl (opv_assign rfl (Ev.eq .i)) ?_
          refine awpL_nil ?_
          refine awp_ret ?_
          refine ret_now (.one (rv_t .here)) (Cast.all _ _) ?_
          refine ⟨congrArg (fun x => AV.d (D.i .i64 x)) ?_, rfl⟩
          obtain rfl : i = 3 := by omega
          rw [show widR s p = widN s p 3 (bt s (p : Int) - 224) 2048 from by unfold widR; rw [if_neg (by omega), if_neg (by omega), if_neg (by omega), if_pos (by omega)]]; unfold widN; rw [show (3 - 1 : Nat) = 2 from rfl, ← hEQ]
          rw [Nat.sub_self, wid1]
          simp only
          first | (rw [if_pos (by omega)]; rfl) | (rw [if_neg (by omega)]; rfl)
         ·
          have q86 := h86
          try simp only [zs, List.length_map] at q86
          refine lv (.on rfl rfl .here h86) rfl rfl (opv_move rfl (Ev.eq (.t (.n 7 10 rfl)))) ?_
          refine lv (.on rfl rfl (.n 87 1 rfl) h86) rfl rfl (opv_geq rfl (Ev.eq (.t .here)) (Ev.eq .i) rfl) ?_
          refine lv (.on rfl rfl (.n 87 2 rfl) h86) rfl rfl (opv_move rfl (Ev.eq (.t .here))) ?_
          refine lsplit (.n 89 1 rfl) (fun h89 => ?_) (fun h89 => ?_)
          ·
           have q89 := h89
           try simp only [zs, List.length_map] at q89
           refine lv (.on rfl rfl .here h89) rfl rfl (opv_move rfl (Ev.eq (.t (.n 7 13 rfl)))) ?_
           refine lv (.on rfl rfl (.n 90 1 rfl) h89) rfl rfl (opv_lss rfl (Ev.eq (.t .here)) (Ev.eq .i) rfl) ?_
           refine lv (.on rfl rfl (.n 87 5 rfl) h86) rfl rfl (opv_pick_t rfl (Ev.eq (.t (.n 90 2 rfl))) h89 (Ev.eq (.t .here))) ?_
           refine lv (.plain rfl) rfl rfl (opv_pick_f rfl (Ev.eq (.t (.n 87 6 rfl))) h86 (Ev.eq (.t .here))) ?_
           refine lv (.plain rfl) rfl rfl (opv_move rfl (Ev.eq (.t .here))) ?_
           refine lsplit (.n 92 3 rfl) (fun h92 => ?_) (fun h92 => ?_)
           ·
            have q92 := h92
            try simp only [zs, List.length_map] at q92
            refine lo (.off rfl rfl .here h92) rfl rfl ?_
            refine lo (.off rfl rfl (.n 95 1 rfl) h92) rfl rfl ?_
            refine lv (.plain rfl) rfl rfl (opv_pick_t rfl (Ev.eq (.t (.n 95 2 rfl))) h92 (Ev.eq .b)) ?_
            refine awpL_nil ?_
            refine pcond_t (.t .here) rfl ?_
            refine awp_seq ?_
            refine awp_region ?_
            refine lv (.plain rfl) rfl rfl (opv_assign rfl (Ev.eq .i)) ?_
            refine awpL_nil ?_
            refine awp_ret ?_
            refine ret_now (.one (rv_t .here)) (Cast.all _ _) ?_
            refine ⟨congrArg (fun x => AV.d (D.i .i64 x)) ?_, rfl⟩
            obtain rfl : i = 3 := by omega
            rw [show widR s p = widN s p 3 (bt s (p : Int) - 224) 2048 from by unfold widR; rw [if_neg (by omega), if_neg (by omega), if_neg (by omega), if_pos (by omega)]]; unfold widN; rw [show (3 - 1 : Nat) = 2 from rfl, ← hEQ]
            rw [Nat.sub_self, wid1]
            simp only
            first | (rw [if_pos (by omega)]; rfl) | (rw [if_neg (by omega)]; rfl)
           ·
            have q92 := h92
            try simp only [zs, List.length_map] at q92
            refine lv (.on rfl rfl .here h92) rfl rfl (opv_move rfl (Ev.eq (.t (.n 7 18 rfl)))) ?_
            refine lv (.on rfl rfl (.n 95 1 rfl) h92) rfl rfl (opv_gtr rfl (Ev.eq (.t .here)) (Ev.eq .i) rfl) ?_
            refine lv (.plain rfl) rfl rfl (opv_pick_f rfl (Ev.eq (.t (.n 95 2 rfl))) h92 (Ev.eq (.t .here))) ?_
            refine awpL_nil ?_
            refine psplit (.n 97 1 rfl) (fun h97 => ?_) (fun h97 => ?_)
            ·
             have q97 := h97
             try simp only [zs, List.length_map] at q97
             refine pcond_t (.t .here) h97 ?_
             refine awp_seq ?_
             refine awp_region ?_
             refine lv (.plain rfl) rfl rfl (opv_assign rfl (Ev.eq .i)) ?_
             refine awpL_nil ?_
             refine awp_ret ?_
             refine ret_now (.one (rv_t .here)) (Cast.all _ _) ?_
             refine ⟨congrArg (fun x => AV.d (D.i .i64 x)) ?_, rfl⟩
             obtain rfl : i = 3 := by omega
             rw [show widR s p = widN s p 3 (bt s (p : Int) - 224) 2048 from by unfold widR; rw [if_neg (by omega), if_neg (by omega), if_neg (by omega), if_pos (by omega)]]; unfold widN; rw [show (3 - 1 : Nat) = 2 from rfl, ← hEQ]
             rw [Nat.sub_self, wid1]
             simp only
             first | (rw [if_pos (by omega)]; rfl) | (rw [if_neg (by omega)]; rfl)
            ·
             have q97 := h97
             try simp only [zs, List.length_map] at q97
             refine pcond_f (.t .here) h97 ?_
             refine awp_skip ?_
             refine awp_seq ?_
             refine awp_region ?_
             refine lv (.plain rfl) rfl rfl (opv_move rfl (Ev.eq (.t (.n 6 20 rfl)))) ?_
             refine lv (.plain rfl) rfl rfl (opv_assign rfl (Ev.eq (.t .here))) ?_
             refine awpL_nil ?_
             refine awp_ret ?_
             refine ret_now (.one (rv_t .here)) (Cast.all _ _) ?_
             refine ⟨congrArg (fun x => AV.d (D.i .i64 x)) ?_, rfl⟩
             obtain rfl : i = 3 := by omega
             rw [show widR s p = widN s p 3 (bt s (p : Int) - 224) 2048 from by unfold widR; rw [if_neg (by omega), if_neg (by omega), if_neg (by omega), if_pos (by omega)]]; unfold widN; rw [show (3 - 1 : Nat) = 2 from rfl, ← hEQ]
             rw [Nat.sub_self, wid1]
             simp only
             first | (rw [if_pos (by omega)]; rfl) | (rw [if_neg (by omega)]; rfl)
          ·
           have q89 := h89
           try simp only [zs, List.length_map] at q89
           refine lo (.off rfl rfl .here h89) rfl rfl ?_
           refine lo (.off rfl rfl (.n 90 1 rfl) h89) rfl rfl ?_
           refine lv (.on rfl rfl (.n 87 5 rfl) h86) rfl rfl (opv_pick_f rfl (Ev.eq (.t (.n 90 2 rfl))) h89 (Ev.eq .b)) ?_
           refine lv (.plain rfl) rfl rfl (opv_pick_f rfl (Ev.eq (.t (.n 87 6 rfl))) h86 (Ev.eq (.t .here))) ?_
           refine lv (.plain rfl) rfl rfl (opv_move rfl (Ev.eq (.t .here))) ?_
           refine lv (.on rfl rfl .here rfl) rfl rfl (opv_move rfl (Ev.eq (.t (.n 7 18 rfl)))) ?_
           refine lv (.on rfl rfl (.n 95 1 rfl) rfl) rfl rfl (opv_gtr rfl (Ev.eq (.t .here)) (Ev.eq .i) rfl) ?_
           refine lv (.plain rfl) rfl rfl (opv_pick_f rfl (Ev.eq (.t (.n 95 2 rfl))) rfl (Ev.eq (.t .here))) ?_
           refine awpL_nil ?_
           refine psplit (.n 97 1 rfl) (fun h97 => ?_) (fun h97 => ?_)
           ·
            have q97 := h97
            try simp only [zs, List.length_map] at q97
            refine pcond_t (.t .here) h97 ?_
            refine awp_seq ?_
            refine awp_region ?_
            refine lv (.plain rfl) rfl rfl (opv_assign rfl (Ev.eq .i)) ?_
            refine awpL_nil ?_
            refine awp_ret ?_
            refine ret_now (.one (rv_t .here)) (Cast.all _ _) ?_
            refine ⟨congrArg (fun x => AV.d (D.i .i64 x)) ?_, rfl⟩
            obtain rfl : i = 3 := by omega
            rw [show widR s p = widN s p 3 (bt s (p : Int) - 224) 2048 from by unfold widR; rw [if_neg (by omega), if_neg (by omega), if_neg (by omega), if_pos (by omega)]]; unfold widN; rw [show (3 - 1 : Nat) = 2 from rfl, ← hEQ]
            rw [Nat.sub_self, wid1]
            simp only
            first | (rw [if_pos (by omega)]; rfl) | (rw [if_neg (by omega)]; rfl)
           ·
            have q97 := h97
            try simp only [zs, List.length_map] at q97
            refine pcond_f (.t .here) h97 ?_
            refine awp_skip ?_
            refine awp_seq ?_
            refine awp_region ?_
            refine lv (.plain rfl) rfl rfl (opv_move rfl (Ev.eq (.t (.n 6 20 rfl)))) ?_
            refine lv (.plain rfl) rfl rfl (opv_assign rfl (Ev.eq (.t .here))) ?_
            refine awpL_nil ?_
            refine awp_ret ?_
            refine ret_now (.one (rv_t .here)) (Cast.all _ _) ?_
            refine ⟨congrArg (fun x => AV.d (D.i .i64 x)) ?_, rfl⟩
            obtain rfl : i = 3 := by omega
            rw [show widR s p = widN s p 3 (bt s (p : Int) - 224) 2048 from by unfold widR; rw [if_neg (by omega), if_neg (by omega), if_neg (by omega), if_pos (by omega)]]; unfold widN; rw [show (3 - 1 : Nat) = 2 from rfl, ← hEQ]
            rw [Nat.sub_self, wid1]
            simp only
            first | (rw [if_pos (by omega)]; rfl) | (rw [if_neg (by omega)]; rfl)
       ·
        have q40 := h40
        try simp only [zs, List.length_map] at q40
        refine pcond_f (.t .here) h40 ?_
        refine awp_seq ?_
        refine awp_region ?_
        refine lv (.plain rfl) rfl rfl (opv_move rfl (Ev.eq (.t (.n 5 21 rfl)))) ?_
        refine lv (.plain rfl) rfl rfl (opv_geq rfl (Ev.eq (.t .here)) (Ev.eq .i) rfl) ?_
        refine lv (.plain rfl) rfl rfl (opv_move rfl (Ev.eq (.t .here))) ?_
        refine lsplit (.n 46 1 rfl) (fun h46 => ?_) (fun h46 => ?_)
        ·
         have q46 := h46
         try simp only [zs, List.length_map] at q46
         refine lv (.on rfl rfl .here h46) rfl rfl (opv_move rfl (Ev.eq (.t (.n 5 24 rfl)))) ?_
         refine lv (.on rfl rfl (.n 47 1 rfl) h46) rfl rfl (opv_lss rfl (Ev.eq (.t .here)) (Ev.eq .i) rfl) ?_
         refine lv (.plain rfl) rfl rfl (opv_pick_t rfl (Ev.eq (.t (.n 47 2 rfl))) h46 (Ev.eq (.t .here))) ?_
         refine lv (.plain rfl) rfl rfl (opv_assign rfl (Ev.eq (.t .here))) ?_
         refine awpL_nil ?_
         refine psplit (.n 49 2 rfl) (fun h49 => ?_) (fun h49 => ?_)
         ·
          have q49 := h49
          try simp only [zs, List.length_map] at q49
          refine pcond_t (.t .here) h49 ?_
          refine awp_region ?_
          refine lv (.plain rfl) rfl rfl (opv_move rfl (Ev.eq (.t (.n 5 28 rfl)))) ?_
          refine lv (.plain rfl) rfl rfl (opv_sub rfl (Ev.eq (.t .here)) (Ev.eq .i) (wr64 (by omega) (by omega)) rfl) ?_
          refine lv (.plain rfl) rfl rfl (opv_assign rfl (Ev.eq .i)) ?_
          refine lv (.plain rfl) rfl rfl (opv_assign rfl (Ev.eq (.t (.n 52 1 rfl)))) ?_
          refine lv (.plain rfl) rfl rfl (opv_assign rfl (Ev.eq .i)) ?_
          refine awpL_nil ?_
          refine awp_seq ?_
          refine awp_seq ?_
          refine awp_region ?_
          refine lv (.plain rfl) rfl rfl (opv_assign rfl (Ev.eq .i)) ?_
          refine awpL_nil ?_
          refine awp_block ?_
          have hbr := bt_range s (p : Int)
          refine ploop (fun (a : Nat × Int) => ⟨100, [(0, .d (.s s)), (1, .d (.i .i64 (p : Int))), (6, .d (.i .i64 4)), (7, .d (.i .i64 a.2)), (8, .d (.i .i64 65536)), (9, .d (.i .i64 (a.1 : Int)))], [], []⟩) (fun a => a.1 ≤ 4 ∧ 0 ≤ a.2 ∧ (a.1 = 1 ∧ a.2 ≤ 31 ∨ a.1 = 2 ∧ a.2 ≤ 2047 ∨ a.1 = 3 ∧ a.2 ≤ 131071 ∨ a.1 = 4 ∧ a.2 ≤ 8388607) ∧ wid1 s p a.1 (4 - a.1) a.2 = wid1 s p 1 3 (bt s (p : Int) - 240)) (fun a => 4 - a.1) ((1, bt s (p : Int) - 240)) (weak_both (.ce (.n 0 48 rfl) (by first | rfl | (simp; done) | (simp; omega)) (.ce (.n 1 49 rfl) (by first | rfl | (simp; done) | (simp; omega)) (.ce (.n 6 3 rfl) (by first | rfl | (simp; done) | (simp; omega)) (.ce (.n 7 2 rfl) (by first | rfl | (simp; done) | (simp; omega)) (.ce (.n 8 1 rfl) (by first | rfl | (simp; done) | (simp; omega)) (.ce .here (by first | rfl | (simp; done) | (simp; omega)) .nil)))))) (List.Sublist.refl _)) (⟨by dsimp only; omega, by dsimp only; omega, by dsimp only; omega, rfl⟩) ?_
          rintro ⟨i, q⟩ ⟨hi, hq0, hqb, hEQ⟩
          dsimp only at hi hq0 hqb hEQ
          dsimp only
          have hn : 4 = 4 := rfl
          refine awp_seq ?_
          refine awp_seq ?_
          refine awp_region ?_
          refine lv (.plain rfl) rfl rfl (opv_move rfl (Ev.eq (.t (.n 9 5 rfl)))) ?_
          refine lv (.plain rfl) rfl rfl (opv_move rfl (Ev.eq (.t (.n 6 3 rfl)))) ?_
          refine lv (.plain rfl) rfl rfl (opv_lss rfl (Ev.eq (.t (.n 53 1 rfl))) (Ev.eq (.t .here)) rfl) ?_
          refine awpL_nil ?_
          refine psplit .here (fun h55 => ?_) (fun h55 => ?_)
          ·
           have q55 := h55
           try simp only [zs, List.length_map] at q55
           refine pcond_t (.t .here) h55 ?_
           refine awp_skip ?_
           refine awp_seq ?_
           refine awp_block ?_
           refine awp_seq ?_
           refine awp_seq ?_
           refine awp_region ?_
           refine lv (.plain rfl) rfl rfl (opv_move rfl (Ev.eq (.t (.n 1 4 rfl)))) ?_
           refine lv (.plain rfl) rfl rfl (opv_move rfl (Ev.eq (.t (.n 9 9 rfl)))) ?_
           refine lv (.plain rfl) rfl rfl (opv_add rfl (Ev.eq (.t (.n 58 1 rfl))) (Ev.eq (.t .here)) (wr64 (by omega) (by omega)) rfl) ?_
           refine lv (.plain rfl) rfl rfl (opv_move rfl (Ev.eq (.t (.n 0 6 rfl)))) ?_
           refine lv (.plain rfl) rfl rfl (opv_len_s Tryd.underlying9 rfl (Ev.eq (.t .here)) rfl) ?_
           refine lv (.plain rfl) rfl rfl (opv_geq rfl (Ev.eq (.t (.n 60 2 rfl))) (Ev.eq (.t .here)) rfl) ?_
           refine lv (.plain rfl) rfl rfl (opv_move rfl (Ev.eq (.t .here))) ?_
           refine lsplit (.n 63 1 rfl) (fun h63 => ?_) (fun h63 => ?_)
           ·
            have q63 := h63
            try simp only [zs, List.length_map] at q63
            refine lo (.off rfl rfl .here h63) rfl rfl ?_
            refine lo (.off rfl rfl (.n 64 1 rfl) h63) rfl rfl ?_
            refine lo (.off rfl rfl (.n 64 2 rfl) h63) rfl rfl ?_
            refine lo (.off rfl rfl (.n 64 3 rfl) h63) rfl rfl ?_
            refine lo (.off rfl rfl (.n 64 4 rfl) h63) rfl rfl ?_
            refine lo (.off rfl rfl (.n 64 5 rfl) h63) rfl rfl ?_
            refine lo (.off rfl rfl (.n 64 6 rfl) h63) rfl rfl ?_
            refine lo (.off rfl rfl (.n 64 7 rfl) h63) rfl rfl ?_
            refine lv (.plain rfl) rfl rfl (opv_pick_t rfl (Ev.eq (.t (.n 64 8 rfl))) h63 (Ev.eq .b)) ?_
            refine awpL_nil ?_
            refine pcond_t (.t .here) rfl ?_
            refine awp_seq ?_
            refine awp_region ?_
            refine lv (.plain rfl) rfl rfl (opv_assign rfl (Ev.eq .i)) ?_
            refine awpL_nil ?_
            refine awp_ret ?_
            refine ret_now (.one (rv_t .here)) (Cast.all _ _) ?_
            have hbi := bt_range s ((p : Int) + i)
            refine ⟨congrArg (fun x => AV.d (D.i .i64 x)) ?_, rfl⟩
            rw [show widR s p = widN s p 4 (bt s (p : Int) - 240) 65536 from by unfold widR; rw [if_neg (by omega), if_neg (by omega), if_neg (by omega), if_neg (by omega), if_pos (by omega)]]; unfold widN; rw [show (4 - 1 : Nat) = 3 from rfl, ← hEQ]
            rw [show 4 - i = (4 - (i + 1)) + 1 by omega, wid1, if_pos (by first | omega | (right; omega))]
            try rfl
           ·
            have q63 := h63
            try simp only [zs, List.length_map] at q63
            refine lv (.on rfl rfl .here h63) rfl rfl (opv_move rfl (Ev.eq (.t (.n 0 10 rfl)))) ?_
            refine lv (.on rfl rfl (.n 64 1 rfl) h63) rfl rfl (opv_move rfl (Ev.eq (.t (.n 1 12 rfl)))) ?_
            refine lv (.on rfl rfl (.n 64 2 rfl) h63) rfl rfl (opv_move rfl (Ev.eq (.t (.n 9 17 rfl)))) ?_
            refine lv (.on rfl rfl (.n 64 3 rfl) h63) rfl rfl (opv_add rfl (Ev.eq (.t (.n 66 1 rfl))) (Ev.eq (.t .here)) (wr64 (by omega) (by omega)) rfl) ?_
            refine lv (.on rfl rfl (.n 64 4 rfl) h63) rfl rfl (opv_index_s Tryd.underlying9 rfl (Ev.eq (.t (.n 65 3 rfl))) (Ev.eq (.t .here)) (by omega) (by omega) rfl) ?_
            refine lv (.on rfl rfl (.n 64 5 rfl) h63) rfl rfl (opv_convert Tryd.underlying5 Tryd.underlying3 rfl (Ev.eq (.t .here)) (wr_bt _ _) rfl) ?_
            refine lv (.on rfl rfl (.n 64 6 rfl) h63) rfl rfl (opv_quo rfl (Ev.eq (.t .here)) (Ev.eq .i) (by omega) (wr_div (bt_range _ _).1 (by decide) (by have := bt_range s ((p : Int) + i); omega)) rfl) ?_
            refine lv (.on rfl rfl (.n 64 7 rfl) h63) rfl rfl (opv_neq_i rfl (Ev.eq (.t .here)) (Ev.eq .i) rfl) ?_
            refine lv (.plain rfl) rfl rfl (opv_pick_f rfl (Ev.eq (.t (.n 64 8 rfl))) h63 (Ev.eq (.t .here))) ?_
            refine awpL_nil ?_
            refine psplit (.n 72 1 rfl) (fun h72 => ?_) (fun h72 => ?_)
            ·
             have q72 := h72
             try simp only [zs, List.length_map] at q72
             refine pcond_t (.t .here) h72 ?_
             refine awp_seq ?_
             refine awp_region ?_
             refine lv (.plain rfl) rfl rfl (opv_assign rfl (Ev.eq .i)) ?_
             refine awpL_nil ?_
             refine awp_ret ?_
             refine ret_now (.one (rv_t .here)) (Cast.all _ _) ?_
             have hbi := bt_range s ((p : Int) + i)
             refine ⟨congrArg (fun x => AV.d (D.i .i64 x)) ?_, rfl⟩
             rw [show widR s p = widN s p 4 (bt s (p : Int) - 240) 65536 from by unfold widR; rw [if_neg (by omega), if_neg (by omega), if_neg (by omega), if_neg (by omega), if_pos (by omega)]]; unfold widN; rw [show (4 - 1 : Nat) = 3 from rfl, ← hEQ]
             rw [show 4 - i = (4 - (i + 1)) + 1 by omega, wid1, if_pos (by first | omega | (right; omega))]
             try rfl
            ·
             have q72 := h72
             try simp only [zs, List.length_map] at q72
             refine pcond_f (.t .here) h72 ?_
             refine awp_skip ?_
             refine awp_region ?_
             refine lv (.plain rfl) rfl rfl (opv_move rfl (Ev.eq (.t (.n 7 22 rfl)))) ?_
             refine lv (.plain rfl) rfl rfl (opv_mul rfl (Ev.eq .i) (Ev.eq (.t .here)) (wr64 (by omega) (by omega)) rfl) ?_
             refine lv (.plain rfl) rfl rfl (opv_move rfl (Ev.eq (.t (.n 0 21 rfl)))) ?_
             refine lv (.plain rfl) rfl rfl (opv_move rfl (Ev.eq (.t (.n 1 23 rfl)))) ?_
             refine lv (.plain rfl) rfl rfl (opv_move rfl (Ev.eq (.t (.n 9 28 rfl)))) ?_
             refine lv (.plain rfl) rfl rfl (opv_add rfl (Ev.eq (.t (.n 77 1 rfl))) (Ev.eq (.t .here)) (wr64 (by omega) (by omega)) rfl) ?_
             refine lv (.plain rfl) rfl rfl (opv_index_s Tryd.underlying9 rfl (Ev.eq (.t (.n 76 3 rfl))) (Ev.eq (.t .here)) (by omega) (by omega) rfl) ?_
             refine lv (.plain rfl) rfl rfl (opv_convert Tryd.underlying5 Tryd.underlying3 rfl (Ev.eq (.t .here)) (wr_bt _ _) rfl) ?_
             refine lv (.plain rfl) rfl rfl (opv_rem rfl (Ev.eq (.t .here)) (Ev.eq .i) (by omega) (Int.tmod_eq_emod_of_nonneg (bt_range _ _).1) rfl) ?_
             refine lv (.plain rfl) rfl rfl (opv_add rfl (Ev.eq (.t (.n 75 7 rfl))) (Ev.eq (.t .here)) (wr64 (by have := bt_range s ((p : Int) + i); omega) (by have := bt_range s ((p : Int) + i); omega)) rfl) ?_
             refine lv (.plain rfl) rfl rfl (opv_assign rfl (Ev.eq (.t .here))) ?_
             refine awpL_nil ?_
             refine awp_region ?_
             refine lv (.plain rfl) rfl rfl (opv_move rfl (Ev.eq (.t (.n 9 35 rfl)))) ?_
             refine lv (.plain rfl) rfl rfl (opv_add rfl (Ev.eq (.t .here)) (Ev.eq .i) (wr64 (by omega) (by omega)) rfl) ?_
             refine lv (.plain rfl) rfl rfl (opv_assign rfl (Ev.eq (.t .here))) ?_
             refine awpL_nil ?_
             have hbi := bt_range s ((p : Int) + i)
             refine ⟨(i + 1, 64 * q + bt s ((p : Int) + i) % 64), by dsimp only; omega, ⟨by dsimp only; omega, by dsimp only; omega, by dsimp only; omega, by dsimp only; rw [show 4 - i = (4 - (i + 1)) + 1 by omega, wid1, if_neg (by omega)] at hEQ; exact hEQ⟩, weak_both (.ce (.n 0 33 rfl) (by first | rfl | (simp; done) | (simp; omega)) (.ce (.n 1 34 rfl) (by first | rfl | (simp; done) | (simp; omega)) (.ce (.n 6 35 rfl) (by first | rfl | (simp; done) | (simp; omega)) (.ce (.n 7 3 rfl) (by first | rfl | (simp; done) | (simp; omega)) (.ce (.n 8 37 rfl) (by first | rfl | (simp; done) | (simp; omega)) (.ce .here (by first | rfl | (simp; done) | (simp; omega)) .nil)))))) (List.Sublist.refl _)⟩
          ·
           have q55 := h55
           try simp only [zs, List.length_map] at q55
           refine pcond_f (.t .here) h55 ?_
           refine awp_exit ?_
           refine awp_seq ?_
           refine awp_seq ?_
           refine awp_region ?_
           refine lv (.plain rfl) rfl rfl (opv_move rfl (Ev.eq (.t (.n 7 6 rfl)))) ?_
           refine lv (.plain rfl) rfl rfl (opv_move rfl (Ev.eq (.t (.n 8 8 rfl)))) ?_
           refine lv (.plain rfl) rfl rfl (opv_lss rfl (Ev.eq (.t (.n 84 1 rfl))) (Ev.eq (.t .here)) rfl) ?_
           refine lv (.plain rfl) rfl rfl (opv_move rfl (Ev.eq (.t .here))) ?_
           refine lsplit (.n 86 1 rfl) (fun h86 => ?_) (fun h86 => ?_)
           ·
            have q86 := h86
            try simp only [zs, List.length_map] at q86
            refine lo (.off rfl rfl .here h86) rfl rfl ?_
            refine lo (.off rfl rfl (.n 87 1 rfl) h86) rfl rfl ?_
            refine lo (.off rfl rfl (.n 87 2 rfl) h86) rfl rfl ?_
            refine lo (.no rfl rfl .here) rfl rfl ?_
            refine lo (.no rfl rfl (.n 90 1 rfl)) rfl rfl ?_
            refine lo (.off rfl rfl (.n 87 5 rfl) h86) rfl rfl ?_
            refine lv (.plain rfl) rfl rfl (opv_pick_t rfl (Ev.eq (.t (.n 87 6 rfl))) h86 (Ev.eq .b)) ?_
            refine lv (.plain rfl) rfl rfl (opv_move rfl (Ev.eq (.t .here))) ?_
            refine lo (.off rfl rfl .here rfl) rfl rfl ?_
            refine lo (.off rfl rfl (.n 95 1 rfl) rfl) rfl rfl ?_
            refine lv (.plain rfl) rfl rfl (opv_pick_t rfl (Ev.eq (.t (.n 95 2 rfl))) rfl (Ev.eq .b)) ?_
            refine awpL_nil ?_
            refine pcond_t (.t .here) rfl ?_
            refine awp_seq ?_
            refine awp_region ?_
            refine lv (.plain rfl) rfl rfl (opv_assign rfl (Ev.eq .i)) ?_
            refine awpL_nil ?_
            refine awp_ret ?_
            refine ret_now (.one (rv_t .here)) (Cast.all _ _) ?_
            refine ⟨congrArg (fun x => AV.d (D.i .i64 x)) ?_, rfl⟩
            obtain rfl : i = 4 := by omega
            rw [show widR s p = widN s p 4 (bt s (p : Int) - 240) 65536 from by unfold widR; rw [if_neg (by omega), if_neg (by omega), if_neg (by omega), if_neg (by omega), if_pos (by omega)]]; unfold widN; rw [show (4 - 1 : Nat) = 3 from rfl, ← hEQ]
            rw [Nat.sub_self, wid1]
            simp only
            first | (rw [if_pos (by omega)]; rfl) | (rw [if_neg (by omega)]; rfl)
           ·
            have q86 := h86
            try simp only [zs, List.length_map] at q86
            refine lv (.on rfl rfl .here h86) rfl rfl (opv_move rfl (Ev.eq (.t (.n 7 10 rfl)))) ?_
            refine lv (.on rfl rfl (.n 87 1 rfl) h86) rfl rfl (opv_geq rfl (Ev.eq (.t .here)) (Ev.eq .i) rfl) ?_
            refine lv (.on rfl rfl (.n 87 2 rfl) h86) rfl rfl (opv_move rfl (Ev.eq (.t .here))) ?_
            refine lsplit (.n 89 1 rfl) (fun h89 => ?_) (fun h89 => ?_)
            ·
             have q89 := h89
             try simp only [zs, List.length_map] at q89
             refine lv (.on rfl rfl .here h89) rfl rfl (opv_move rfl (Ev.eq (.t (.n 7 13 rfl)))) ?_
             refine lv (.on rfl rfl (.n 90 1 rfl) h89) rfl rfl (opv_lss rfl (Ev.eq (.t .here)) (Ev.eq .i) rfl) ?_
             refine lv (.on rfl rfl (.n 87 5 rfl) h86) rfl rfl (opv_pick_t rfl (Ev.eq (.t (.n 90 2 rfl))) h89 (Ev.eq (.t .here))) ?_
             refine lv (.plain rfl) rfl rfl (opv_pick_f rfl (Ev.eq (.t (.n 87 6 rfl))) h86 (Ev.eq (.t .here))) ?_
             refine lv (.plain rfl) rfl rfl (opv_move rfl (Ev.eq (.t .here))) ?_
             refine lsplit (.n 92 3 rfl) (fun h92 => ?_) (fun h92 => ?_)
             ·
              have q92 := h92
              try simp only [zs, List.length_map] at q92
              refine lo (.off rfl rfl .here h92) rfl rfl ?_
              refine lo (.off rfl rfl (.n 95 1 rfl) h92) rfl rfl ?_
              refine lv (.plain rfl) rfl rfl (opv_pick_t rfl (Ev.eq (.t (.n 95 2 rfl))) h92 (Ev.eq .b)) ?_
              refine awpL_nil ?_
              refine pcond_t (.t .here) rfl ?_
              refine awp_seq ?_
              refine awp_region ?_
              refine lv (.plain rfl) rfl rfl (opv_assign rfl (Ev.eq .i)) ?_
              refine awpL_nil ?_
              refine awp_ret ?_
              refine ret_now (.one (rv_t .here)) (Cast.all _ _) ?_
              refine ⟨congrArg (fun x => AV.d (D.i .i64 x)) ?_, rfl⟩
              obtain rfl : i = 4 := by omega
              rw [show widR s p = widN s p 4 (bt s (p : Int) - 240) 65536 from by unfold widR; rw [if_neg (by omega), if_neg (by omega), if_neg (by omega), if_neg (by omega), if_pos (by omega)]]; unfold widN; rw [show (4 - 1 : Nat) = 3 from rfl, ← hEQ]
              rw [Nat.sub_self, wid1]
              simp only
              first | (rw [if_pos (by omega)]; rfl) | (rw [if_neg (by omega)]; rfl)
             ·
              have q92 := h92
              try simp only [zs, List.length_map] at q92
              refine lv (.on rfl rfl .here h92) rfl rfl (opv_move rfl (Ev.eq (.t (.n 7 18 rfl)))) ?_
              refine lv (.on rfl rfl (.n 95 1 rfl) h92) rfl rfl (opv_gtr rfl (Ev.eq (.t .here)) (Ev.eq .i) rfl) ?_
              refine lv (.plain rfl) rfl rfl (opv_pick_f rfl (Ev.eq (.t (.n 95 2 rfl))) h92 (Ev.eq (.t .here))) ?_
              refine awpL_nil ?_
              refine psplit (.n 97 1 rfl) (fun h97 => ?_) (fun h97 => ?_)
              ·
               have q97 := h97
               try simp only [zs, List.length_map] at q97
               refine pcond_t (.t .here) h97 ?_
               refine awp_seq ?_
               refine awp_region ?_
               refine lv (.plain rfl) rfl rfl (opv_assign rfl (Ev.eq .i)) ?_
               refine awpL_nil ?_
               refine awp_ret ?_
               refine ret_now (.one (rv_t .here)) (Cast.all _ _) ?_
               refine ⟨congrArg (fun x => AV.d (D.i .i64 x)) ?_, rfl⟩
               obtain rfl : i = 4 := by omega
               rw [show widR s p = widN s p 4 (bt s (p : Int) - 240) 65536 from by unfold widR; rw [if_neg (by omega), if_neg (by omega), if_neg (by omega), if_neg (by omega), if_pos (by omega)]]; unfold widN; rw [show (4 - 1 : Nat) = 3 from rfl, ← hEQ]
               rw [Nat.sub_self, wid1]
               simp only
               first | (rw [if_pos (by omega)]; rfl) | (rw [if_neg (by omega)]; rfl)
              ·
               have q97 := h97
               try simp only [zs, List.length_map] at q97
               refine pcond_f (.t .here) h97 ?_
               refine awp_skip ?_
               refine awp_seq ?_
               refine awp_region ?_
               refine lv (.plain rfl) rfl rfl (opv_move rfl (Ev.eq (.t (.n 6 20 rfl)))) ?_
               refine lv (.plain rfl) rfl rfl (opv_assign rfl (Ev.eq (.t .here))) ?_
               refine awpL_nil ?_
               refine awp_ret ?_
               refine ret_now (.one (rv_t .here)) (Cast.all _ _) ?_
               refine ⟨congrArg (fun x => AV.d (D.i .i64 x)) ?_, rfl⟩
               obtain rfl : i = 4 := by omega
               rw [show widR s p = widN s p 4 (bt s (p : Int) - 240) 65536 from by unfold widR; rw [if_neg (by omega), if_neg (by omega), if_neg (by omega), if_neg (by omega), if_pos (by omega)]]; unfold widN; rw [show (4 - 1 : Nat) = 3 from rfl, ← hEQ]
               rw [Nat.sub_self, wid1]
               simp only
               first | (rw [if_pos (by omega)]; rfl) | (rw [if_neg (by omega)]; rfl)
            ·
             have q89 := h89
             try simp only [zs, List.length_map] at q89
             refine lo (.off rfl rfl .here h89) rfl rfl ?_
             refine lo (.off rfl rfl (.n 90 1 rfl) h89) rfl rfl ?_
             refine lv (.on rfl rfl (.n 87 5 rfl) h86) rfl rfl (opv_pick_f rfl (Ev.eq (.t (.n 90 2 rfl))) h89 (Ev.eq .b)) ?_
             refine lv (.plain rfl) rfl rfl (opv_pick_f rfl (Ev.eq (.t (.n 87 6 rfl))) h86 (Ev.eq (.t .here))) ?_
             refine lv (.plain rfl) rfl rfl (opv_move rfl (Ev.eq (.t .here))) ?_
             refine lv (.on rfl rfl .here rfl) rfl rfl (opv_move rfl (Ev.eq (.t (.n 7 18 rfl)))) ?_
             refine lv (.on rfl rfl (.n 95 1 rfl) rfl) rfl rfl (opv_gtr rfl (Ev.eq (.t .here)) (Ev.eq .i) rfl) ?_
             refine lv (.plain rfl) rfl rfl (opv_pick_f rfl (Ev.eq (.t (.n 95 2 rfl))) rfl (Ev.eq (.t .here))) ?_
             refine awpL_nil ?_
             refine psplit (.n 97 1 rfl) (fun h97 => ?_) (fun h97 => ?_)
             ·
              have q97 := h97
              try simp only [zs, List.length_map] at q97
              refine pcond_t (.t .here) h97 ?_
              refine awp_seq ?_
              refine awp_region ?_
              refine lv (.plain rfl) rfl rfl (opv_assign rfl (Ev.eq .i)) ?_
              refine awpL_nil ?_
              refine awp_ret ?_
              refine ret_now (.one (rv_t .here)) (Cast.all _ _) ?_
              refine ⟨congrArg (fun x => AV.d (D.i .i64 x)) ?_, rfl⟩
              obtain rfl : i = 4 := by omega
              rw [show widR s p = widN s p 4 (bt s (p : Int) - 240) 65536 from by unfold widR; rw [if_neg (by omega), if_neg (by omega), if_neg (by omega), if_neg (by omega), if_pos (by omega)]]; unfold widN; rw [show (4 - 1 : Nat) = 3 from rfl, ← hEQ]
              rw [Nat.sub_self, wid1]
              simp only
              first | (rw [if_pos (by omega)]; rfl) | (rw [if_neg (by omega)]; rfl)
             ·
              have q97 := h97
              try simp only [zs, List.length_map] at q97
              refine pcond_f (.t .here) h97 ?_
              refine awp_skip ?_
              refine awp_seq ?_
              refine awp_region ?_
              refine lv (.plain rfl) rfl rfl (opv_move rfl (Ev.eq (.t (.n 6 20 rfl)))) ?_
              refine lv (.plain rfl) rfl rfl (opv_assign rfl (Ev.eq (.t .here))) ?_
              refine awpL_nil ?_
              refine awp_ret ?_
              refine ret_now (.one (rv_t .here)) (Cast.all _ _) ?_
              refine ⟨congrArg (fun x => AV.d (D.i .i64 x)) ?_, rfl⟩
              obtain rfl : i = 4 := by omega
              rw [show widR s p = widN s p 4 (bt s (p : Int) - 240) 65536 from by unfold widR; rw [if_neg (by omega), if_neg (by omega), if_neg (by omega), if_neg (by omega), if_pos (by omega)]]; unfold widN; rw [show (4 - 1 : Nat) = 3 from rfl, ← hEQ]
              rw [Nat.sub_self, wid1]
              simp only
              first | (rw [if_pos (by omega)]; rfl) | (rw [if_neg (by omega)]; rfl)
         ·
          have q49 := h49
          try simp only [zs, List.length_map] at q49
          refine pcond_f (.t .here) h49 ?_
          refine awp_seq ?_
          refine awp_region ?_
          refine lv (.plain rfl) rfl rfl (opv_assign rfl (Ev.eq .i)) ?_
          refine awpL_nil ?_
          refine awp_ret ?_
          refine ret_now (.one (rv_t .here)) (Cast.all _ _) ?_
          refine ⟨congrArg (fun x => AV.d (D.i .i64 x)) ?_, rfl⟩
          unfold widR
          rw [if_neg (by omega), if_neg (by omega), if_neg (by omega), if_neg (by omega), if_neg (by omega)]
          rfl
        ·
         have q46 := h46
         try simp only [zs, List.length_map] at q46
         refine lo (.off rfl rfl .here h46) rfl rfl ?_
         refine lo (.off rfl rfl (.n 47 1 rfl) h46) rfl rfl ?_
         refine lv (.plain rfl) rfl rfl (opv_pick_f rfl (Ev.eq (.t (.n 47 2 rfl))) h46 (Ev.eq .b)) ?_
         refine lv (.plain rfl) rfl rfl (opv_assign rfl (Ev.eq (.t .here))) ?_
         refine awpL_nil ?_
         refine pcond_f (.t .here) rfl ?_
         refine awp_seq ?_
         refine awp_region ?_
         refine lv (.plain rfl) rfl rfl (opv_assign rfl (Ev.eq .i)) ?_
         refine awpL_nil ?_
         refine awp_ret ?_
         refine ret_now (.one (rv_t .here)) (Cast.all _ _) ?_
         refine ⟨congrArg (fun x => AV.d (D.i .i64 x)) ?_, rfl⟩
         unfold widR
         rw [if_neg (by omega), if_neg (by omega), if_neg (by omega), if_neg (by omega), if_neg (by omega)]
         rfl
      ·
       have q37 := h37
       try simp only [zs, List.length_map] at q37
       refine lo (.off rfl rfl .here h37) rfl rfl ?_
       refine lo (.off rfl rfl (.n 38 1 rfl) h37) rfl rfl ?_
       refine lv (.plain rfl) rfl rfl (opv_pick_f rfl (Ev.eq (.t (.n 38 2 rfl))) h37 (Ev.eq .b)) ?_
       refine lv (.plain rfl) rfl rfl (opv_assign rfl (Ev.eq (.t .here))) ?_
       refine awpL_nil ?_
       refine pcond_f (.t .here) rfl ?_
       refine awp_seq ?_
       refine awp_region ?_
       refine lv (.plain rfl) rfl rfl (opv_move rfl (Ev.eq (.t (.n 5 21 rfl)))) ?_
       refine lv (.plain rfl) rfl rfl (opv_geq rfl (Ev.eq (.t .here)) (Ev.eq .i) rfl) ?_
       refine lv (.plain rfl) rfl rfl (opv_move rfl (Ev.eq (.t .here))) ?_
       refine lsplit (.n 46 1 rfl) (fun h46 => ?_) (fun h46 => ?_)
       ·
        have q46 := h46
        try simp only [zs, List.length_map] at q46
        refine lv (.on rfl rfl .here h46) rfl rfl (opv_move rfl (Ev.eq (.t (.n 5 24 rfl)))) ?_
        refine lv (.on rfl rfl (.n 47 1 rfl) h46) rfl rfl (opv_lss rfl (Ev.eq (.t .here)) (Ev.eq .i) rfl) ?_
        refine lv (.plain rfl) rfl rfl (opv_pick_t rfl (Ev.eq (.t (.n 47 2 rfl))) h46 (Ev.eq (.t .here))) ?_
        refine lv (.plain rfl) rfl rfl (opv_assign rfl (Ev.eq (.t .here))) ?_
        refine awpL_nil ?_
        refine psplit (.n 49 2 rfl) (fun h49 => ?_) (fun h49 => ?_)
        ·
         have q49 := h49
         try simp only [zs, List.length_map] at q49
         refine pcond_t (.t .here) h49 ?_
         refine awp_region ?_
         refine lv (.plain rfl) rfl rfl (opv_move rfl (Ev.eq (.t (.n 5 28 rfl)))) ?_
         refine lv (.plain rfl) rfl rfl (opv_sub rfl (Ev.eq (.t .here)) (Ev.eq .i) (wr64 (by omega) (by omega)) rfl) ?_
         refine lv (.plain rfl) rfl rfl (opv_assign rfl (Ev.eq .i)) ?_
         refine lv (.plain rfl) rfl rfl (opv_assign rfl (Ev.eq (.t (.n 52 1 rfl)))) ?_
         refine lv (.plain rfl) rfl rfl (opv_assign rfl (Ev.eq .i)) ?_
         refine awpL_nil ?_
         refine awp_seq ?_
         refine awp_seq ?_
         refine awp_region ?_
         refine lv (.plain rfl) rfl rfl (opv_assign rfl (Ev.eq .i)) ?_
         refine awpL_nil ?_
         refine awp_block ?_
         have hbr := bt_range s (p : Int)
         refine ploop (fun (a : Nat × Int) => ⟨100, [(0, .d (.s s)), (1, .d (.i .i64 (p : Int))), (6, .d (.i .i64 4)), (7, .d (.i .i64 a.2)), (8, .d (.i .i64 65536)), (9, .d (.i .i64 (a.1 : Int)))], [], []⟩) (fun a => a.1 ≤ 4 ∧ 0 ≤ a.2 ∧ (a.1 = 1 ∧ a.2 ≤ 31 ∨ a.1 = 2 ∧ a.2 ≤ 2047 ∨ a.1 = 3 ∧ a.2 ≤ 131071 ∨ a.1 = 4 ∧ a.2 ≤ 8388607) ∧ wid1 s p a.1 (4 - a.1) a.2 = wid1 s p 1 3 (bt s (p : Int) - 240)) (fun a => 4 - a.1) ((1, bt s (p : Int) - 240)) (weak_both (.ce (.n 0 48 rfl) (by first | rfl | (simp; done) | (simp; omega)) (.ce (.n 1 49 rfl) (by first | rfl | (simp; done) | (simp; omega)) (.ce (.n 6 3 rfl) (by first | rfl | (simp; done) | (simp; omega)) (.ce (.n 7 2 rfl) (by first | rfl | (simp; done) | (simp; omega)) (.ce (.n 8 1 rfl) (by first | rfl | (simp; done) | (simp; omega)) (.ce .here (by first | rfl | (simp; done) | (simp; omega)) .nil)))))) (List.Sublist.refl _)) (⟨by dsimp only; omega, by dsimp only; omega, by dsimp only; omega, rfl⟩) ?_
         rintro ⟨i, q⟩ ⟨hi, hq0, hqb, hEQ⟩
         dsimp only at hi hq0 hqb hEQ
         dsimp only
         have hn : 4 = 4 := rfl
         refine awp_seq ?_
         refine awp_seq ?_
         refine awp_region ?_
         refine lv (.plain rfl) rfl rfl (opv_move rfl (Ev.eq (.t (.n 9 5 rfl)))) ?_
         refine lv (.plain rfl) rfl rfl (opv_move rfl (Ev.eq (.t (.n 6 3 rfl)))) ?_
         refine lv (.plain rfl) rfl rfl (opv_lss rfl (Ev.eq (.t (.n 53 1 rfl))) (Ev.eq (.t .here)) rfl) ?_
         refine awpL_nil ?_
         refine psplit .here (fun h55 => ?_) (fun h55 => ?_)
         ·
          have q55 := h55
          try simp only [zs, List.length_map] at q55
          refine pcond_t (.t .here) h55 ?_
          refine awp_skip ?_
          refine awp_seq ?_
          refine awp_block ?_
          refine awp_seq ?_
          refine awp_seq ?_
          refine awp_region ?_
          refine lv (.plain rfl) rfl rfl (opv_move rfl (Ev.eq (.t (.n 1 4 rfl)))) ?_
          refine lv (.plain rfl) rfl rfl (opv_move rfl (Ev.eq (.t (.n 9 9 rfl)))) ?_
          refine lv (.plain rfl) rfl rfl (opv_add rfl (Ev.eq (.t (.n 58 1 rfl))) (Ev.eq (.t .here)) (wr64 (by omega) (by omega)) rfl) ?_
          refine lv (.plain rfl) rfl rfl (opv_move rfl (Ev.eq (.t (.n 0 6 rfl)))) ?_
          refine lv (.plain rfl) rfl rfl (opv_len_s Tryd.underlying9 rfl (Ev.eq (.t .here)) rfl) ?_
          refine lv (.plain rfl) rfl rfl (opv_geq rfl (Ev.eq (.t (.n 60 2 rfl))) (Ev.eq (.t .here)) rfl) ?_
          refine lv (.plain rfl) rfl rfl (opv_move rfl (Ev.eq (.t .here))) ?_
          refine lsplit (.n 63 1 rfl) (fun h63 => ?_) (fun h63 => ?_)
          ·
           have q63 := h63
           try simp only [zs, List.length_map] at q63
           refine lo (.off rfl rfl .here h63) rfl rfl ?_
           refine lo (.off rfl rfl (.n 64 1 rfl) h63) rfl rfl ?_
           refine lo (.off rfl rfl (.n 64 2 rfl) h63) rfl rfl ?_
           refine lo (.off rfl rfl (.n 64 3 rfl) h63) rfl rfl ?_
           refine lo (.off rfl rfl (.n 64 4 rfl) h63) rfl rfl ?_
           refine lo (.off rfl rfl (.n 64 5 rfl) h63) rfl rfl ?_
           refine lo (.off rfl rfl (.n 64 6 rfl) h63) rfl rfl ?_
           refine lo (.off rfl rfl (.n 64 7 rfl) h63) rfl rfl ?_
           refine lv (.plain rfl) rfl rfl (opv_pick_t rfl (Ev.eq (.t (.n 64 8 rfl))) h63 (Ev.eq .b)) ?_
           refine awpL_nil ?_
           refine pcond_t (.t .here) rfl ?_
           refine awp_seq ?_
           refine awp_region ?_
           refine lv (.plain rfl) rfl rfl (opv_assign rfl (Ev.eq .i)) ?_
           refine awpL_nil ?_
           refine awp_ret ?_
           refine ret_now (.one (rv_t .here)) (Cast.all _ _) ?_
           have hbi := bt_range s ((p : Int) + i)
           refine ⟨congrArg (fun x => AV.d (D.i .i64 x)) ?_, rfl⟩
           rw [show widR s p = widN s p 4 (bt s (p : Int) - 240) 65536 from by unfold widR; rw [if_neg (by omega), if_neg (by omega), if_neg (by omega), if_neg (by omega), if_pos (by omega)]]; unfold widN; rw [show (4 - 1 : Nat) = 3 from rfl, ← hEQ]
           rw [show 4 - i = (4 - (i + 1)) + 1 by omega, wid1, if_pos (by first | omega | (right; omega))]
           try rfl
          ·
           have q63 := h63
           try simp only [zs, List.length_map] at q63
           refine lv (.on rfl rfl .here h63) rfl rfl (opv_move rfl (Ev.eq (.t (.n 0 10 rfl)))) ?_
           refine lv (.on rfl rfl (.n 64 1 rfl) h63) rfl rfl (opv_move rfl (Ev.eq (.t (.n 1 12 rfl)))) ?_
           refine lv (.on rfl rfl (.n 64 2 rfl) h63) rfl rfl (opv_move rfl (Ev.eq (.t (.n 9 17 rfl)))) ?_
           refine lv (.on rfl rfl (.n 64 3 rfl) h63) rfl rfl (opv_add rfl (Ev.eq (.t (.n 66 1 rfl))) (Ev.eq (.t .here)) (wr64 (by omega) (by omega)) rfl) ?_
           refine lv (.on rfl rfl (.n 64 4 rfl) h63) rfl rfl (opv_index_s Tryd.underlying9 rfl (Ev.eq (.t (.n 65 3 rfl))) (Ev.eq (.t .here)) (by omega) (by omega) rfl) ?_
           refine lv (.on rfl rfl (.n 64 5 rfl) h63) rfl rfl (opv_convert Tryd.underlying5 Tryd.underlying3 rfl (Ev.eq (.t .here)) (wr_bt _ _) rfl) ?_
           refine lv (.on rfl rfl (.n 64 6 rfl) h63) rfl rfl (opv_quo rfl (Ev.eq (.t .here)) (Ev.eq .i) (by omega) (wr_div (bt_range _ _).1 (by decide) (by have := bt_range s ((p : Int) + i); omega)) rfl) ?_
           refine lv (.on rfl rfl (.n 64 7 rfl) h63) rfl rfl (opv_neq_i rfl (Ev.eq (.t .here)) (Ev.eq .i) rfl) ?_
           refine lv (.plain rfl) rfl rfl (opv_pick_f rfl (Ev.eq (.t (.n 64 8 rfl))) h63 (Ev.eq (.t .here))) ?_
           refine awpL_nil ?_
           refine psplit (.n 72 1 rfl) (fun h72 => ?_) (fun h72 => ?_)
           ·
            have q72 := h72
            try simp only [zs, List.length_map] at q72
            refine pcond_t (.t .here) h72 ?_
            refine awp_seq ?_
            refine awp_region ?_
            refine lv (.plain rfl) rfl rfl (opv_assign rfl (Ev.eq .i)) ?_
            refine awpL_nil ?_
            refine awp_ret ?_
            refine ret_now (.one (rv_t .here)) (Cast.all _ _) ?_
            have hbi := bt_range s ((p : Int) + i)
            refine ⟨congrArg (fun x => AV.d (D.i .i64 x)) ?_, rfl⟩
            rw [show widR s p = widN s p 4 (bt s (p : Int) - 240) 65536 from by unfold widR; rw [if_neg (by omega), if_neg (by omega), if_neg (by omega), if_neg (by omega), if_pos (by omega)]]; unfold widN; rw [show (4 - 1 : Nat) = 3 from rfl, ← hEQ]
            rw [show 4 - i = (4 - (i + 1)) + 1 by omega, wid1, if_pos (by first | omega | (right; omega))]
            try rfl
           ·
            have q72 := h72
            try simp only [zs, List.length_map] at q72
            refine pcond_f (.t .here) h72 ?_
            refine awp_skip ?_
            refine awp_region ?_
            refine lv (.plain rfl) rfl rfl (opv_move rfl (Ev.eq (.t (.n 7 22 rfl)))) ?_
            refine lv (.plain rfl) rfl rfl (opv_mul rfl (Ev.eq .i) (Ev.eq (.t .here)) (wr64 (by omega) (by omega)) rfl) ?_
            refine lv (.plain rfl) rfl rfl (opv_move rfl (Ev.eq (.t (.n 0 21 rfl)))) ?_
            refine lv (.plain rfl) rfl rfl (opv_move rfl (Ev.eq (.t (.n 1 23 rfl)))) ?_
            refine lv (.plain rfl) rfl rfl (opv_move rfl (Ev.eq (.t (.n 9 28 rfl)))) ?_
            refine lv (.plain rfl) rfl rfl (opv_add rfl (Ev.eq (.t (.n 77 1 rfl))) (Ev.eq (.t .here)) (wr64 (by omega) (by omega)) rfl) ?_
            refine lv (.plain rfl) rfl rfl (opv_index_s Tryd.underlying9 rfl (Ev.eq (.t (.n 76 3 rfl))) (Ev.eq (.t .here)) (by omega) (by omega) rfl) ?_
            refine lv (.plain rfl) rfl rfl (opv_convert Tryd.underlying5 Tryd.underlying3 rfl (Ev.eq (.t .here)) (wr_bt _ _) rfl) ?_
            refine lv (.plain rfl) rfl rfl (opv_rem rfl (Ev.eq (.t .here)) (Ev.eq .i) (by omega) (Int.tmod_eq_emod_of_nonneg (bt_range _ _).1) rfl) ?_
            refine lv (.plain rfl) rfl rfl (opv_add rfl (Ev.eq (.t (.n 75 7 rfl))) (Ev.eq (.t .here)) (wr64 (by have := bt_range s ((p : Int) + i); omega) (by have := bt_range s ((p : Int) + i); omega)) rfl) ?_
            refine lv (.plain rfl) rfl rfl (opv_assign rfl (Ev.eq (.t .here))) ?_
            refine awpL_nil ?_
            refine awp_region ?_
            refine lv (.plain rfl) rfl rfl (opv_move rfl (Ev.eq (.t (.n 9 35 rfl)))) ?_
            refine lv (.plain rfl) rfl rfl (opv_add rfl (Ev.eq (.t .here)) (Ev.eq .i) (wr64 (by omega) (by omega)) rfl) ?_
            refine lv (.plain rfl) rfl rfl (opv_assign rfl (Ev.eq (.t .here))) ?_
            refine awpL_nil ?_
            have hbi := bt_range s ((p : Int) + i)
            refine ⟨(i + 1, 64 * q + bt s ((p : Int) + i) % 64), by dsimp only; omega, ⟨by dsimp only; omega, by dsimp only; omega, by dsimp only; omega, by dsimp only; rw [show 4 - i = (4 - (i + 1)) + 1 by omega, wid1, if_neg (by omega)] at hEQ; exact hEQ⟩, weak_both (.ce (.n 0 33 rfl) (by first | rfl | (simp; done) | (simp; omega)) (.ce (.n 1 34 rfl) (by first | rfl | (simp; done) | (simp; omega)) (.ce (.n 6 35 rfl) (by first | rfl | (simp; done) | (simp; omega)) (.ce (.n 7 3 rfl) (by first | rfl | (simp; done) | (simp; omega)) (.ce (.n 8 37 rfl) (by first | rfl | (simp; done) | (simp; omega)) (.ce .here (by first | rfl | (simp; done) | (simp; omega)) .nil)))))) (List.Sublist.refl _)⟩
         ·
          have q55 := h55
          try simp only [zs, List.length_map] at q55
          refine pcond_f (.t .here) h55 ?_
          refine awp_exit ?_
          refine awp_seq ?_
          refine awp_seq ?_
          refine awp_region ?_
          refine lv (.plain rfl) rfl rfl (opv_move rfl (Ev.eq (.t (.n 7 6 rfl)))) ?_
          refine lv (.plain rfl) rfl rfl (opv_move rfl (Ev.eq (.t (.n 8 8 rfl)))) ?_
          refine lv (.plain rfl) rfl rfl (opv_lss rfl (Ev.eq (.t (.n 84 1 rfl))) (Ev.eq (.t .here)) rfl) ?_
          refine lv (.plain rfl) rfl rfl (opv_move rfl (Ev.eq (.t .here))) ?_
          refine lsplit (.n 86 1 rfl) (fun h86 => ?_) (fun h86 => ?_)
          ·
           have q86 := h86
           try simp only [zs, List.length_map] at q86
           refine lo (.off rfl rfl .here h86) rfl rfl ?_
           refine lo (.off rfl rfl (.n 87 1 rfl) h86) rfl rfl ?_
           refine lo (.off rfl rfl (.n 87 2 rfl) h86) rfl rfl ?_
           refine lo (.no rfl rfl .here) rfl rfl ?_
           refine lo (.no rfl rfl (.n 90 1 rfl)) rfl rfl ?_
           refine lo (.off rfl rfl (.n 87 5 rfl) h86) rfl rfl ?_
           refine lv (.plain rfl) rfl rfl (opv_pick_t rfl (Ev.eq (.t (.n 87 6 rfl))) h86 (Ev.eq .b)) ?_
           refine lv (.plain rfl) rfl rfl (opv_move rfl (Ev.eq (.t .here))) ?_
           refine lo (.off rfl rfl .here rfl) rfl rfl ?_
           refine lo (.off rfl rfl (.n 95 1 rfl) rfl) rfl rfl ?_
           refine lv (.plain rfl) rfl rfl (opv_pick_t rfl (Ev.eq (.t (.n 95 2 rfl))) rfl (Ev.eq .b)) ?_
           refine awpL_nil ?_
           refine pcond_t (.t .here) rfl ?_
           refine awp_seq ?_
           refine awp_region ?_
           refine lv (.plain rfl) rfl rfl (opv_assign rfl (Ev.eq .i)) ?_
           refine awpL_nil ?_
           refine awp_ret ?_
           refine ret_now (.one (rv_t .here)) (Cast.all _ _) ?_
           refine ⟨congrArg (fun x => AV.d (D.i .i64 x)) ?_, rfl⟩
           obtain rfl : i = 4 := by omega
           rw [show widR s p = widN s p 4 (bt s (p : Int) - 240) 65536 from by unfold widR; rw [if_neg (by omega), if_neg (by omega), if_neg (by omega), if_neg (by omega), if_pos (by omega)]]; unfold widN; rw [show (4 - 1 : Nat) = 3 from rfl, ← hEQ]
           rw [Nat.sub_self, wid1]
           simp only
           first | (rw [if_pos (by omega)]; rfl) | (rw [if_neg (by omega)]; rfl)
          ·
           have q86 := h86
           try simp only [zs, List.length_map] at q86
           refine lv (.on rfl rfl .here h86) rfl rfl (opv_move rfl (Ev.eq (.t (.n 7 10 rfl)))) ?_
           refine lv (.on rfl rfl (.n 87 1 rfl) h86) rfl rfl (opv_geq rfl (Ev.eq (.t .here)) (Ev.eq .i) rfl) ?_
           refine lv (.on rfl rfl (.n 87 2 rfl) h86) rfl rfl (opv_move rfl (Ev.eq (.t .here))) ?_
           refine lsplit (.n 89 1 rfl) (fun h89 => ?_) (fun h89 => ?_)
           ·
            have q89 := h89
            try simp only [zs, List.length_map] at q89
            refine lv (.on rfl rfl .here h89) rfl rfl (opv_move rfl (Ev.eq (.t (.n 7 13 rfl)))) ?_
            refine lv (.on rfl rfl (.n 90 1 rfl) h89) rfl rfl (opv_lss rfl (Ev.eq (.t .here)) (Ev.eq .i) rfl) ?_
            refine lv (.on rfl rfl (.n 87 5 rfl) h86) rfl rfl (opv_pick_t rfl (Ev.eq (.t (.n 90 2 rfl))) h89 (Ev.eq (.t .here))) ?_
            refine lv (.plain rfl) rfl rfl (opv_pick_f rfl (Ev.eq (.t (.n 87 6 rfl))) h86 (Ev.eq (.t .here))) ?_
            refine lv (.plain rfl) rfl rfl (opv_move rfl (Ev.eq (.t .here))) ?_
            refine lsplit (.n 92 3 rfl) (fun h92 => ?_) (fun h92 => ?_)
            ·
             have q92 := h92
             try simp only [zs, List.length_map] at q92
             refine lo (.off rfl rfl .here h92) rfl rfl ?_
             refine lo (.off rfl rfl (.n 95 1 rfl) h92) rfl rfl ?_
             refine lv (.plain rfl) rfl rfl (opv_pick_t rfl (Ev.eq (.t (.n 95 2 rfl))) h92 (Ev.eq .b)) ?_
             refine awpL_nil ?_
             refine pcond_t (.t .here) rfl ?_
             refine awp_seq ?_
             refine awp_region ?_
             refine lv (.plain rfl) rfl rfl (opv_assign rfl (Ev.eq .i)) ?_
             refine awpL_nil ?_
             refine awp_ret ?_
             refine ret_now (.one (rv_t .here)) (Cast.all _ _) ?_
             refine ⟨congrArg (fun x => AV.d (D.i .i64 x)) ?_, rfl⟩
             obtain rfl : i = 4 := by omega
             rw [show widR s p = widN s p 4 (bt s (p : Int) - 240) 65536 from by unfold widR; rw [if_neg (by omega), if_neg (by omega), if_neg (by omega), if_neg (by omega), if_pos (by omega)]]; unfold widN; rw [show (4 - 1 : Nat) = 3 from rfl, ← hEQ]
             rw [Nat.sub_self, wid1]
             simp only
             first | (rw [if_pos (by omega)]; rfl) | (rw [if_neg (by omega)]; rfl)
            ·
             have q92 := h92
             try simp only [zs, List.length_map] at q92
             refine lv (.on rfl rfl .here h92) rfl rfl (opv_move rfl (Ev.eq (.t (.n 7 18 rfl)))) ?_
             refine lv (.on rfl rfl (.n 95 1 rfl) h92) rfl rfl (opv_gtr rfl (Ev.eq (.t .here)) (Ev.eq .i) rfl) ?_
             refine lv (.plain rfl) rfl rfl (opv_pick_f rfl (Ev.eq (.t (.n 95 2 rfl))) h92 (Ev.eq (.t .here))) ?_
             refine awpL_nil ?_
             refine psplit (.n 97 1 rfl) (fun h97 => ?_) (fun h97 => ?_)
             ·
              have q97 := h97
              try simp only [zs, List.length_map] at q97
              refine pcond_t (.t .here) h97 ?_
              refine awp_seq ?_
              refine awp_region ?_
              refine lv (.plain rfl) rfl rfl (opv_assign rfl (Ev.eq .i)) ?_
              refine awpL_nil ?_
              refine awp_ret ?_
              refine ret_now (.one (rv_t .here)) (Cast.all _ _) ?_
              refine ⟨congrArg (fun x => AV.d (D.i .i64 x)) ?_, rfl⟩
              obtain rfl : i = 4 := by omega
              rw [show widR s p = widN s p 4 (bt s (p : Int) - 240) 65536 from by unfold widR; rw [if_neg (by omega), if_neg (by omega), if_neg (by omega), if_neg (by omega), if_pos (by omega)]]; unfold widN; rw [show (4 - 1 : Nat) = 3 from rfl, ← hEQ]
              rw [Nat.sub_self, wid1]
              simp only
              first | (rw [if_pos (by omega)]; rfl) | (rw [if_neg (by omega)]; rfl)
             ·
              have q97 := h97
              try simp only [zs, List.length_map] at q97
              refine pcond_f (.t .here) h97 ?_
              refine awp_skip ?_
              refine awp_seq ?_
              refine awp_region ?_
              refine lv (.plain rfl) rfl rfl (opv_move rfl (Ev.eq (.t (.n 6 20 rfl)))) ?_
              refine lv (.plain rfl) rfl rfl (opv_assign rfl (Ev.eq (.t .here))) ?_
              refine awpL_nil ?_
              refine awp_ret ?_
              refine ret_now (.one (rv_t .here)) (Cast.all _ _) ?_
              refine ⟨congrArg (fun x => AV.d (D.i .i64 x)) ?_, rfl⟩
              obtain rfl : i = 4 := by omega
              rw [show widR s p = widN s p 4 (bt s (p : Int) - 240) 65536 from by unfold widR; rw [if_neg (by omega), if_neg (by omega), if_neg (by omega), if_neg (by omega), if_pos (by omega)]]; unfold widN; rw [show (4 - 1 : Nat) = 3 from rfl, ← hEQ]
              rw [Nat.sub_self, wid1]
              simp only
              first | (rw [if_pos (by omega)]; rfl) | (rw [if_neg (by omega)]; rfl)
           ·
            have q89 := h89
            try simp only [zs, List.length_map] at q89
            refine lo (.off rfl rfl .here h89) rfl rfl ?_
            refine lo (.off rfl rfl (.n 90 1 rfl) h89) rfl rfl ?_
            refine lv (.on rfl rfl (.n 87 5 rfl) h86) rfl rfl (opv_pick_f rfl (Ev.eq (.t (.n 90 2 rfl))) h89 (Ev.eq .b)) ?_
            refine lv (.plain rfl) rfl rfl (opv_pick_f rfl (Ev.eq (.t (.n 87 6 rfl))) h86 (Ev.eq (.t .here))) ?_
            refine lv (.plain rfl) rfl rfl (opv_move rfl (Ev.eq (.t .here))) ?_
            refine lv (.on rfl rfl .here rfl) rfl rfl (opv_move rfl (Ev.eq (.t (.n 7 18 rfl)))) ?_
            refine lv (.on rfl rfl (.n 95 1 rfl) rfl) rfl rfl (opv_gtr rfl (Ev.eq (.t .here)) (Ev.eq .i) rfl) ?_
            refine lv (.plain rfl) rfl rfl (opv_pick_f rfl (Ev.eq (.t (.n 95 2 rfl))) rfl (Ev.eq (.t .here))) ?_
            refine awpL_nil ?_
            refine psplit (.n 97 1 rfl) (fun h97 => ?_) (fun h97 => ?_)
            ·
             have q97 := h97
             try simp only [zs, List.length_map] at q97
             refine pcond_t (.t .here) h97 ?_
             refine awp_seq ?_
             refine awp_region ?_
             refine lv (.plain rfl) rfl rfl (opv_assign rfl (Ev.eq .i)) ?_
             refine awpL_nil ?_
             refine awp_ret ?_
             refine ret_now (.one (rv_t .here)) (Cast.all _ _) ?_
             refine ⟨congrArg (fun x => AV.d (D.i .i64 x)) ?_, rfl⟩
             obtain rfl : i = 4 := by omega
             rw [show widR s p = widN s p 4 (bt s (p : Int) - 240) 65536 from by unfold widR; rw [if_neg (by omega), if_neg (by omega), if_neg (by omega), if_neg (by omega), if_pos (by omega)]]; unfold widN; rw [show (4 - 1 : Nat) = 3 from rfl, ← hEQ]
             rw [Nat.sub_self, wid1]
             simp only
             first | (rw [if_pos (by omega)]; rfl) | (rw [if_neg (by omega)]; rfl)
            ·
             have q97 := h97
             try simp only [zs, List.length_map] at q97
             refine pcond_f (.t .here) h97 ?_
             refine awp_skip ?_
             refine awp_seq ?_
             refine awp_region ?_
             refine lv (.plain rfl) rfl rfl (opv_move rfl (Ev.eq (.t (.n 6 20 rfl)))) ?_
             refine lv (.plain rfl) rfl rfl (opv_assign rfl (Ev.eq (.t .here))) ?_
             refine awpL_nil ?_
             refine awp_ret ?_
             refine ret_now (.one (rv_t .here)) (Cast.all _ _) ?_
             refine ⟨congrArg (fun x => AV.d (D.i .i64 x)) ?_, rfl⟩
             obtain rfl : i = 4 := by omega
             rw [show widR s p = widN s p 4 (bt s (p : Int) - 240) 65536 from by unfold widR; rw [if_neg (by omega), if_neg (by omega), if_neg (by omega), if_neg (by omega), if_pos (by omega)]]; unfold widN; rw [show (4 - 1 : Nat) = 3 from rfl, ← hEQ]
             rw [Nat.sub_self, wid1]
             simp only
             first | (rw [if_pos (by omega)]; rfl) | (rw [if_neg (by omega)]; rfl)
        ·
         have q49 := h49
         try simp only [zs, List.length_map] at q49
         refine pcond_f (.t .here) h49 ?_
         refine awp_seq ?_
         refine awp_region ?_
         refine lv (.plain rfl) rfl rfl (opv_assign rfl (Ev.eq .i)) ?_
         refine awpL_nil ?_
         refine awp_ret ?_
         refine ret_now (.one (rv_t .here)) (Cast.all _ _) ?_
         refine ⟨congrArg (fun x => AV.d (D.i .i64 x)) ?_, rfl⟩
         unfold widR
         rw [if_neg (by omega), if_neg (by omega), if_neg (by omega), if_neg (by omega), if_neg (by omega)]
         rfl
       ·
        have q46 := h46
        try simp only [zs, List.length_map] at q46
        refine lo (.off rfl rfl .here h46) rfl rfl ?_
        refine lo (.off rfl rfl (.n 47 1 rfl) h46) rfl rfl ?_
        refine lv (.plain rfl) rfl rfl (opv_pick_f rfl (Ev.eq (.t (.n 47 2 rfl))) h46 (Ev.eq .b)) ?_
        refine lv (.plain rfl) rfl rfl (opv_assign rfl (Ev.eq (.t .here))) ?_
        refine awpL_nil ?_
        refine pcond_f (.t .here) rfl ?_
        refine awp_seq ?_
        refine awp_region ?_
        refine lv (.plain rfl) rfl rfl (opv_assign rfl (Ev.eq .i)) ?_
        refine awpL_nil ?_
        refine awp_ret ?_
        refine ret_now (.one (rv_t .here)) (Cast.all _ _) ?_
        refine ⟨congrArg (fun x => AV.d (D.i .i64 x)) ?_, rfl⟩
        unfold widR
        rw [if_neg (by omega), if_neg (by omega), if_neg (by omega), if_neg (by omega), if_neg (by omega)]
        rfl
theorem widR_le (s : ByteArray) (p : Nat) : widR s p ≤ 4 := by
  unfold widR widN
  repeat' split
  all_goals omega
theorem f134_spec (s : ByteArray) (hs : s.size ≤ 1000000) : FSpec Tryd.prog 134 [.d (.s s)] (.d (.i .i64 (runesR s))) := by
  refine acalls_of Tryd.func134 rfl Tryd.ntmps134 Tryd.results134 (by simp) ?_
  refine awp_seq ?_
  refine awp_region ?_
  refine lv (.plain rfl) rfl rfl (opv_assign rfl (Ev.eq .i)) ?_
  refine awpL_nil ?_
  refine awp_seq ?_
  refine awp_region ?_
  refine lv (.plain rfl) rfl rfl (opv_assign rfl (Ev.eq .i)) ?_
  refine awpL_nil ?_
  refine awp_seq ?_
  refine awp_seq ?_
  refine awp_region ?_
  refine lv (.plain rfl) rfl rfl (opv_assign rfl (Ev.eq .i)) ?_
  refine awpL_nil ?_
  refine awp_block ?_
  refine ploop (fun (a : Nat × Int) => ⟨21, [(0, .d (.s s)), (3, .d (.i .i64 a.2)), (4, .d (.i .i64 (a.1 : Int)))], [], []⟩) (fun a => 0 ≤ a.2 ∧ a.2 ≤ a.1 ∧ ∃ f, s.size ≤ a.1 + f ∧ ((runesF s f a.1 < 0 ∧ runesR s < 0) ∨ (0 ≤ runesF s f a.1 ∧ runesR s = a.2 + runesF s f a.1))) (fun a => s.size - a.1) ((0, 0)) (weak_both (.ce (.n 0 3 rfl) (by first | rfl | (simp; done) | (simp; omega)) (.ce (.n 3 1 rfl) (by first | rfl | (simp; done) | (simp; omega)) (.ce .here (by first | rfl | (simp; done) | (simp; omega)) .nil))) (List.Sublist.refl _)) (⟨Int.le_refl _, Int.le_refl _, s.size, by simp, by dsimp only; by_cases h : runesR s < 0; exact .inl ⟨h, h⟩; exact .inr ⟨by unfold runesR at h; omega, by unfold runesR; simp⟩⟩) ?_
  rintro ⟨pos, k⟩ ⟨hk0, hkp, f, hf, hR⟩
  dsimp only at hk0 hkp hf hR
  dsimp only
  refine awp_seq ?_
  refine awp_seq ?_
  refine awp_region ?_
  refine lv (.plain rfl) rfl rfl (opv_move rfl (Ev.eq (.t (.n 4 2 rfl)))) ?_
  refine lv (.plain rfl) rfl rfl (opv_move rfl (Ev.eq (.t (.n 0 1 rfl)))) ?_
  refine lv (.plain rfl) rfl rfl (opv_len_s Tryd.underlying9 rfl (Ev.eq (.t .here)) rfl) ?_
  refine lv (.plain rfl) rfl rfl (opv_lss rfl (Ev.eq (.t (.n 6 2 rfl))) (Ev.eq (.t .here)) rfl) ?_
  refine awpL_nil ?_
  refine psplit .here (fun h9 => ?_) (fun h9 => ?_)
  ·
   have q9 := h9
   try simp only [zs, List.length_map] at q9
   refine pcond_t (.t .here) h9 ?_
   refine awp_skip ?_
   refine awp_block ?_
   refine awp_seq ?_
   refine awp_region ?_
   refine lv (.plain rfl) rfl rfl (opv_move rfl (Ev.eq (.t (.n 0 4 rfl)))) ?_
   refine lv (.plain rfl) rfl rfl (opv_move rfl (Ev.eq (.t (.n 4 7 rfl)))) ?_
   refine lv (.plain rfl) rfl rfl (q_call rfl .f Tryd.call136 (.cons (.t (.n 10 1 rfl)) (.cons (.t .here) .nil)) rfl (f136_spec s hs pos (by omega))) ?_
   refine lv (.plain rfl) rfl rfl (opv_assign rfl (Ev.eq (.t .here))) ?_
   refine awpL_nil ?_
   refine awp_seq ?_
   refine awp_seq ?_
   refine awp_region ?_
   refine lv (.plain rfl) rfl rfl (opv_move rfl (Ev.eq (.t .here))) ?_
   refine lv (.plain rfl) rfl rfl (opv_eql_i rfl (Ev.eq (.t .here)) (Ev.eq .i) rfl) ?_
   refine awpL_nil ?_
   refine psplit .here (fun h14 => ?_) (fun h14 => ?_)
   ·
    have q14 := h14
    try simp only [zs, List.length_map] at q14
    refine pcond_t (.t .here) h14 ?_
    refine awp_seq ?_
    refine awp_region ?_
    refine lv (.plain rfl) rfl rfl (opv_assign rfl (Ev.eq .i)) ?_
    refine awpL_nil ?_
    refine awp_ret ?_
    refine ret_now (.one (rv_t .here)) (Cast.all _ _) ?_
    refine ⟨congrArg (fun x => AV.d (D.i .i64 x)) ?_, rfl⟩
    have hp : pos < s.size := by omega
    obtain ⟨f', rfl⟩ : ∃ f', f = f' + 1 := ⟨f - 1, by omega⟩
    have h1 := runes_bad hp (by omega) hR
    exact (runesF_neg s s.size 0 h1).symm
   ·
    have q14 := h14
    try simp only [zs, List.length_map] at q14
    refine pcond_f (.t .here) h14 ?_
    refine awp_skip ?_
    refine awp_seq ?_
    refine awp_region ?_
    refine lv (.plain rfl) rfl rfl (opv_move rfl (Ev.eq (.t (.n 4 12 rfl)))) ?_
    refine lv (.plain rfl) rfl rfl (opv_move rfl (Ev.eq (.t (.n 5 3 rfl)))) ?_
    have hwl := widR_le s pos
    refine lv (.plain rfl) rfl rfl (opv_add rfl (Ev.eq (.t (.n 15 1 rfl))) (Ev.eq (.t .here)) (wr64 (by omega) (by omega)) rfl) ?_
    refine lv (.plain rfl) rfl rfl (opv_assign rfl (Ev.eq (.t .here))) ?_
    refine awpL_nil ?_
    refine awp_region ?_
    refine lv (.plain rfl) rfl rfl (opv_move rfl (Ev.eq (.t (.n 3 15 rfl)))) ?_
    refine lv (.plain rfl) rfl rfl (opv_add rfl (Ev.eq (.t .here)) (Ev.eq .i) (wr64 (by omega) (by omega)) rfl) ?_
    refine lv (.plain rfl) rfl rfl (opv_assign rfl (Ev.eq (.t .here))) ?_
    refine awpL_nil ?_
    have hp : pos < s.size := by omega
    have hw0 : widR s pos ≠ 0 := by omega
    obtain ⟨f', rfl⟩ : ∃ f', f = f' + 1 := ⟨f - 1, by omega⟩
    refine ⟨(pos + widR s pos, k + 1), by dsimp only; omega, ⟨by dsimp only; omega, by dsimp only; omega, f', by dsimp only; omega, by dsimp only; exact runes_go (p := 0) hp rfl hw0 hR⟩, weak_both (.ce (.n 0 17 rfl) (by first | rfl | (simp; done) | (simp; omega)) (.ce .here (by first | rfl | (simp; done) | (simp; omega)) (.ce (.n 4 3 rfl) (by first | rfl | (simp; done) | (simp; omega)) .nil))) (List.Sublist.refl _)⟩
  ·
   have q9 := h9
   try simp only [zs, List.length_map] at q9
   refine pcond_f (.t .here) h9 ?_
   refine awp_exit ?_
   refine awp_seq ?_
   refine awp_region ?_
   refine lv (.plain rfl) rfl rfl (opv_move rfl (Ev.eq (.t (.n 3 5 rfl)))) ?_
   refine lv (.plain rfl) rfl rfl (opv_assign rfl (Ev.eq (.t .here))) ?_
   refine awpL_nil ?_
   refine awp_ret ?_
   refine ret_now (.one (rv_t .here)) (Cast.all _ _) ?_
   refine ⟨congrArg (fun x => AV.d (D.i .i64 x)) ?_, rfl⟩
   cases f with
   | zero => simp only [runesF] at hR; omega
   | succ f => rw [runesF, if_pos (by omega)] at hR; omega
end Go.Proofs.YtjnkbmodcddbkaaDoor
