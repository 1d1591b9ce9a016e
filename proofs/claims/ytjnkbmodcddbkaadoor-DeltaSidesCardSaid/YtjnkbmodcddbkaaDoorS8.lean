/- Delete, Insert. -/
import Derived.Test.YtjnkbmodcddbkaaDoorTy
import Derived.Test.YtjnkbmodcddbkaaDoorS7
set_option linter.unusedVariables false
set_option linter.unusedSimpArgs false
namespace Go.Proofs.YtjnkbmodcddbkaaDoor
open Go Go.RowKit
theorem del_rows {α : Type} {rows : List α} {i : Nat} {z : α} (hi : i < rows.length) : (putRows (putRows rows i ((rows.drop (i + 1)).take (rows.length - (i + 1)))) (rows.length - 1) (List.replicate 1 z)).take (rows.length - 1) = rows.take i ++ rows.drop (i + 1) := by
  have e1 : (rows.drop (i + 1)).take (rows.length - (i + 1)) = rows.drop (i + 1) := List.take_of_length_le (by simp)
  rw [e1]
  have e2 : (rows.take i ++ rows.drop (i + 1)).length = rows.length - 1 := by simp; omega
  unfold putRows
  rw [List.take_append_of_le_length (by simp; omega), List.take_append_of_le_length (by simp; omega), List.take_take, Nat.min_self, List.take_append_of_le_length (by rw [e2]; exact Nat.le_refl _), ← e2, List.take_length]
theorem f92_own (rows : List (List AV)) (g cap i : Nat) (hi : i < rows.length) (hc : rows.length ≤ cap) (hb : rows.length ≤ 1000000000) (h1 : ∀ r, r ∈ rows → ∀ x, x ∈ r → x.one = true) (hs : ∀ r, r ∈ rows → r.length = 3) : ACalls Tryd.prog 92 [.own g 0 rows.length cap, .d (.i .i64 (i : Int)), .d (.i .i64 ((i : Int) + 1))] [(g, .arr 25 3 rows cap)]
    (fun r h' => ∃ acc, acc.rows = rows.take i ++ rows.drop (i + 1) ∧ r = accV acc ∧ h' = accH 25 3 acc) := by
  refine acalls_of Tryd.func92 rfl Tryd.ntmps92 Tryd.results92 (by simp) ?_
  have hti : ((i : Int) + 1).toNat = i + 1 := by omega
  have hti2 : ((i : Int)).toNat = i := by omega
  refine awp_seq ?_
  refine awp_region ?_
  refine lv (.plain rfl) rfl rfl (opv_assign rfl (Ev.eq .n)) ?_
  refine awpL_nil ?_
  refine awp_seq ?_
  refine awp_region ?_
  refine lv (.plain rfl) rfl rfl (opv_move rfl (Ev.eq (.t (.n 0 1 rfl)))) ?_
  refine lv (.plain rfl) rfl rfl (opv_move rfl (Ev.eq (.t (.n 1 3 rfl)))) ?_
  refine lv (.plain rfl) rfl rfl (opv_move rfl (Ev.eq (.t (.n 2 5 rfl)))) ?_
  refine lv (.plain rfl) rfl rfl (opv_move rfl (Ev.eq (.t (.n 0 4 rfl)))) ?_
  refine lv (.plain rfl) rfl rfl (opv_len_own Tryd.underlying23 rfl (Ev.eq (.t .here)) rfl) ?_
  refine lv (.plain rfl) rfl rfl (p_slice3 slT23 rfl (Ev.eq (.t (.n 8 4 rfl))) (Ev.eq (.t (.n 9 3 rfl))) (Ev.eq (.t (.n 10 2 rfl))) (Ev.eq (.t .here)) (by omega) (by omega) (by omega) (by omega)) ?_
  refine awpL_nil ?_
  refine awp_seq ?_
  refine awp_seq ?_
  refine awp_region ?_
  refine lv (.plain rfl) rfl rfl (opv_move rfl (Ev.eq (.t (.n 1 8 rfl)))) ?_
  refine lv (.plain rfl) rfl rfl (opv_move rfl (Ev.eq (.t (.n 2 10 rfl)))) ?_
  refine lv (.plain rfl) rfl rfl (opv_eql_i rfl (Ev.eq (.t (.n 14 1 rfl))) (Ev.eq (.t .here)) rfl) ?_
  refine awpL_nil ?_
  refine psplit .here (fun h16 => ?_) (fun h16 => ?_)
  ·
   have q16 := h16
   try simp only [zs, List.length_map] at q16
   refine pcond_t (.t .here) h16 ?_
   refine awp_seq ?_
   refine awp_region ?_
   refine lv (.plain rfl) rfl rfl (opv_move rfl (Ev.eq (.t (.n 0 10 rfl)))) ?_
   refine lv (.plain rfl) rfl rfl (opv_assign rfl (Ev.eq (.t .here))) ?_
   refine awpL_nil ?_
   refine awp_ret ?_
   exfalso
   omega
  ·
   have q16 := h16
   try simp only [zs, List.length_map] at q16
   refine pcond_f (.t .here) h16 ?_
   refine awp_skip ?_
   refine awp_seq ?_
   refine awp_region ?_
   refine lv (.plain rfl) rfl rfl (opv_move rfl (Ev.eq (.t (.n 0 10 rfl)))) ?_
   refine lv (.plain rfl) rfl rfl (opv_len_own Tryd.underlying23 rfl (Ev.eq (.t .here)) rfl) ?_
   refine lv (.plain rfl) rfl rfl (opv_assign rfl (Ev.eq (.t .here))) ?_
   refine awpL_nil ?_
   refine awp_seq ?_
   refine g_draw mixed kb_nil (by kernel_rfl) (fuel := 8) rfl rfl ?_
   refine g_v (listed' := bs 8 1) 0 rfl (by kernel_rfl) rfl (fun _ => .plain rfl) rfl (fun _ hK => opv_move rfl (Ev.eq (.t (.n 0 13 rfl)))) kb_nil ?_
   refine g_v (listed' := bs 8 3) 1 rfl (by kernel_rfl) rfl (fun _ => .plain rfl) rfl (fun _ hK => opv_move rfl (Ev.eq (.t (.n 1 15 rfl)))) kb_nil ?_
   refine g_v (listed' := bs 8 7) 2 rfl (by kernel_rfl) rfl (fun _ => .plain rfl) rfl (fun _ hK => p_slice_own slT23 rfl (Ev.eq (.t (.n 20 1 rfl))) rfl ⟨_, (Ev.eq (.t .here))⟩ (l := 0) (u := (i : Int)) (off' := 0) (len' := i) (c' := cap) (by omega) (by omega) (by omega) (by simp) (by omega) (by simp)) kb_nil ?_
   refine g_v (listed' := bs 8 15) 3 rfl (by kernel_rfl) rfl (fun _ => .plain rfl) rfl (fun _ hK => opv_move rfl (Ev.eq (.t (.n 0 16 rfl)))) kb_nil ?_
   refine g_v (listed' := bs 8 31) 4 rfl (by kernel_rfl) rfl (fun _ => .plain rfl) rfl (fun _ hK => opv_move rfl (Ev.eq (.t (.n 2 19 rfl)))) kb_nil ?_
   refine g_v (listed' := bs 8 63) 5 rfl (by kernel_rfl) rfl (fun _ => .plain rfl) rfl (fun _ hK => p_slice_own slT23 rfl (Ev.eq (.t (.n 23 1 rfl))) ⟨_, (Ev.eq (.t .here))⟩ rfl (l := ((i : Int) + 1)) (u := ((rows.length : Nat) : Int)) (off' := if cap = i + 1 then 0 else (i + 1) * 3) (len' := rows.length - (i + 1)) (c' := cap - (i + 1)) (by omega) (by omega) (by omega) (by rw [hti]; simp) (by rw [hti]; omega) (by rw [hti])) kb_nil ?_
   refine g_xd (listed' := bs 8 127) 6 (by kernel_rfl) rfl rfl (.plain rfl) rfl (x_append_room (idx := 0) (rows := rows) (nrows := (rows.drop (i + 1)).take (rows.length - (i + 1))) (i := i) (m := rows.length - (i + 1)) apT23 rfl (Ev.eq (.t (.n 22 3 rfl))) (fun X w hR => by rw [(Ev.eq (.t .here))]; exact news_part (j := i + 1) hR (.head _) (fun h0 => by rw [if_neg (by omega)]) (by omega) (fun r hr => h1 r (List.mem_of_mem_drop (List.mem_of_mem_take hr)))) (fun r hr => hs r (List.mem_of_mem_drop (List.mem_of_mem_take hr))) (by simp) rfl (by omega) (by omega)) ?_
   rintro _ _ ⟨rfl, rfl⟩
   dsimp only [List.set_cons_zero]
   refine ⟨kb_nil, ?_⟩
   refine g_v (listed' := bs 8 255) 7 rfl (by kernel_rfl) rfl (fun _ => .plain rfl) rfl (fun _ hK => opv_assign rfl (Ev.eq (.t .here))) kb_nil ?_
   refine g_end (by kernel_rfl) ?_
   refine awp_seq ?_
   refine awp_region ?_
   refine lv (.plain rfl) rfl rfl (opv_move rfl (Ev.eq (.t .here))) ?_
   refine lv (.plain rfl) rfl rfl (opv_move rfl (Ev.eq (.t (.n 0 1 rfl)))) ?_
   refine lv (.plain rfl) rfl rfl (opv_len_own Tryd.underlying23 rfl (Ev.eq (.t .here)) rfl) ?_
   refine lv (.plain rfl) rfl rfl (opv_move rfl (Ev.eq (.t (.n 7 11 rfl)))) ?_
   refine lv (.plain rfl) rfl rfl (p_slice_own slT23 rfl (Ev.eq (.t (.n 27 3 rfl))) ⟨_, (Ev.eq (.t (.n 29 1 rfl)))⟩ ⟨_, (Ev.eq (.t .here))⟩ (l := ((i + (rows.length - (i + 1)) : Nat) : Int)) (u := ((rows.length : Nat) : Int)) (off' := (rows.length - 1) * 3) (len' := 1) (c' := cap - (rows.length - 1)) (by omega) (by omega) (by omega) (by rw [if_neg (by omega), show ((i + (rows.length - (i + 1)) : Nat) : Int).toNat = rows.length - 1 by omega]; omega) (by omega) (by omega)) ?_
   refine l_x0 (.plain rfl) rfl (x_clear (idx := 0) (i := rows.length - 1) (m := 1) slT23 zT25 rfl rfl rfl (Ev.eq (.t .here)) rfl (fun _ => rfl) (by rw [putRows_len (by omega)]; simp; omega) (by omega)) ?_
   rintro _ _ rfl
   dsimp only [List.set_cons_zero]
   refine awpL_nil ?_
   refine awp_seq ?_
   refine awp_region ?_
   refine lv (.plain rfl) rfl rfl (opv_move rfl (Ev.eq (.t (.n 0 5 rfl)))) ?_
   refine lv (.plain rfl) rfl rfl (opv_assign rfl (Ev.eq (.t .here))) ?_
   refine awpL_nil ?_
   refine awp_ret ?_
   have hfin := del_rows (z := [.d (.s ⟨#[]⟩), .nil, .nil]) hi
   refine ret_now (.one (rv_t .here)) (Cast.arr (k := rows.length - 1) (len' := (rows.take i ++ rows.drop (i + 1)).length) (by rw [putRows_len (by rw [putRows_len (by omega)]; simp; omega), putRows_len (by omega)]; omega) hfin (by simp; omega)) ?_
   exact ⟨.at g cap (rows.take i ++ rows.drop (i + 1)), rfl, rfl, rfl⟩
theorem ins_new {rows : List (List AV)} {row z : List AV} {i : Nat} (hi : i < rows.length) : (Acc.at 0 0 (putRows (putRows (rows.take i ++ List.replicate (rows.length + 1 - i) z) i [row]) (i + 1) ((rows.drop i).take (rows.length - i)))).rows = rows.take i ++ [row] ++ rows.drop i := by
  have e1 : (rows.drop i).take (rows.length - i) = rows.drop i := List.take_of_length_le (by simp)
  have e2 : (rows.take i).length = i := by simp; omega
  have e3 : (rows.take i ++ [row]).length = i + 1 := by simp; omega
  simp only [Acc.rows]
  rw [e1]
  unfold putRows
  have e4 : (rows.take i ++ List.replicate (rows.length + 1 - i) z).take i = rows.take i := by rw [List.take_append_of_le_length (by omega), List.take_of_length_le (by omega)]
  rw [e4]
  rw [List.take_append_of_le_length (by omega), List.take_of_length_le (l := rows.take i ++ [row]) (by omega)]
  have e6 : (rows.take i ++ [row] ++ (rows.take i ++ List.replicate (rows.length + 1 - i) z).drop (i + [row].length)).drop (i + 1 + (rows.drop i).length) = [] := List.drop_eq_nil_of_le (by simp; omega)
  rw [e6, List.append_nil]
theorem ins_room {rows : List (List AV)} {row : List AV} {i : Nat} (hi : i < rows.length) : (Acc.at 0 0 (putRows (putRows rows (i + 1) ((rows.drop i).take (rows.length - i))) i [row])).rows = rows.take i ++ [row] ++ rows.drop i := by
  have e1 : (rows.drop i).take (rows.length - i) = rows.drop i := List.take_of_length_le (by simp)
  have e3 : (rows.take (i + 1)).length = i + 1 := by simp; omega
  simp only [Acc.rows]
  rw [e1]
  unfold putRows
  have e6 : rows.drop (i + 1 + (rows.drop i).length) = [] := List.drop_eq_nil_of_le (by simp; omega)
  rw [e6, List.append_nil]
  rw [List.take_append_of_le_length (by omega), List.take_take, Nat.min_eq_left (by omega)]
  have e5 : (rows.take (i + 1) ++ rows.drop i).drop (i + [row].length) = rows.drop i := by
    rw [show i + [row].length = (rows.take (i + 1)).length by rw [e3]; rfl, List.drop_left]
  rw [e5]
theorem hov : ∀ args w, (callFunc 105 args).run Tryd.prog w = ((Extern.SlicesOverlaps.overlaps #[23, 23] #[4] args).run Tryd.prog w).andThen fun v w' => .ok (.value v) w' := fun args w => run_callFunc_extern Tryd.func105 (by kernel_rfl) (by kernel_rfl) (by kernel_rfl) (by kernel_rfl) args w
theorem f88_at (rows : List (List AV)) (row : List AV) (g g2 cap i : Nat) (hne : g2 ≠ g) (hi : i ≤ rows.length) (hc : rows.length ≤ cap) (hb : rows.length ≤ 1000000000) (h1 : ∀ r, r ∈ rows → ∀ x, x ∈ r → x.one = true) (hs : ∀ r, r ∈ rows → r.length = 3) (hr1 : ∀ x, x ∈ row → x.one = true) (hr2 : row.length = 3) :
    ACalls Tryd.prog 88 [.own g 0 rows.length cap, .d (.i .i64 (i : Int)), .own g2 0 1 1] [(g2, .arr 25 3 [row] 1), (g, .arr 25 3 rows cap)] (fun r h' => ∃ acc, acc.rows = rows.take i ++ [row] ++ rows.drop i ∧ r = accV acc ∧ h' = accH 25 3 acc) := by
  refine acalls_of Tryd.func88 rfl Tryd.ntmps88 Tryd.results88 (by simp) ?_
  refine awp_seq ?_
  refine awp_region ?_
  refine lv (.plain rfl) rfl rfl (opv_assign rfl (Ev.eq .n)) ?_
  refine awpL_nil ?_
  refine awp_seq ?_
  refine awp_region ?_
  refine lv (.plain rfl) rfl rfl (opv_move rfl (Ev.eq (.t (.n 0 1 rfl)))) ?_
  refine lv (.plain rfl) rfl rfl (opv_move rfl (Ev.eq (.t (.n 1 3 rfl)))) ?_
  refine lv (.plain rfl) rfl rfl (p_slice_own slT23 rfl (Ev.eq (.t (.n 10 1 rfl))) ⟨_, (Ev.eq (.t .here))⟩ rfl (l := (i : Int)) (u := (rows.length : Int)) (off' := if cap = ((i : Int)).toNat then 0 else 0 + ((i : Int)).toNat * 3) (len' := rows.length - i) (c' := cap - i) (by omega) (by omega) (by omega) rfl (by omega) (by omega)) ?_
  refine awpL_nil ?_
  refine awp_seq ?_
  refine awp_region ?_
  refine lv (.plain rfl) rfl rfl (opv_move rfl (Ev.eq (.t (.n 2 6 rfl)))) ?_
  refine lv (.plain rfl) rfl rfl (opv_len_own Tryd.underlying23 rfl (Ev.eq (.t .here)) rfl) ?_
  refine lv (.plain rfl) rfl rfl (opv_assign rfl (Ev.eq (.t .here))) ?_
  refine awpL_nil ?_
  refine awp_seq ?_
  refine awp_seq ?_
  refine awp_region ?_
  refine lv (.plain rfl) rfl rfl (opv_move rfl (Ev.eq (.t .here))) ?_
  refine lv (.plain rfl) rfl rfl (opv_eql_i rfl (Ev.eq (.t .here)) (Ev.eq .i) rfl) ?_
  refine awpL_nil ?_
  refine psplit .here (fun h16 => ?_) (fun h16 => ?_)
  ·
   have q16 := h16
   try simp only [zs, List.length_map] at q16
   refine pcond_t (.t .here) h16 ?_
   refine awp_seq ?_
   refine awp_region ?_
   refine lv (.plain rfl) rfl rfl (opv_move rfl (Ev.eq (.t (.n 0 9 rfl)))) ?_
   refine lv (.plain rfl) rfl rfl (opv_assign rfl (Ev.eq (.t .here))) ?_
   refine awpL_nil ?_
   refine awp_ret ?_
   exfalso
   omega
  ·
   have q16 := h16
   try simp only [zs, List.length_map] at q16
   refine pcond_f (.t .here) h16 ?_
   refine awp_skip ?_
   refine awp_seq ?_
   refine awp_region ?_
   refine lv (.plain rfl) rfl rfl (opv_move rfl (Ev.eq (.t (.n 0 9 rfl)))) ?_
   refine lv (.plain rfl) rfl rfl (opv_len_own Tryd.underlying23 rfl (Ev.eq (.t .here)) rfl) ?_
   refine lv (.plain rfl) rfl rfl (opv_assign rfl (Ev.eq (.t .here))) ?_
   refine awpL_nil ?_
   refine awp_seq ?_
   refine awp_seq ?_
   refine awp_region ?_
   refine lv (.plain rfl) rfl rfl (opv_move rfl (Ev.eq (.t (.n 1 13 rfl)))) ?_
   refine lv (.plain rfl) rfl rfl (opv_move rfl (Ev.eq (.t (.n 8 1 rfl)))) ?_
   refine lv (.plain rfl) rfl rfl (opv_eql_i rfl (Ev.eq (.t (.n 20 1 rfl))) (Ev.eq (.t .here)) rfl) ?_
   refine awpL_nil ?_
   refine psplit .here (fun h22 => ?_) (fun h22 => ?_)
   ·
    have q22 := h22
    try simp only [zs, List.length_map] at q22
    refine pcond_t (.t .here) h22 ?_
    refine awp_seq ?_
    refine awp_region ?_
    refine lv (.plain rfl) rfl rfl (opv_move rfl (Ev.eq (.t (.n 0 15 rfl)))) ?_
    refine lv (.plain rfl) rfl rfl (opv_move rfl (Ev.eq (.t (.n 2 18 rfl)))) ?_
    refine l_xd (.plain rfl) rfl rfl (x_append (acc := .at g cap rows) (rows := [_]) (hf := [_]) apT23 rfl (.t (.n 23 1 rfl)) (.t .here) rfl (.head _) (by simp only [List.all_cons, List.all_nil, Bool.and_true]; exact List.all_eq_true.2 hr1) (by simp [hr2]) (by simp [Acc.rows]; omega)) ?_
    rintro _ _ ⟨acc, hacc, rfl, rfl⟩
    dsimp only [List.cons_append, List.nil_append]
    refine lv (.plain rfl) rfl rfl (opv_assign rfl (Ev.eq (.t .here))) ?_
    refine awpL_nil ?_
    refine awp_ret ?_
    refine ret_now (.one (rv_t .here)) (Cast.drop _ (.cons _ (List.Sublist.refl _))) ?_
    exact ⟨acc, by rw [hacc, show i = rows.length by omega]; simp [Acc.rows], rfl, rfl⟩
   ·
    have q22 := h22
    try simp only [zs, List.length_map] at q22
    refine pcond_f (.t .here) h22 ?_
    refine awp_skip ?_
    refine awp_seq ?_
    refine awp_seq ?_
    refine awp_region ?_
    refine lv (.plain rfl) rfl rfl (opv_move rfl (Ev.eq (.t (.n 8 3 rfl)))) ?_
    refine lv (.plain rfl) rfl rfl (opv_move rfl (Ev.eq (.t (.n 7 9 rfl)))) ?_
    refine lv (.plain rfl) rfl rfl (opv_add rfl (Ev.eq (.t (.n 26 1 rfl))) (Ev.eq (.t .here)) (wr64 (by omega) (by omega)) rfl) ?_
    refine lv (.plain rfl) rfl rfl (opv_move rfl (Ev.eq (.t (.n 0 18 rfl)))) ?_
    refine lv (.plain rfl) rfl rfl (q_cap_own Tryd.underlying23 rfl (Ev.eq (.t .here))) ?_
    refine lv (.plain rfl) rfl rfl (opv_gtr rfl (Ev.eq (.t (.n 28 2 rfl))) (Ev.eq (.t .here)) rfl) ?_
    refine awpL_nil ?_
    refine psplit .here (fun h31 => ?_) (fun h31 => ?_)
    ·
     have q31 := h31
     try simp only [zs, List.length_map] at q31
     refine pcond_t (.t .here) h31 ?_
     refine awp_seq ?_
     refine awp_region ?_
     refine lv (.plain rfl) rfl rfl (opv_move rfl (Ev.eq (.t (.n 0 21 rfl)))) ?_
     refine lv (.plain rfl) rfl rfl (opv_move rfl (Ev.eq (.t (.n 1 23 rfl)))) ?_
     refine lv (.plain rfl) rfl rfl (p_slice_own slT23 rfl (Ev.eq (.t (.n 32 1 rfl))) rfl ⟨_, (Ev.eq (.t .here))⟩ (l := 0) (u := (i : Int)) (off' := 0) (len' := i) (c' := cap) (by omega) (by omega) (by omega) (by simp) (by omega) (by simp)) ?_
     refine lv (.plain rfl) rfl rfl (opv_move rfl (Ev.eq (.t (.n 8 12 rfl)))) ?_
     refine lv (.plain rfl) rfl rfl (opv_move rfl (Ev.eq (.t (.n 7 18 rfl)))) ?_
     refine lv (.plain rfl) rfl rfl (opv_add rfl (Ev.eq (.t (.n 35 1 rfl))) (Ev.eq (.t .here)) (wr64 (by omega) (by omega)) rfl) ?_
     refine lv (.plain rfl) rfl rfl (opv_move rfl (Ev.eq (.t (.n 1 28 rfl)))) ?_
     refine lv (.plain rfl) rfl rfl (opv_sub rfl (Ev.eq (.t (.n 37 1 rfl))) (Ev.eq (.t .here)) (show IntKind.i64.wrap (((rows.length : Nat) : Int) + ((1 : Nat) : Int) - (i : Int)) = ((rows.length + 1 - i : Nat) : Int) by rw [wr64 (by omega) (by omega)]; omega) rfl) ?_
     refine l_xd (.plain rfl) rfl rfl (x_append_zeros (idx := 1) (k := rows.length + 1 - i) apT23 Tryd.underlying3 zT25 rfl rfl (Ev.eq (.t (.n 34 5 rfl))) (Ev.eq (.t .here)) (by omega) rfl (by omega) (by omega) (by omega)) ?_
     rintro _ _ ⟨g3, c3, n3, hc3, rfl, rfl⟩
     rw [show i + (rows.length + 1 - i) = rows.length + 1 by omega] at *
     refine lv (.plain rfl) rfl rfl (opv_assign rfl (Ev.eq (.t .here))) ?_
     refine awpL_nil ?_
     refine awp_seq ?_
     refine awp_region ?_
     refine lv (.plain rfl) rfl rfl (opv_move rfl (Ev.eq (.t .here))) ?_
     refine lv (.plain rfl) rfl rfl (opv_move rfl (Ev.eq (.t (.n 1 33 rfl)))) ?_
     refine lv (.plain rfl) rfl rfl (p_slice_own slT23 rfl (Ev.eq (.t (.n 41 1 rfl))) ⟨_, (Ev.eq (.t .here))⟩ rfl (l := (i : Int)) (u := ((rows.length + 1 : Nat) : Int)) (off' := i * 3) (len' := rows.length + 1 - i) (c' := c3 - i) (by omega) (by omega) (by omega) (by first | (rw [if_neg (by omega)]; omega) | omega) (by omega) (by omega)) ?_
     refine lv (.plain rfl) rfl rfl (opv_move rfl (Ev.eq (.t (.n 2 36 rfl)))) ?_
     refine l_xd (.plain rfl) rfl rfl (x_copy (idx := 0) (i := i) (m := 1) (q := 1) (nrows := [row]) slT23 rfl (Ev.eq (.t (.n 43 1 rfl))) (fun X w hR => by rw [(Ev.eq (.t .here))]; exact newsk_part (rows := [row]) (j := 0) hR (.tail _ (.head _)) (fun _ => rfl) (by simp) (by intro r hr; simp at hr; subst hr; exact hr1)) (fun r hr => by first | exact hs r (List.mem_of_mem_drop (List.mem_of_mem_take hr)) | (simp at hr; subst hr; exact hr2)) (by first | rfl | (simp; done) | (simp; omega)) (by show min _ _ = _; omega) rfl (fun _ => by first | rfl | omega | (rw [if_neg (by omega)])) (by first | omega | (simp [putRows]; omega)) (by omega)) ?_
     rintro _ _ ⟨rfl, rfl⟩
     dsimp only [List.set_cons_zero, List.set_cons_succ]
     refine awpL_nil ?_
     refine awp_seq ?_
     refine g_draw mixed kb_nil (by kernel_rfl) (fuel := 9) rfl rfl ?_
     refine g_v (listed' := bs 9 1) 0 rfl (by kernel_rfl) rfl (fun _ => .plain rfl) rfl (fun _ hK => opv_move rfl (Ev.eq (.t (.n 9 5 rfl)))) kb_nil ?_
     refine g_v (listed' := bs 9 3) 1 rfl (by kernel_rfl) rfl (fun _ => .plain rfl) rfl (fun _ hK => opv_move rfl (Ev.eq (.t (.n 1 38 rfl)))) kb_nil ?_
     refine g_v (listed' := bs 9 7) 2 rfl (by kernel_rfl) rfl (fun _ => .plain rfl) rfl (fun _ hK => opv_move rfl (Ev.eq (.t (.n 7 31 rfl)))) kb_nil ?_
     refine g_v (listed' := bs 9 15) 3 rfl (by kernel_rfl) rfl (fun _ => .plain rfl) rfl (fun _ hK => opv_add rfl (Ev.eq (.t (.n 47 1 rfl))) (Ev.eq (.t .here)) (wr64 (by omega) (by omega)) rfl) kb_nil ?_
     refine g_v (listed' := bs 9 31) 4 rfl (by kernel_rfl) rfl (fun _ => .plain rfl) rfl (fun _ hK => p_slice_own slT23 rfl (Ev.eq (.t (.n 46 3 rfl))) ⟨_, (Ev.eq (.t .here))⟩ rfl (l := ((i : Int) + 1)) (u := ((rows.length + 1 : Nat) : Int)) (off' := if c3 = i + 1 then 0 else (i + 1) * 3) (len' := rows.length - i) (c' := c3 - (i + 1)) (by omega) (by omega) (by omega) (by rw [show ((i : Int) + 1).toNat = i + 1 by omega]; simp) (by omega) (by omega)) kb_nil ?_
     refine g_v (listed' := bs 9 63) 5 rfl (by kernel_rfl) rfl (fun _ => .plain rfl) rfl (fun _ hK => opv_move rfl (Ev.eq (.t (.n 0 41 rfl)))) kb_nil ?_
     refine g_v (listed' := bs 9 127) 6 rfl (by kernel_rfl) rfl (fun _ => .plain rfl) rfl (fun _ hK => opv_move rfl (Ev.eq (.t (.n 1 43 rfl)))) kb_nil ?_
     refine g_v (listed' := bs 9 255) 7 rfl (by kernel_rfl) rfl (fun _ => .plain rfl) rfl (fun _ hK => p_slice_own slT23 rfl (Ev.eq (.t (.n 51 1 rfl))) ⟨_, (Ev.eq (.t .here))⟩ rfl (l := (i : Int)) (u := (rows.length : Int)) (off' := i * 3) (len' := rows.length - i) (c' := cap - i) (by omega) (by omega) (by omega) (by first | (rw [if_neg (by omega)]; omega) | omega) (by omega) (by omega)) kb_nil ?_
     refine g_xd (listed' := bs 9 511) 8 (by kernel_rfl) rfl rfl (.plain rfl) rfl (x_copy (idx := 0) (i := i + 1) (m := rows.length - i) (q := rows.length - i) (nrows := (rows.drop i).take (rows.length - i)) slT23 rfl (Ev.eq (.t (.n 50 3 rfl))) (fun X w hR => by rw [(Ev.eq (.t .here))]; exact newsk_part (rows := rows) (j := i) hR (.tail _ (.tail _ (.head _))) (fun _ => rfl) (by omega) (fun r hr => h1 r (List.mem_of_mem_drop (List.mem_of_mem_take hr)))) (fun r hr => by first | exact hs r (List.mem_of_mem_drop (List.mem_of_mem_take hr)) | (simp at hr; subst hr; exact hr2)) (by first | rfl | (simp; done) | (simp; omega)) (by show min _ _ = _; omega) rfl (fun _ => by first | rfl | omega | (rw [if_neg (by omega)])) (by first | omega | (simp [putRows]; omega)) (by omega)) ?_
     rintro _ _ ⟨rfl, rfl⟩
     dsimp only [List.set_cons_zero, List.set_cons_succ]
     refine ⟨kb_nil, ?_⟩
     refine g_end (by kernel_rfl) ?_
     refine awp_seq ?_
     refine awp_region ?_
     refine lv (.plain rfl) rfl rfl (opv_move rfl (Ev.eq (.t (.n 9 14 rfl)))) ?_
     refine lv (.plain rfl) rfl rfl (opv_assign rfl (Ev.eq (.t .here))) ?_
     refine awpL_nil ?_
     refine awp_ret ?_
     refine ret_now (.one (rv_t .here)) (Cast.drop _ (.cons_cons _ (.cons _ (.cons _ .slnil)))) ?_
     exact ⟨.at g3 c3 _, ins_new (by omega), by simp [accV, putRows]; omega, rfl⟩
    ·
     have q31 := h31
     try simp only [zs, List.length_map] at q31
     refine pcond_f (.t .here) h31 ?_
     refine awp_skip ?_
     refine awp_seq ?_
     refine awp_region ?_
     refine lv (.plain rfl) rfl rfl (opv_move rfl (Ev.eq (.t (.n 0 21 rfl)))) ?_
     refine lv (.plain rfl) rfl rfl (opv_move rfl (Ev.eq (.t (.n 8 10 rfl)))) ?_
     refine lv (.plain rfl) rfl rfl (opv_move rfl (Ev.eq (.t (.n 7 16 rfl)))) ?_
     refine lv (.plain rfl) rfl rfl (opv_add rfl (Ev.eq (.t (.n 57 1 rfl))) (Ev.eq (.t .here)) (wr64 (by omega) (by omega)) rfl) ?_
     refine lv (.plain rfl) rfl rfl (p_slice_own slT23 rfl (Ev.eq (.t (.n 56 3 rfl))) rfl ⟨_, (Ev.eq (.t .here))⟩ (l := 0) (u := ((rows.length + 1 : Nat) : Int)) (off' := 0) (len' := rows.length + 1) (c' := cap) (by omega) (by omega) (by omega) (by simp) (by omega) (by simp)) ?_
     refine lv (.plain rfl) rfl rfl (opv_assign rfl (Ev.eq (.t .here))) ?_
     refine awpL_nil ?_
     refine awp_seq ?_
     refine awp_seq ?_
     refine awp_region ?_
     refine lv (.plain rfl) rfl rfl (opv_move rfl (Ev.eq (.t (.n 2 29 rfl)))) ?_
     refine lv (.plain rfl) rfl rfl (opv_move rfl (Ev.eq (.t (.n 0 1 rfl)))) ?_
     refine lv (.plain rfl) rfl rfl (opv_move rfl (Ev.eq (.t (.n 1 30 rfl)))) ?_
     refine lv (.plain rfl) rfl rfl (opv_move rfl (Ev.eq (.t (.n 7 23 rfl)))) ?_
     refine lv (.plain rfl) rfl rfl (opv_add rfl (Ev.eq (.t (.n 63 1 rfl))) (Ev.eq (.t .here)) (wr64 (by omega) (by omega)) rfl) ?_
     refine lv (.plain rfl) rfl rfl (p_slice_own slT23 rfl (Ev.eq (.t (.n 62 3 rfl))) ⟨_, (Ev.eq (.t .here))⟩ rfl (l := ((i : Int) + 1)) (u := ((rows.length + 1 : Nat) : Int)) (off' := (i + 1) * 3) (len' := rows.length - i) (c' := cap - (i + 1)) (by omega) (by omega) (by omega) (by first | (rw [if_neg (by omega)]; omega) | omega) (by omega) (by omega)) ?_
     refine lv (.plain rfl) rfl rfl (opv_overlaps (tR := 4) slT23 rfl .f hov (.t (.n 61 5 rfl)) (.t .here) hne (.head _) (.tail _ (.head _)) (by omega)) ?_
     refine lv (.plain rfl) rfl rfl (opv_not rfl (Ev.eq (.t .here)) rfl) ?_
     refine awpL_nil ?_
     refine pcond_t (.t .here) rfl ?_
     refine awp_seq ?_
     refine g_draw mixed kb_nil (by kernel_rfl) (fuel := 9) rfl rfl ?_
     refine g_v (listed' := bs 9 1) 0 rfl (by kernel_rfl) rfl (fun _ => .plain rfl) rfl (fun _ hK => opv_move rfl (Ev.eq (.t (.n 0 8 rfl)))) kb_nil ?_
     refine g_v (listed' := bs 9 3) 1 rfl (by kernel_rfl) rfl (fun _ => .plain rfl) rfl (fun _ hK => opv_move rfl (Ev.eq (.t (.n 1 37 rfl)))) kb_nil ?_
     refine g_v (listed' := bs 9 7) 2 rfl (by kernel_rfl) rfl (fun _ => .plain rfl) rfl (fun _ hK => opv_move rfl (Ev.eq (.t (.n 7 30 rfl)))) kb_nil ?_
     refine g_v (listed' := bs 9 15) 3 rfl (by kernel_rfl) rfl (fun _ => .plain rfl) rfl (fun _ hK => opv_add rfl (Ev.eq (.t (.n 70 1 rfl))) (Ev.eq (.t .here)) (wr64 (by omega) (by omega)) rfl) kb_nil ?_
     refine g_v (listed' := bs 9 31) 4 rfl (by kernel_rfl) rfl (fun _ => .plain rfl) rfl (fun _ hK => p_slice_own slT23 rfl (Ev.eq (.t (.n 69 3 rfl))) ⟨_, (Ev.eq (.t .here))⟩ rfl (l := ((i : Int) + 1)) (u := ((rows.length + 1 : Nat) : Int)) (off' := (i + 1) * 3) (len' := rows.length - i) (c' := cap - (i + 1)) (by omega) (by omega) (by omega) (by first | (rw [if_neg (by omega)]; omega) | omega) (by omega) (by omega)) kb_nil ?_
     refine g_v (listed' := bs 9 63) 5 rfl (by kernel_rfl) rfl (fun _ => .plain rfl) rfl (fun _ hK => opv_move rfl (Ev.eq (.t (.n 0 13 rfl)))) kb_nil ?_
     refine g_v (listed' := bs 9 127) 6 rfl (by kernel_rfl) rfl (fun _ => .plain rfl) rfl (fun _ hK => opv_move rfl (Ev.eq (.t (.n 1 42 rfl)))) kb_nil ?_
     refine g_v (listed' := bs 9 255) 7 rfl (by kernel_rfl) rfl (fun _ => .plain rfl) rfl (fun _ hK => p_slice_own slT23 rfl (Ev.eq (.t (.n 74 1 rfl))) ⟨_, (Ev.eq (.t .here))⟩ rfl (l := (i : Int)) (u := ((rows.length + 1 : Nat) : Int)) (off' := i * 3) (len' := rows.length + 1 - i) (c' := cap - i) (by omega) (by omega) (by omega) (by first | (rw [if_neg (by omega)]; omega) | omega) (by omega) (by omega)) kb_nil ?_
     refine g_xd (listed' := bs 9 511) 8 (by kernel_rfl) rfl rfl (.plain rfl) rfl (x_copy (idx := 1) (i := i + 1) (m := rows.length - i) (q := rows.length + 1 - i) (nrows := (rows.drop i).take (rows.length - i)) slT23 rfl (Ev.eq (.t (.n 73 3 rfl))) (fun X w hR => by rw [(Ev.eq (.t .here))]; exact newsk_part (rows := rows) (j := i) hR (.tail _ (.head _)) (fun _ => rfl) (by omega) (fun r hr => h1 r (List.mem_of_mem_drop (List.mem_of_mem_take hr)))) (fun r hr => by first | exact hs r (List.mem_of_mem_drop (List.mem_of_mem_take hr)) | (simp at hr; subst hr; exact hr2)) (by first | rfl | (simp; done) | (simp; omega)) (by show min _ _ = _; omega) rfl (fun _ => by first | rfl | omega | (rw [if_neg (by omega)])) (by first | omega | (simp [putRows]; omega)) (by omega)) ?_
     rintro _ _ ⟨rfl, rfl⟩
     dsimp only [List.set_cons_zero, List.set_cons_succ]
     refine ⟨kb_nil, ?_⟩
     refine g_end (by kernel_rfl) ?_
     refine awp_seq ?_
     refine awp_region ?_
     refine lv (.plain rfl) rfl rfl (opv_move rfl (Ev.eq (.t (.n 0 17 rfl)))) ?_
     refine lv (.plain rfl) rfl rfl (opv_move rfl (Ev.eq (.t (.n 1 46 rfl)))) ?_
     refine lv (.plain rfl) rfl rfl (p_slice_own slT23 rfl (Ev.eq (.t (.n 78 1 rfl))) ⟨_, (Ev.eq (.t .here))⟩ rfl (l := (i : Int)) (u := ((rows.length + 1 : Nat) : Int)) (off' := i * 3) (len' := rows.length + 1 - i) (c' := cap - i) (by omega) (by omega) (by omega) (by first | (rw [if_neg (by omega)]; omega) | omega) (by omega) (by omega)) ?_
     refine lv (.plain rfl) rfl rfl (opv_move rfl (Ev.eq (.t (.n 2 49 rfl)))) ?_
     refine l_xd (.plain rfl) rfl rfl (x_copy (idx := 1) (i := i) (m := 1) (q := 1) (nrows := [row]) slT23 rfl (Ev.eq (.t (.n 80 1 rfl))) (fun X w hR => by rw [(Ev.eq (.t .here))]; exact newsk_part (rows := [row]) (j := 0) hR (.head _) (fun _ => rfl) (by simp) (by intro r hr; simp at hr; subst hr; exact hr1)) (fun r hr => by first | exact hs r (List.mem_of_mem_drop (List.mem_of_mem_take hr)) | (simp at hr; subst hr; exact hr2)) (by first | rfl | (simp; done) | (simp; omega)) (by show min _ _ = _; omega) rfl (fun _ => by first | rfl | omega | (rw [if_neg (by omega)])) (by first | omega | (simp [putRows]; omega)) (by omega)) ?_
     rintro _ _ ⟨rfl, rfl⟩
     dsimp only [List.set_cons_zero, List.set_cons_succ]
     refine awpL_nil ?_
     refine awp_seq ?_
     refine awp_region ?_
     refine lv (.plain rfl) rfl rfl (opv_move rfl (Ev.eq (.t (.n 0 22 rfl)))) ?_
     refine lv (.plain rfl) rfl rfl (opv_assign rfl (Ev.eq (.t .here))) ?_
     refine awpL_nil ?_
     refine awp_ret ?_
     refine ret_now (.one (rv_t .here)) (Cast.drop _ (.cons _ (List.Sublist.refl _))) ?_
     exact ⟨.at g cap _, ins_room (by omega), by simp [accV, putRows]; omega, rfl⟩
theorem f88_nil (row : List AV) (g2 : Nat) (hr1 : ∀ x, x ∈ row → x.one = true) (hr2 : row.length = 3) :
    ACalls Tryd.prog 88 [.nil, .d (.i .i64 0), .own g2 0 1 1] [(g2, .arr 25 3 [row] 1)] (fun r h' => ∃ acc, acc.rows = [row] ∧ r = accV acc ∧ h' = accH 25 3 acc) := by
  refine acalls_of Tryd.func88 rfl Tryd.ntmps88 Tryd.results88 (by simp) ?_
  refine awp_seq ?_
  refine awp_region ?_
  refine lv (.plain rfl) rfl rfl (opv_assign rfl (Ev.eq .n)) ?_
  refine awpL_nil ?_
  refine awp_seq ?_
  refine awp_region ?_
  refine lv (.plain rfl) rfl rfl (opv_move rfl (Ev.eq (.t (.n 0 1 rfl)))) ?_
  refine lv (.plain rfl) rfl rfl (opv_move rfl (Ev.eq (.t (.n 1 3 rfl)))) ?_
  refine lv (.plain rfl) rfl rfl (p_slice_nil Tryd.underlying23 ⟨_, Tryd.sizeOf25⟩ rfl (Ev.eq (.t (.n 10 1 rfl))) (Ev.eq (.t .here))) ?_
  refine awpL_nil ?_
  refine awp_seq ?_
  refine awp_region ?_
  refine lv (.plain rfl) rfl rfl (opv_move rfl (Ev.eq (.t (.n 2 6 rfl)))) ?_
  refine lv (.plain rfl) rfl rfl (opv_len_own Tryd.underlying23 rfl (Ev.eq (.t .here)) rfl) ?_
  refine lv (.plain rfl) rfl rfl (opv_assign rfl (Ev.eq (.t .here))) ?_
  refine awpL_nil ?_
  refine awp_seq ?_
  refine awp_seq ?_
  refine awp_region ?_
  refine lv (.plain rfl) rfl rfl (opv_move rfl (Ev.eq (.t .here))) ?_
  refine lv (.plain rfl) rfl rfl (opv_eql_i rfl (Ev.eq (.t .here)) (Ev.eq .i) rfl) ?_
  refine awpL_nil ?_
  refine psplit .here (fun h16 => ?_) (fun h16 => ?_)
  ·
   have q16 := h16
   try simp only [zs, List.length_map] at q16
   exfalso
   omega
  ·
   have q16 := h16
   try simp only [zs, List.length_map] at q16
   refine pcond_f (.t .here) h16 ?_
   refine awp_skip ?_
   refine awp_seq ?_
   refine awp_region ?_
   refine lv (.plain rfl) rfl rfl (opv_move rfl (Ev.eq (.t (.n 0 9 rfl)))) ?_
   refine lv (.plain rfl) rfl rfl (opv_len_nil Tryd.underlying23 rfl (Ev.eq (.t .here)) rfl) ?_
   refine lv (.plain rfl) rfl rfl (opv_assign rfl (Ev.eq (.t .here))) ?_
   refine awpL_nil ?_
   refine awp_seq ?_
   refine awp_seq ?_
   refine awp_region ?_
   refine lv (.plain rfl) rfl rfl (opv_move rfl (Ev.eq (.t (.n 1 13 rfl)))) ?_
   refine lv (.plain rfl) rfl rfl (opv_move rfl (Ev.eq (.t (.n 8 1 rfl)))) ?_
   refine lv (.plain rfl) rfl rfl (opv_eql_i rfl (Ev.eq (.t (.n 20 1 rfl))) (Ev.eq (.t .here)) rfl) ?_
   refine awpL_nil ?_
   refine psplit .here (fun h22 => ?_) (fun h22 => ?_)
   ·
    have q22 := h22
    try simp only [zs, List.length_map] at q22
    refine pcond_t (.t .here) h22 ?_
    refine awp_seq ?_
    refine awp_region ?_
    refine lv (.plain rfl) rfl rfl (opv_move rfl (Ev.eq (.t (.n 0 15 rfl)))) ?_
    refine lv (.plain rfl) rfl rfl (opv_move rfl (Ev.eq (.t (.n 2 18 rfl)))) ?_
    refine l_xd (.plain rfl) rfl rfl (x_append (acc := .none) (rows := [_]) (hf := [_]) apT23 rfl (.t (.n 23 1 rfl)) (.t .here) rfl (.head _) (by simp only [List.all_cons, List.all_nil, Bool.and_true]; exact List.all_eq_true.2 hr1) (by simp [hr2]) (by simp [Acc.rows])) ?_
    rintro _ _ ⟨acc, hacc, rfl, rfl⟩
    dsimp only [List.cons_append, List.nil_append]
    refine lv (.plain rfl) rfl rfl (opv_assign rfl (Ev.eq (.t .here))) ?_
    refine awpL_nil ?_
    refine awp_ret ?_
    refine ret_now (.one (rv_t .here)) (Cast.drop _ (.cons _ (List.Sublist.refl _))) ?_
    exact ⟨acc, by rw [hacc]; rfl, rfl, rfl⟩
   ·
    have q22 := h22
    try simp only [zs, List.length_map] at q22
    exfalso
    omega
end Go.Proofs.YtjnkbmodcddbkaaDoor
