/- Going through a tree's entries. -/
import Derived.Test.YtjnkbmodcddbkaaDoorTy
import Derived.Test.YtjnkbmodcddbkaaDoorS10
set_option linter.unusedVariables false
set_option linter.unusedSimpArgs false
namespace Go.Proofs.YtjnkbmodcddbkaaDoor
open Go Go.RowKit
theorem f52_spec (s : ByteArray) : FSpec Tryd.prog 52 [.d (.s s)] (.d (.b true)) := by
  refine acalls_of Tryd.func52 rfl Tryd.ntmps52 Tryd.results52 (by simp) ?_
  refine awp_seq ?_
  refine awp_region ?_
  refine lv (.plain rfl) rfl rfl (opv_assign rfl (Ev.eq .b)) ?_
  refine awpL_nil ?_
  refine awp_seq ?_
  refine awp_region ?_
  refine lv (.plain rfl) rfl rfl (opv_assign rfl (Ev.eq .b)) ?_
  refine awpL_nil ?_
  refine awp_ret ?_
  refine ret_now (.one (rv_t .here)) (Cast.all _ _) ?_
  exact ⟨rfl, rfl⟩
theorem f81_spec (l : ByteArray) (r : List Row) (ks : List Trie) (p : ByteArray) (fa : FuncId) (fc : List (List D)) : FSpec Tryd.prog 81 [.agg [.d (.s l), .d (dRows r), .d (.sl (encTries ks))], .d (.s p), .d (.fn fa fc)] (.d (.fn 102 [[.s p], [.s l, dRows r, .sl (encTries ks)], [.fn fa fc]])) := by
  refine acalls_of Tryd.func81 rfl Tryd.ntmps81 Tryd.results81 (by simp) ?_
  refine awp_seq ?_
  refine awp_region ?_
  refine l_box (.plain rfl) rfl rfl rfl (.t .here) rfl rfl (fun g1 ng1 => ?_)
  refine l_box (.plain rfl) rfl rfl rfl (.t (.n 1 2 rfl)) rfl rfl (fun g2 ng2 => ?_)
  refine l_box (.plain rfl) rfl rfl rfl (.t (.n 2 4 rfl)) rfl rfl (fun g3 ng3 => ?_)
  refine lv (.plain rfl) rfl rfl (opv_assign rfl rfl) ?_
  refine awpL_nil ?_
  refine awp_seq ?_
  refine awp_region ?_
  refine lv (.plain rfl) rfl rfl (q_makeFunc rfl (.cons (.t (.n 4 2 rfl)) (.cons (.t (.n 3 3 rfl)) (.cons (.t (.n 5 1 rfl)) .nil)))) ?_
  refine lv (.plain rfl) rfl rfl (opv_assign rfl (Ev.eq (.t .here))) ?_
  refine awpL_nil ?_
  refine awp_ret ?_
  refine ret_now (.one (rv_t .here)) (Cast.frz0 (.fn (.ptr (cs := [.s p]) (.tail _ (.head _)) (.cons .refl .nil) (.ptr (cs := [.s l, dRows r, .sl (encTries ks)]) (.tail _ (.tail _ (.head _))) (.cons .refl (.cons .refl (.cons .refl .nil))) (.ptr (cs := [.fn fa fc]) (.head _) (.cons .refl .nil) .nil))))) ?_
  exact ⟨rfl, rfl⟩
mutual
def walkE (al : ByteArray → Bool) : Trie → ByteArray → List Ent
  | .mk l r ks, p => if al (p ++ l) then (if r = [] then [] else [⟨p ++ l, r⟩]) ++ walkL al ks (p ++ l) else []
def walkL (al : ByteArray → Bool) : List Trie → ByteArray → List Ent
  | [], _ => []
  | t :: r, p => walkE al t p ++ walkL al r p
end
theorem walkL_append (al : ByteArray → Bool) : ∀ (a b : List Trie) (p : ByteArray), walkL al (a ++ b) p = walkL al a p ++ walkL al b p
  | [], b, p => by simp [walkL]
  | t :: a, b, p => by simp [walkL, walkL_append al a b p]
theorem walkL_take {al : ByteArray → Bool} {ks : List Trie} {i : Nat} {t : Trie} {p : ByteArray} (h : ks[i]? = some t) : walkL al (ks.take (i + 1)) p = walkL al (ks.take i) p ++ walkE al t p := by
  rw [List.take_add_one, h, walkL_append]
  simp [walkL]
theorem walkL_at {al : ByteArray → Bool} {ks : List Trie} {i j : Nat} {t : Trie} {p : ByteArray} {e : Ent} (h : ks[i]? = some t) (he : (walkE al t p)[j]? = some e) : (walkL al ks p)[(walkL al (ks.take i) p).length + j]? = some e := by
  have e1 : walkL al ks p = walkL al (ks.take i) p ++ (walkE al t p ++ walkL al (ks.drop (i + 1)) p) := by
    conv => lhs; rw [split_at h]
    rw [walkL_append]
    rfl
  rw [e1, List.getElem?_append_right (by omega), Nat.add_sub_cancel_left, List.getElem?_append_left (List.getElem?_eq_some_iff.1 he).1]
  exact he
mutual
theorem walkE_len (al : ByteArray → Bool) : ∀ (t : Trie) (p : ByteArray), (walkE al t p).length ≤ t.cnt
  | .mk l r ks, p => by
    have := walkL_len al ks (p ++ l)
    simp only [walkE, Trie.cnt]
    split
    · rw [List.length_append]
      split <;> simp <;> omega
    · simp
theorem walkL_len (al : ByteArray → Bool) : ∀ (l : List Trie) (p : ByteArray), (walkL al l p).length ≤ cntL l
  | [], p => by simp [walkL, cntL]
  | t :: r, p => by
    have h1 := walkE_len al t p
    have h2 := walkL_len al r p
    simp only [walkL, cntL, List.length_append]
    omega
end
mutual
theorem walkE_all : ∀ (t : Trie) (p : ByteArray), walkE (fun _ => true) t p = t.ents p
  | .mk l r ks, p => by rw [walkE, if_pos rfl, walkL_all ks (p ++ l), Trie.ents]
theorem walkL_all : ∀ (l : List Trie) (p : ByteArray), walkL (fun _ => true) l p = entsL l p
  | [], p => rfl
  | t :: r, p => by rw [walkL, entsL, walkE_all t p, walkL_all r p]
end
mutual
def Trie.fit : Trie → Prop
  | .mk l r k => l.size ≤ 1000000000 ∧ r.length ≤ 1000000000 ∧ k.length ≤ 1000000000 ∧ fits k
def fits : List Trie → Prop
  | [] => True
  | t :: r => t.fit ∧ fits r
end
theorem fits_mem {l : List Trie} (h : fits l) {t : Trie} (ht : t ∈ l) : t.fit := by
  induction l with
  | nil => simp at ht
  | cons u r ih =>
    simp only [fits] at h
    rcases List.mem_cons.1 ht with rfl | ht
    · exact h.1
    · exact ih h.2 ht
theorem kidsB_fits : ∀ (ks : List Trie) (left first : Int), left ≤ 1000000 → -1 ≤ first → first ≤ 255 → kidsB ks left first = true → fits ks
  | [], _, _, _, _, _, _ => trivial
  | .mk l r kk :: ks, left, first, h0, h1, h2, h => by
    have hh := h
    simp only [kidsB, Bool.and_eq_true, decide_eq_true_eq] at hh
    obtain ⟨⟨hn, hf⟩, hr⟩ := hh
    obtain ⟨n1, n2, n3, n4⟩ := nodeB_iff.1 hn
    have hb := bt_range (Trie.mk l r kk).label 0
    have hkl := kidsB_len _ _ _ (by omega) (by omega) n4
    have hrl : r.length ≤ 64 := by
      unfold rowsB at n2
      simp only [Bool.and_eq_true, decide_eq_true_eq] at n2
      exact n2.1
    simp only [fits, Trie.fit]
    exact ⟨⟨by omega, by omega, by omega, kidsB_fits kk _ _ (by omega) (by omega) (by omega) n4⟩, kidsB_fits ks left _ h0 (by omega) (by omega) hr⟩
theorem rightB_fit {t : Trie} (h : rightB t = true) : t.fit := by
  obtain ⟨l, r, ks⟩ := t
  obtain ⟨rfl, rfl, h3⟩ := rightB_iff.1 h
  have hkl := kidsB_len _ _ _ (by omega) (by omega) h3
  simp only [Trie.fit]
  exact ⟨by decide, by simp, by omega, kidsB_fits ks 24 (-1) (by omega) (by omega) (by omega) h3⟩
theorem und_marks1 {n : Nat} {tm : List (Nat × AV)} {x : Nat × Blk} {h : H} : ∀ (ds : List Nat), Und ⟨n, tm, x :: (marks ds ++ h), ds⟩ ⟨n, tm, x :: h, []⟩
  | [] => .done rfl
  | d :: ds => .step (i := 1) rfl rfl (und_marks1 ds)
theorem map_get {α : Type} {f : α → AV} {l : List α} {j : Nat} {x : AV} (h : (l.map f)[j]? = some x) : ∃ e, l[j]? = some e ∧ f e = x := by
  rw [List.getElem?_map] at h
  cases hq : l[j]? with
  | none => rw [hq] at h; cases h
  | some e => rw [hq] at h; exact ⟨e, rfl, by simpa using h⟩
theorem walk_at {al : ByteArray → Bool} {l : ByteArray} {r : List Row} {ks : List Trie} {p : ByteArray} {i j : Nat} {k : Trie} {e : Ent} (ha : al (p ++ l) = true) (hk : ks[i]? = some k) (he : (walkE al k (p ++ l))[j]? = some e) :
    ((walkE al (.mk l r ks) p).map aEnt)[(if r = [] then 0 else 1) + (walkL al (ks.take i) (p ++ l)).length + j]? = some (aEnt e) := by
  rw [walkE, if_pos ha, List.getElem?_map]
  have e1 : (if r = [] then [] else [(⟨p ++ l, r⟩ : Ent)]).length = (if r = [] then 0 else 1) := by split <;> rfl
  rw [List.getElem?_append_right (by rw [e1]; omega), e1, Nat.add_assoc, Nat.add_sub_cancel_left, walkL_at hk he]
  rfl
theorem f102_it (fa : FuncId) (fc : List (List D)) (al : ByteArray → Bool) (hcf : ∀ args w, (callFunc fa args).run Tryd.prog w = .ok (.enter fa args) w) (hal : ∀ p, FSpec Tryd.prog fa (.d (.s p) :: fc.map .fptr) (.d (.b (al p)))) :
    ∀ (t : Trie) (p : ByteArray), t.cnt ≤ 1000000000 → p.size + t.reach ≤ 1000000000 → t.fit → ItSpec Tryd.prog 102 [.fptr [.s p], .fptr [.s t.label, dRows t.rows, .sl (encTries t.kids)], .fptr [.fn fa fc]] ((walkE al t p).map aEnt) := by
  intro t
  induction t using Trie.ind with
  | h l r ks ih =>
  intro p hc hp hlab
  simp only [Trie.label, Trie.rows, Trie.kids]
  simp only [Trie.fit] at hlab
  obtain ⟨hlab1, hlab2, hlab3, hlab4⟩ := hlab
  simp only [Trie.cnt] at hc
  simp only [Trie.reach] at hp
  have hlc := len_cnt ks
  intro L Hs hy hc0 h0
  refine acalls_of Tryd.func102 rfl Tryd.ntmps102 Tryd.results102 (by simp) ?_
  refine awp_seq ?_
  refine awp_region ?_
  refine l_box (.plain rfl) rfl rfl rfl (.t .here) rfl rfl (fun g1 ng1 => ?_)
  refine awpL_nil ?_
  refine awp_seq ?_
  refine awp_region ?_
  refine lv (.plain rfl) rfl rfl (p_load1f (scT9) rfl (Ev.eq (.t (.n 1 2 rfl)))) ?_
  refine lv (.plain rfl) rfl rfl (p_fieldf (fldT25_0) rfl (Ev.eq (.t (.n 2 4 rfl))) rfl) ?_
  refine lv (.plain rfl) rfl rfl (p_load1f (scT9) rfl (Ev.eq (.t .here))) ?_
  refine lv (.plain rfl) rfl rfl (opv_add_s rfl (Ev.eq (.t (.n 9 2 rfl))) (Ev.eq (.t .here)) (by omega) rfl) ?_
  refine lv (.plain rfl) rfl rfl (opv_assign rfl (Ev.eq (.t .here))) ?_
  refine awpL_nil ?_
  refine awp_seq ?_
  refine awp_seq ?_
  refine awp_region ?_
  refine lv (.plain rfl) rfl rfl (p_load1f (scT88) rfl (Ev.eq (.t (.n 3 9 rfl)))) ?_
  refine lv (.plain rfl) rfl rfl (opv_move rfl (Ev.eq (.t (.n 5 1 rfl)))) ?_
  refine lv (.plain rfl) rfl rfl (q_callF rfl (.t (.n 13 1 rfl)) fnas_d hcf (.cons (.t .here) .nil) rfl (hal _)) ?_
  refine lv (.plain rfl) rfl rfl (opv_not rfl (Ev.eq (.t .here)) rfl) ?_
  refine awpL_nil ?_
  refine psplit (.n 15 1 rfl) (fun h15 => ?_) (fun h15 => ?_)
  ·
   have q15 := h15
   try simp only [zs, List.length_map, encTries_len, Int.natCast_pos, List.length_pos_iff] at q15
   refine pcond_f (.t .here) (congrArg not h15) ?_
   refine awp_skip ?_
   refine awp_seq ?_
   refine awp_seq ?_
   have hal1 : al (p ++ l) = true := q15
   refine g_draw mixed (kb_cons (.head _) kb_nil) (by kernel_rfl) (fuel := 14) rfl rfl ?_
   refine g_v (listed' := bs 14 1) 0 rfl (by kernel_rfl) rfl (fun _ => .plain rfl) rfl (fun _ hK => p_fieldf (fldT25_1) rfl (Ev.eq (.t (.n 2 12 rfl))) rfl) (kb_cons (.head _) kb_nil) ?_
   refine g_v (listed' := bs 14 3) 1 rfl (by kernel_rfl) rfl (fun _ => .plain rfl) rfl (fun _ hK => p_load1f (scT22) rfl (Ev.eq (.t .here))) (kb_cons (.head _) kb_nil) ?_
   refine g_v (listed' := bs 14 7) 2 rfl (by kernel_rfl) rfl (fun _ => .plain rfl) rfl (fun _ hK => opv_len_sl Tryd.underlying22 rfl (Ev.eq (.t .here)) rfl) (kb_cons (.head _) kb_nil) ?_
   refine g_v (listed' := bs 14 15) 3 rfl (by kernel_rfl) rfl (fun _ => .plain rfl) rfl (fun _ hK => opv_gtr rfl (Ev.eq (.t .here)) (Ev.eq .i) rfl) (kb_cons (.head _) kb_nil) ?_
   refine g_v (listed' := bs 14 31) 4 rfl (by kernel_rfl) rfl (fun _ => .plain rfl) rfl (fun _ hK => opv_move rfl (Ev.eq (.t .here))) (kb_cons (.head _) kb_nil) ?_
   refine gsplit (.n 20 1 rfl) (fun h20 => ?_) (fun h20 => ?_)
   ·
    have q20 := h20
    try simp only [zs, List.length_map, encTries_len, Int.natCast_pos, List.length_pos_iff] at q20
    refine g_v (listed' := bs 14 63) 5 rfl (by kernel_rfl) rfl (fun _ => .on rfl rfl .here h20) rfl (fun _ hK => m_load1 (scT98) rfl (Ev.eq (.t (.n 4 14 rfl))) (hK _ (.head _)) .here) (kb_cons (.head _) kb_nil) ?_
    refine g_v (listed' := bs 14 127) 6 rfl (by kernel_rfl) rfl (fun _ => .on rfl rfl (.n 21 1 rfl) h20) rfl (fun _ hK => opv_move rfl (Ev.eq (.t (.n 5 10 rfl)))) (kb_cons (.head _) kb_nil) ?_
    refine g_v (listed' := bs 14 255) 7 rfl (by kernel_rfl) rfl (fun _ => .on rfl rfl (.n 21 2 rfl) h20) rfl (fun _ hK => p_fieldf (fldT25_1) rfl (Ev.eq (.t (.n 2 19 rfl))) rfl) (kb_cons (.head _) kb_nil) ?_
    refine g_v (listed' := bs 14 511) 8 rfl (by kernel_rfl) rfl (fun _ => .on rfl rfl (.n 21 3 rfl) h20) rfl (fun _ hK => p_load1f (scT22) rfl (Ev.eq (.t .here))) (kb_cons (.head _) kb_nil) ?_
    refine g_v (listed' := bs 14 1023) 9 rfl (by kernel_rfl) rfl (fun _ => .on rfl rfl (.n 21 4 rfl) h20) rfl (fun _ hK => q_call rfl .f Tryd.call55 (.cons (.t .here) .nil) rfl (f55_spec r (by omega))) (kb_cons (.head _) kb_nil) ?_
    refine g_v (listed' := bs 14 2047) 10 rfl (by kernel_rfl) rfl (fun _ => .on rfl rfl (.n 21 5 rfl) h20) rfl (fun _ hK => p_build (bldT43) rfl (.cons (.t (.n 23 3 rfl)) (.cons (.t .here) .nil)) (by simp [AV.cs, AV.one]) (cs := [_, _]) rfl) (kb_cons (.head _) kb_nil) ?_
    have hrne : ¬ r = [] := by simpa using q20
    have hx0 : ((walkE al (.mk l r ks) p).map aEnt)[0]? = some (.agg [.d (.s (p ++ l)), .d (.sl (r.map encRow))]) := by rw [walkE, if_pos hal1, if_neg hrne]; rfl
    refine g_xd (listed' := bs 14 4095) 11 (by kernel_rfl) rfl rfl (.on rfl rfl (.n 21 6 rfl) h20) rfl (x_yield (hf := [_]) rfl (.t (.n 22 5 rfl)) (.cons (.t .here) .nil) rfl (hy 0 _ _ hx0 h0)) ?_
    rintro _ _ ⟨rfl, h1, hh1, rfl⟩
    dsimp only [List.cons_append, List.nil_append]
    refine ⟨(kb_cons (.head _) kb_nil), ?_⟩
    refine g_v (listed' := bs 14 8191) 12 rfl (by kernel_rfl) rfl (fun _ => .on rfl rfl (.n 21 7 rfl) h20) rfl (fun _ hK => opv_not rfl (Ev.eq (.t .here)) rfl) (kb_cons (.head _) kb_nil) ?_
    refine g_v (listed' := bs 14 16383) 13 rfl (by kernel_rfl) rfl (fun _ => .plain rfl) rfl (fun _ hK => opv_pick_t rfl (Ev.eq (.t (.n 21 8 rfl))) h20 (Ev.eq (.t .here))) (kb_cons (.head _) kb_nil) ?_
    refine g_end (by kernel_rfl) ?_
    refine pcond_f (.t .here) rfl ?_
    refine awp_skip ?_
    refine awp_seq ?_
    refine awp_region ?_
    refine lv (.plain rfl) rfl rfl (p_fieldf (fldT25_2) rfl (Ev.eq (.t (.n 2 26 rfl))) rfl) ?_
    refine lv (.plain rfl) rfl rfl (p_load1f (scT23) rfl (Ev.eq (.t .here))) ?_
    refine lv (.plain rfl) rfl rfl (opv_len_sl Tryd.underlying23 rfl (Ev.eq (.t .here)) rfl) ?_
    refine lv (.plain rfl) rfl rfl (opv_move rfl (Ev.eq .i)) ?_
    refine awpL_nil ?_
    refine awp_block ?_
    refine ploop (fun (a : Nat × List Nat × H) => ⟨48, [(3, .fptr [.fn fa fc]), (4, .ptr g1 0), (5, .d (.s (p ++ l))), (32, .d (.sl (encTries ks))), (33, .d (.i .i64 (ks.length : Int))), (34, .d (.i .i64 (a.1 : Int)))], (g1, .var 98 [.fn (.yield L) []]) :: (marks a.2.1 ++ a.2.2), a.2.1⟩) (fun a => a.1 ≤ ks.length ∧ Hs ((if r = [] then 0 else 1) + (walkL al (ks.take a.1) (p ++ l)).length) a.2.2) (fun a => ks.length - a.1) ((0, [], h1)) (weak_both (.ce (.n 3 31 rfl) rfl (.ce (.n 4 27 rfl) rfl (.ce (.n 5 22 rfl) rfl (.ce (.n 32 2 rfl) (by first | rfl | simp) (.ce (.n 33 1 rfl) (by first | rfl | simp) (.ce .here (by first | rfl | (simp; done) | (simp; omega)) .nil)))))) (List.Sublist.refl _)) (⟨Nat.zero_le _, by have e : (if r = [] then 0 else 1) = 1 := if_neg hrne; show Hs ((if r = [] then 0 else 1) + (walkL al [] (p ++ l)).length) h1; rw [e]; exact hh1⟩) ?_
    rintro ⟨i, ds, hc1⟩ ⟨hi, hinv0⟩
    dsimp only at hi hinv0
    refine awp_seq ?_
    refine awp_region ?_
    refine lv (.plain rfl) rfl rfl (opv_lss rfl (Ev.eq (.t (.n 34 5 rfl))) (Ev.eq (.t (.n 33 4 rfl))) rfl) ?_
    refine awpL_nil ?_
    refine awp_seq ?_
    refine psplit .here (fun h35 => ?_) (fun h35 => ?_)
    ·
     have q35 := h35
     try simp only [zs, List.length_map, encTries_len, Int.natCast_pos, List.length_pos_iff] at q35
     refine pcond_t (.t .here) h35 ?_
     refine awp_skip ?_
     refine awp_seq ?_
     refine awp_block ?_
     refine awp_seq ?_
     refine awp_region ?_
     obtain ⟨kd, hk⟩ := some_at (l := ks) (i := i) (by omega)
     obtain ⟨kl, kr, kk⟩ := kd
     have hc1' := cnt_mem (List.mem_of_getElem? hk)
     have hr1' := reach_mem (List.mem_of_getElem? hk)
     refine lv (.plain rfl) rfl rfl (p_index (slT23) rfl (Ev.eq (.t (.n 32 4 rfl))) (Ev.eq (.t (.n 34 6 rfl))) (by omega) (by first | assumption | exact map_at (by assumption) | exact encTries_at (by assumption)) rfl) ?_
     refine lv (.plain rfl) rfl rfl (p_loadnf (agT25) rfl (Ev.eq (.t .here)) (Nat.le_of_ble_eq_true rfl) rfl) ?_
     refine l_alloc zT25 (.plain rfl) rfl rfl rfl (fun g5 ng5 => ?_)
     refine l_storen Tryd.sizeOf25 (.plain rfl) rfl rfl (.t .here) (.t (.n 37 1 rfl)) rfl rfl rfl .here ?_
     refine awpL_nil ?_
     refine awp_seq ?_
     refine awp_region ?_
     refine lv (.plain rfl) rfl rfl (q_loadn (agT25) rfl (Ev.eq (.t .here)) .here rfl) ?_
     refine lv (.plain rfl) rfl rfl (opv_move rfl (Ev.eq (.t (.n 5 7 rfl)))) ?_
     refine lv (.plain rfl) rfl rfl (p_load1f (scT88) rfl (Ev.eq (.t (.n 3 6 rfl)))) ?_
     refine lv (.plain rfl) rfl rfl (q_call rfl .f Tryd.call81 (.cons (.t (.n 38 2 rfl)) (.cons (.t (.n 39 1 rfl)) (.cons (.t .here) .nil))) rfl (f81_spec kl kr kk (p ++ l) fa fc)) ?_
     refine awpL_nil ?_
     refine awp_block ?_
     refine pweak (.cons (.n 3 8 rfl) (.cons (.n 4 9 rfl) (.cons (.n 5 10 rfl) (.cons (.n 32 11 rfl) (.cons (.n 33 12 rfl) (.cons (.n 34 13 rfl) (.cons .here .nil))))))) ?_
     refine awp_range (.t (.n 41 6 rfl)) fnas_d Tryd.call102 (ih (.mk kl kr kk) (List.mem_of_getElem? hk) (p ++ l) (by omega) (by rw [ByteArray.size_append]; omega) (fits_mem hlab4 (List.mem_of_getElem? hk))) rfl (fun (q : H) => (g1, .var 98 [.fn (.yield L) []]) :: (marks ds ++ q)) (fun j q => Hs ((if r = [] then 0 else 1) + (walkL al (ks.take i) (p ++ l)).length + j) q) (hc1) (.cons _ (List.Sublist.refl _)) (hinv0) ?_ ?_
     ·
      rintro j x hc2 L' dd R hx hinv
      obtain ⟨⟨ep, er⟩, he, rfl⟩ := map_get hx
      have hxx : ((walkE al (.mk l r ks) p).map aEnt)[(if r = [] then 0 else 1) + (walkL al (ks.take i) (p ++ l)).length + j]? = some (aEnt ⟨ep, er⟩) := walk_at hal1 hk he
      simp only [aEnt] at hxx
      dsimp only [aEnt]
      refine awp_region ?_
      refine l_alloc zT43 (.plain rfl) rfl rfl rfl (fun g6 ng6 => ?_)
      refine l_storen Tryd.sizeOf43 (.plain rfl) rfl rfl (.t .here) (.t (.n 42 1 rfl)) rfl rfl rfl .here ?_
      refine awpL_nil ?_
      refine ⟨rfl, 1, _, _, rfl, fun R' => ?_⟩
      dsimp only [List.set_cons_succ, List.set_cons_zero]
      refine awp_block ?_
      refine awp_seq ?_
      refine awp_region ?_
      refine lv (.plain rfl) rfl rfl (q_load1 (scT98) rfl (Ev.eq (.t (.n 4 3 rfl))) (.there (.there (.there .here))) .here) ?_
      refine lv (.plain rfl) rfl rfl (q_loadn (agT43) rfl (Ev.eq (.t (.n 8 1 rfl))) .here rfl) ?_
      refine l_xd (.plain rfl) rfl rfl (x_yield (hf := _ :: _ :: _ :: _ :: marks ds) rfl (.t (.n 43 1 rfl)) (.cons (.t .here) .nil) rfl (hy _ _ _ hxx hinv)) ?_
      rintro _ _ ⟨rfl, h7, hh7, rfl⟩
      dsimp only [List.cons_append, List.nil_append]
      refine lv (.plain rfl) rfl rfl (opv_not rfl (Ev.eq (.t .here)) rfl) ?_
      refine awpL_nil ?_
      refine pcond_f (.t .here) rfl ?_
      refine awp_skip ?_
      refine ⟨rfl, h7, hh7, weak_both .nil (.cons _ (List.Sublist.refl _))⟩
     ·
      rintro dd hc3 hinv3
      refine awp_region ?_
      refine lv (.plain rfl) rfl rfl (opv_add rfl (Ev.eq (.t (.n 34 5 rfl))) (Ev.eq .i) (wr64 (by omega) (by omega)) rfl) ?_
      refine lv (.plain rfl) rfl rfl (opv_move rfl (Ev.eq (.t .here))) ?_
      refine awpL_nil ?_
      refine ⟨(i + 1, dd :: ds, hc3), by dsimp only; omega, ⟨by dsimp only; omega, by dsimp only; rw [walkL_take hk, List.length_append, ← Nat.add_assoc]; rw [List.length_map] at hinv3; exact hinv3⟩, weak_p (.ce (.n 3 2 rfl) rfl (.ce (.n 4 3 rfl) rfl (.ce (.n 5 4 rfl) rfl (.ce (.n 32 5 rfl) rfl (.ce (.n 33 6 rfl) rfl (.ce .here (by first | rfl | (simp; done) | (simp; omega)) .nil)))))) (List.Perm.swap _ _ _) (List.Sublist.refl _)⟩
    ·
     have q35 := h35
     try simp only [zs, List.length_map, encTries_len, Int.natCast_pos, List.length_pos_iff] at q35
     refine pcond_f (.t .here) h35 ?_
     refine awp_exit ?_
     refine ret_und (und_marks1 ds) .none (Cast.drop _ (.cons _ (List.Sublist.refl _))) ?_
     obtain rfl : i = ks.length := by omega
     show Hs ((walkE al (.mk l r ks) p).map aEnt).length hc1
     rw [List.take_length] at hinv0
     rw [walkE, if_pos hal1, List.length_map, List.length_append]
     have e : (if r = [] then [] else [(⟨p ++ l, r⟩ : Ent)]).length = (if r = [] then 0 else 1) := by split <;> rfl
     rw [e]
     exact hinv0
   ·
    have q20 := h20
    try simp only [zs, List.length_map, encTries_len, Int.natCast_pos, List.length_pos_iff] at q20
    refine g_o (listed' := bs 14 63) 5 rfl (by kernel_rfl) rfl (fun _ => .off rfl rfl .here h20) rfl (kb_cons (.head _) kb_nil) ?_
    refine g_o (listed' := bs 14 127) 6 rfl (by kernel_rfl) rfl (fun _ => .off rfl rfl (.n 21 1 rfl) h20) rfl (kb_cons (.head _) kb_nil) ?_
    refine g_o (listed' := bs 14 255) 7 rfl (by kernel_rfl) rfl (fun _ => .off rfl rfl (.n 21 2 rfl) h20) rfl (kb_cons (.head _) kb_nil) ?_
    refine g_o (listed' := bs 14 511) 8 rfl (by kernel_rfl) rfl (fun _ => .off rfl rfl (.n 21 3 rfl) h20) rfl (kb_cons (.head _) kb_nil) ?_
    refine g_o (listed' := bs 14 1023) 9 rfl (by kernel_rfl) rfl (fun _ => .off rfl rfl (.n 21 4 rfl) h20) rfl (kb_cons (.head _) kb_nil) ?_
    refine g_o (listed' := bs 14 2047) 10 rfl (by kernel_rfl) rfl (fun _ => .off rfl rfl (.n 21 5 rfl) h20) rfl (kb_cons (.head _) kb_nil) ?_
    refine g_o (listed' := bs 14 4095) 11 rfl (by kernel_rfl) rfl (fun _ => .off rfl rfl (.n 21 6 rfl) h20) rfl (kb_cons (.head _) kb_nil) ?_
    refine g_o (listed' := bs 14 8191) 12 rfl (by kernel_rfl) rfl (fun _ => .off rfl rfl (.n 21 7 rfl) h20) rfl (kb_cons (.head _) kb_nil) ?_
    refine g_v (listed' := bs 14 16383) 13 rfl (by kernel_rfl) rfl (fun _ => .plain rfl) rfl (fun _ hK => opv_pick_f rfl (Ev.eq (.t (.n 21 8 rfl))) h20 (Ev.eq .b)) (kb_cons (.head _) kb_nil) ?_
    refine g_end (by kernel_rfl) ?_
    refine pcond_f (.t .here) rfl ?_
    refine awp_skip ?_
    refine awp_seq ?_
    refine awp_region ?_
    refine lv (.plain rfl) rfl rfl (p_fieldf (fldT25_2) rfl (Ev.eq (.t (.n 2 26 rfl))) rfl) ?_
    refine lv (.plain rfl) rfl rfl (p_load1f (scT23) rfl (Ev.eq (.t .here))) ?_
    refine lv (.plain rfl) rfl rfl (opv_len_sl Tryd.underlying23 rfl (Ev.eq (.t .here)) rfl) ?_
    refine lv (.plain rfl) rfl rfl (opv_move rfl (Ev.eq .i)) ?_
    refine awpL_nil ?_
    refine awp_block ?_
    refine ploop (fun (a : Nat × List Nat × H) => ⟨48, [(3, .fptr [.fn fa fc]), (4, .ptr g1 0), (5, .d (.s (p ++ l))), (32, .d (.sl (encTries ks))), (33, .d (.i .i64 (ks.length : Int))), (34, .d (.i .i64 (a.1 : Int)))], (g1, .var 98 [.fn (.yield L) []]) :: (marks a.2.1 ++ a.2.2), a.2.1⟩) (fun a => a.1 ≤ ks.length ∧ Hs ((if r = [] then 0 else 1) + (walkL al (ks.take a.1) (p ++ l)).length) a.2.2) (fun a => ks.length - a.1) ((0, [], hc0)) (weak_both (.ce (.n 3 31 rfl) rfl (.ce (.n 4 27 rfl) rfl (.ce (.n 5 22 rfl) rfl (.ce (.n 32 2 rfl) (by first | rfl | simp) (.ce (.n 33 1 rfl) (by first | rfl | simp) (.ce .here (by first | rfl | (simp; done) | (simp; omega)) .nil)))))) (List.Sublist.refl _)) (⟨Nat.zero_le _, by have e : (if r = [] then 0 else 1) = 0 := if_pos (by simpa using q20); show Hs ((if r = [] then 0 else 1) + (walkL al [] (p ++ l)).length) hc0; rw [e]; exact h0⟩) ?_
    rintro ⟨i, ds, hc1⟩ ⟨hi, hinv0⟩
    dsimp only at hi hinv0
    refine awp_seq ?_
    refine awp_region ?_
    refine lv (.plain rfl) rfl rfl (opv_lss rfl (Ev.eq (.t (.n 34 5 rfl))) (Ev.eq (.t (.n 33 4 rfl))) rfl) ?_
    refine awpL_nil ?_
    refine awp_seq ?_
    refine psplit .here (fun h35 => ?_) (fun h35 => ?_)
    ·
     have q35 := h35
     try simp only [zs, List.length_map, encTries_len, Int.natCast_pos, List.length_pos_iff] at q35
     refine pcond_t (.t .here) h35 ?_
     refine awp_skip ?_
     refine awp_seq ?_
     refine awp_block ?_
     refine awp_seq ?_
     refine awp_region ?_
     obtain ⟨kd, hk⟩ := some_at (l := ks) (i := i) (by omega)
     obtain ⟨kl, kr, kk⟩ := kd
     have hc1' := cnt_mem (List.mem_of_getElem? hk)
     have hr1' := reach_mem (List.mem_of_getElem? hk)
     refine lv (.plain rfl) rfl rfl (p_index (slT23) rfl (Ev.eq (.t (.n 32 4 rfl))) (Ev.eq (.t (.n 34 6 rfl))) (by omega) (by first | assumption | exact map_at (by assumption) | exact encTries_at (by assumption)) rfl) ?_
     refine lv (.plain rfl) rfl rfl (p_loadnf (agT25) rfl (Ev.eq (.t .here)) (Nat.le_of_ble_eq_true rfl) rfl) ?_
     refine l_alloc zT25 (.plain rfl) rfl rfl rfl (fun g10 ng10 => ?_)
     refine l_storen Tryd.sizeOf25 (.plain rfl) rfl rfl (.t .here) (.t (.n 37 1 rfl)) rfl rfl rfl .here ?_
     refine awpL_nil ?_
     refine awp_seq ?_
     refine awp_region ?_
     refine lv (.plain rfl) rfl rfl (q_loadn (agT25) rfl (Ev.eq (.t .here)) .here rfl) ?_
     refine lv (.plain rfl) rfl rfl (opv_move rfl (Ev.eq (.t (.n 5 7 rfl)))) ?_
     refine lv (.plain rfl) rfl rfl (p_load1f (scT88) rfl (Ev.eq (.t (.n 3 6 rfl)))) ?_
     refine lv (.plain rfl) rfl rfl (q_call rfl .f Tryd.call81 (.cons (.t (.n 38 2 rfl)) (.cons (.t (.n 39 1 rfl)) (.cons (.t .here) .nil))) rfl (f81_spec kl kr kk (p ++ l) fa fc)) ?_
     refine awpL_nil ?_
     refine awp_block ?_
     refine pweak (.cons (.n 3 8 rfl) (.cons (.n 4 9 rfl) (.cons (.n 5 10 rfl) (.cons (.n 32 11 rfl) (.cons (.n 33 12 rfl) (.cons (.n 34 13 rfl) (.cons .here .nil))))))) ?_
     refine awp_range (.t (.n 41 6 rfl)) fnas_d Tryd.call102 (ih (.mk kl kr kk) (List.mem_of_getElem? hk) (p ++ l) (by omega) (by rw [ByteArray.size_append]; omega) (fits_mem hlab4 (List.mem_of_getElem? hk))) rfl (fun (q : H) => (g1, .var 98 [.fn (.yield L) []]) :: (marks ds ++ q)) (fun j q => Hs ((if r = [] then 0 else 1) + (walkL al (ks.take i) (p ++ l)).length + j) q) (hc1) (.cons _ (List.Sublist.refl _)) (hinv0) ?_ ?_
     ·
      rintro j x hc2 L' dd R hx hinv
      obtain ⟨⟨ep, er⟩, he, rfl⟩ := map_get hx
      have hxx : ((walkE al (.mk l r ks) p).map aEnt)[(if r = [] then 0 else 1) + (walkL al (ks.take i) (p ++ l)).length + j]? = some (aEnt ⟨ep, er⟩) := walk_at hal1 hk he
      simp only [aEnt] at hxx
      dsimp only [aEnt]
      refine awp_region ?_
      refine l_alloc zT43 (.plain rfl) rfl rfl rfl (fun g11 ng11 => ?_)
      refine l_storen Tryd.sizeOf43 (.plain rfl) rfl rfl (.t .here) (.t (.n 42 1 rfl)) rfl rfl rfl .here ?_
      refine awpL_nil ?_
      refine ⟨rfl, 1, _, _, rfl, fun R' => ?_⟩
      dsimp only [List.set_cons_succ, List.set_cons_zero]
      refine awp_block ?_
      refine awp_seq ?_
      refine awp_region ?_
      refine lv (.plain rfl) rfl rfl (q_load1 (scT98) rfl (Ev.eq (.t (.n 4 3 rfl))) (.there (.there (.there .here))) .here) ?_
      refine lv (.plain rfl) rfl rfl (q_loadn (agT43) rfl (Ev.eq (.t (.n 8 1 rfl))) .here rfl) ?_
      refine l_xd (.plain rfl) rfl rfl (x_yield (hf := _ :: _ :: _ :: _ :: marks ds) rfl (.t (.n 43 1 rfl)) (.cons (.t .here) .nil) rfl (hy _ _ _ hxx hinv)) ?_
      rintro _ _ ⟨rfl, h12, hh12, rfl⟩
      dsimp only [List.cons_append, List.nil_append]
      refine lv (.plain rfl) rfl rfl (opv_not rfl (Ev.eq (.t .here)) rfl) ?_
      refine awpL_nil ?_
      refine pcond_f (.t .here) rfl ?_
      refine awp_skip ?_
      refine ⟨rfl, h12, hh12, weak_both .nil (.cons _ (List.Sublist.refl _))⟩
     ·
      rintro dd hc3 hinv3
      refine awp_region ?_
      refine lv (.plain rfl) rfl rfl (opv_add rfl (Ev.eq (.t (.n 34 5 rfl))) (Ev.eq .i) (wr64 (by omega) (by omega)) rfl) ?_
      refine lv (.plain rfl) rfl rfl (opv_move rfl (Ev.eq (.t .here))) ?_
      refine awpL_nil ?_
      refine ⟨(i + 1, dd :: ds, hc3), by dsimp only; omega, ⟨by dsimp only; omega, by dsimp only; rw [walkL_take hk, List.length_append, ← Nat.add_assoc]; rw [List.length_map] at hinv3; exact hinv3⟩, weak_p (.ce (.n 3 2 rfl) rfl (.ce (.n 4 3 rfl) rfl (.ce (.n 5 4 rfl) rfl (.ce (.n 32 5 rfl) rfl (.ce (.n 33 6 rfl) rfl (.ce .here (by first | rfl | (simp; done) | (simp; omega)) .nil)))))) (List.Perm.swap _ _ _) (List.Sublist.refl _)⟩
    ·
     have q35 := h35
     try simp only [zs, List.length_map, encTries_len, Int.natCast_pos, List.length_pos_iff] at q35
     refine pcond_f (.t .here) h35 ?_
     refine awp_exit ?_
     refine ret_und (und_marks1 ds) .none (Cast.drop _ (.cons _ (List.Sublist.refl _))) ?_
     obtain rfl : i = ks.length := by omega
     show Hs ((walkE al (.mk l r ks) p).map aEnt).length hc1
     rw [List.take_length] at hinv0
     rw [walkE, if_pos hal1, List.length_map, List.length_append]
     have e : (if r = [] then [] else [(⟨p ++ l, r⟩ : Ent)]).length = (if r = [] then 0 else 1) := by split <;> rfl
     rw [e]
     exact hinv0
  ·
   have q15 := h15
   try simp only [zs, List.length_map, encTries_len, Int.natCast_pos, List.length_pos_iff] at q15
   refine pcond_t (.t .here) (congrArg not h15) ?_
   refine awp_ret ?_
   refine ret_now (.none) (Cast.drop _ (.cons _ (List.Sublist.refl _))) ?_
   show Hs ((walkE al (.mk l r ks) p).map aEnt).length hc0
   rw [walkE, if_neg (by rw [q15]; simp)]
   exact h0
theorem take_filter {p : Ent → Bool} {l : List Ent} {j : Nat} {e : Ent} (h : l[j]? = some e) : (l.take (j + 1)).filter p = (l.take j).filter p ++ (if p e = true then [e] else []) := by
  rw [List.take_add_one, h, List.filter_append]
  congr 1
  by_cases hb : p e = true <;> simp [hb]
theorem f51_spec (fa fw : FuncId) (fc wc : List (List D)) (al wa : ByteArray → Bool) (hcf : ∀ args w, (callFunc fa args).run Tryd.prog w = .ok (.enter fa args) w) (hal : ∀ p, FSpec Tryd.prog fa (.d (.s p) :: fc.map .fptr) (.d (.b (al p)))) (hcw : ∀ args w, (callFunc fw args).run Tryd.prog w = .ok (.enter fw args) w) (hwa : ∀ p, FSpec Tryd.prog fw (.d (.s p) :: wc.map .fptr) (.d (.b (wa p)))) (t : Trie) (hcn : t.cnt ≤ 1000000000) : FSpec Tryd.prog 51 [aTrie t, .d (.fn fa fc), .d (.fn fw wc)] (.d (dEnts (if rightB t then (walkE al t ⟨#[]⟩).filter (fun e => wa e.path) else []))) := by
  obtain ⟨l, r, ks⟩ := t
  show FSpec _ _ [.agg [.d (.s l), .d (dRows r), .d (.sl (encTries ks))], .d (.fn fa fc), .d (.fn fw wc)] _
  refine acalls_of Tryd.func51 rfl Tryd.ntmps51 Tryd.results51 (by simp) ?_
  refine awp_seq ?_
  refine awp_region ?_
  refine l_box (.plain rfl) rfl rfl rfl (.t .here) rfl rfl (fun g1 ng1 => ?_)
  refine l_box (.plain rfl) rfl rfl rfl (.t (.n 2 3 rfl)) rfl rfl (fun g2 ng2 => ?_)
  refine lv (.plain rfl) rfl rfl (opv_assign rfl (Ev.eq .n)) ?_
  refine awpL_nil ?_
  refine awp_seq ?_
  refine awp_seq ?_
  refine awp_region ?_
  refine lv (.plain rfl) rfl rfl (q_loadn (agT25) rfl (Ev.eq (.t (.n 3 2 rfl))) (.there .here) rfl) ?_
  refine lv (.plain rfl) rfl rfl (q_call rfl .f Tryd.call15 (.cons (.t .here) .nil) rfl (f15_spec (.mk l r ks))) ?_
  refine lv (.plain rfl) rfl rfl (opv_neq_i rfl (Ev.eq (.t .here)) (Ev.eq .i) rfl) ?_
  refine awpL_nil ?_
  refine psplit .here (fun h11 => ?_) (fun h11 => ?_)
  ·
   have q11 := h11
   try simp only [zs, List.length_map] at q11
   refine pcond_t (.t .here) h11 ?_
   refine awp_seq ?_
   refine awp_region ?_
   refine lv (.plain rfl) rfl rfl (opv_assign rfl (Ev.eq .n)) ?_
   refine awpL_nil ?_
   refine awp_ret ?_
   refine ret_now (.one (rv_t .here)) (Cast.frz0 .nil) ?_
   rw [if_neg (by simp_all [erI])]
   exact ⟨rfl, rfl⟩
  ·
   have q11 := h11
   try simp only [zs, List.length_map] at q11
   refine pcond_f (.t .here) h11 ?_
   refine awp_skip ?_
   refine awp_seq ?_
   refine awp_region ?_
   refine l_alloc zT38 (.plain rfl) rfl rfl rfl (fun g4 ng4 => ?_)
   refine awpL_nil ?_
   refine awp_seq ?_
   refine awp_seq ?_
   have hrt : rightB (.mk l r ks) = true := by simp_all [erI]
   have hwl := walkE_len al (.mk l r ks) ⟨#[]⟩
   refine awp_region ?_
   refine lv (.plain rfl) rfl rfl (q_loadn (agT25) rfl (Ev.eq (.t (.n 3 6 rfl))) (.there (.there .here)) rfl) ?_
   refine lv (.plain rfl) rfl rfl (opv_move rfl (Ev.eq (.t (.n 1 9 rfl)))) ?_
   refine lv (.plain rfl) rfl rfl (q_call rfl .f Tryd.call81 (.cons (.t (.n 12 1 rfl)) (.cons .s (.cons (.t .here) .nil))) rfl (f81_spec l r ks ⟨#[]⟩ fa fc)) ?_
   refine awpL_nil ?_
   refine awp_block ?_
   refine pweak (.cons (.n 5 8 rfl) (.cons (.n 7 3 rfl) (.cons .here .nil))) ?_
   refine awp_range (.t (.n 14 2 rfl)) fnas_d Tryd.call102 (f102_it fa fc al hcf hal (.mk l r ks) ⟨#[]⟩ hcn (by have := rightB_reach hrt; show 0 + _ ≤ _; omega) (rightB_fit hrt)) rfl (fun (a : Acc) => (g4, .var 38 [accV a]) :: (g2, .var 88 [.d (.fn fw wc)]) :: (g1, .var 25 [.d (.s l), .d (dRows r), .d (.sl (encTries ks))]) :: accH 43 2 a) (fun j a => a.rows = cellsOf encEnt (((walkE al (.mk l r ks) ⟨#[]⟩).take j).filter (fun e => wa e.path))) (Acc.none) (List.Sublist.refl _) (rfl) ?_ ?_
   ·
    rintro j x acc L' dd R hx hacc
    obtain ⟨⟨ep, er⟩, he, rfl⟩ := map_get hx
    dsimp only [aEnt]
    have hjl := (List.getElem?_eq_some_iff.1 he).1
    have hfl := List.length_filter_le (fun e : Ent => wa e.path) ((walkE al (.mk l r ks) ⟨#[]⟩).take j)
    rw [List.length_take] at hfl
    refine awp_region ?_
    refine l_alloc zT43 (.plain rfl) rfl rfl rfl (fun g5 ng5 => ?_)
    refine l_storen Tryd.sizeOf43 (.plain rfl) rfl rfl (.t .here) (.t (.n 15 1 rfl)) rfl rfl rfl .here ?_
    refine awpL_nil ?_
    refine ⟨rfl, 1, _, _, rfl, fun R' => ?_⟩
    dsimp only [List.set_cons_succ, List.set_cons_zero]
    refine awp_block ?_
    refine awp_seq ?_
    refine awp_region ?_
    refine lv (.plain rfl) rfl rfl (q_load1 (scT88) rfl (Ev.eq (.t (.n 5 2 rfl))) (.there (.there (.there (.there .here)))) .here) ?_
    refine lv (.plain rfl) rfl rfl (p_field (fldT43_0) rfl (Ev.eq (.t (.n 8 1 rfl))) (off' := 0) rfl) ?_
    refine lv (.plain rfl) rfl rfl (q_load1 (scT9) rfl (Ev.eq (.t .here)) .here .here) ?_
    refine lv (.plain rfl) rfl rfl (q_callF rfl (.t (.n 16 2 rfl)) fnas_d hcw (.cons (.t .here) .nil) rfl (hwa _)) ?_
    refine awpL_nil ?_
    refine psplit .here (fun h19 => ?_) (fun h19 => ?_)
    ·
     have q19 := h19
     try simp only [zs, List.length_map] at q19
     refine pcond_t (.t .here) h19 ?_
     refine awp_region ?_
     refine lv (.plain rfl) rfl rfl (q_load1 (scT38) rfl (Ev.eq (.t (.n 7 7 rfl))) (.there (.there (.there .here))) .here) ?_
     refine lv (.plain rfl) rfl rfl (q_loadn (agT43) rfl (Ev.eq (.t (.n 8 5 rfl))) .here rfl) ?_
     refine l_xd (.plain rfl) rfl rfl (x_buildSlice (cs := [_, _]) (rows := [[_, _]]) slT38 slZ38_1 rfl rfl rfl (.cons (.t .here) .nil) rfl rfl rfl rfl rfl) ?_
     rintro _ _ ⟨g6, ng6, rfl, rfl⟩
     refine l_xd (.plain rfl) rfl rfl (x_append (acc := acc) (rows := [_]) (hf := [_, _, _, _, _, _, _]) apT38 rfl (.t (.n 20 2 rfl)) (.t .here) rfl (.head _) rfl rfl (by rw [hacc, cellsOf_len]; simp; omega)) ?_
     rintro _ _ ⟨acc7, hacc7, rfl, rfl⟩
     dsimp only [List.cons_append, List.nil_append]
     refine l_store1 Tryd.sizeOf38 (.plain rfl) rfl rfl (.t (.n 7 11 rfl)) (.t .here) (accV_one _) .here (.there (.there (.there (.there .here)))) ?_
     refine awpL_nil ?_
     refine ⟨rfl, acc7, by rw [hacc7, hacc, take_filter he, if_pos q19, cellsOf_append]; rfl, weak_both .nil (.cons _ (.cons _ (List.Sublist.refl _)))⟩
    ·
     have q19 := h19
     try simp only [zs, List.length_map] at q19
     refine pcond_f (.t .here) h19 ?_
     refine awp_skip ?_
     refine ⟨rfl, acc, by rw [take_filter he, if_neg (by rw [q19]; simp), List.append_nil]; exact hacc, weak_both .nil (.cons _ (List.Sublist.refl _))⟩
   ·
    rintro dd acc hacc
    refine awp_seq ?_
    refine awp_region ?_
    refine lv (.plain rfl) rfl rfl (q_load1 (scT38) rfl (Ev.eq (.t (.n 7 1 rfl))) (.there .here) .here) ?_
    refine lv (.plain rfl) rfl rfl (opv_assign rfl (Ev.eq (.t .here))) ?_
    refine awpL_nil ?_
    refine awp_ret ?_
    rw [List.length_map, List.take_length] at hacc
    have hfin : acc.rows = (((walkE al (.mk l r ks) ⟨#[]⟩).filter (fun e => wa e.path)).map encEnt).map (·.map AV.d) := by rw [hacc]; rfl
    refine ret_und (.step (i := 0) rfl rfl (.done rfl)) (.one (rv_t .here)) (Cast.frz0 (frz_acc (e := 43) (sz := 2) (fun q hq => (List.mem_cons_of_mem _ (List.mem_cons_of_mem _ (List.mem_cons_of_mem _ hq)))) hfin)) ?_
    rw [if_pos hrt]
    exact ⟨rfl, rfl⟩
theorem f21_spec (t : Trie) (hcn : t.cnt ≤ 1000000000) : FSpec Tryd.prog 21 [aTrie t] (.d (dEnts (entriesR t))) := by
  obtain ⟨l, r, ks⟩ := t
  show FSpec _ _ [.agg [.d (.s l), .d (dRows r), .d (.sl (encTries ks))]] _
  refine acalls_of Tryd.func21 rfl Tryd.ntmps21 Tryd.results21 (by simp) ?_
  have hE : (if rightB (.mk l r ks) then (walkE (fun _ => true) (.mk l r ks) ⟨#[]⟩).filter (fun e => true) else []) = entriesR (.mk l r ks) := by unfold entriesR; rw [walkE_all, List.filter_eq_self.2 (fun _ _ => rfl)]
  have hL := f51_spec 52 52 [] [] (fun _ => true) (fun _ => true) Tryd.call52 (fun p => f52_spec p) Tryd.call52 (fun p => f52_spec p) (.mk l r ks) hcn
  rw [hE] at hL
  refine awp_seq ?_
  refine awp_region ?_
  refine l_box (.plain rfl) rfl rfl rfl (.t .here) rfl rfl (fun g1 ng1 => ?_)
  refine lv (.plain rfl) rfl rfl (opv_assign rfl (Ev.eq .n)) ?_
  refine awpL_nil ?_
  refine awp_seq ?_
  refine awp_region ?_
  refine lv (.plain rfl) rfl rfl (q_loadn (agT25) rfl (Ev.eq (.t (.n 1 1 rfl))) .here rfl) ?_
  refine lv (.plain rfl) rfl rfl (q_call_z rfl .f Tryd.call51 (.cons (.t .here) (.cons .f (.cons .f .nil))) rfl (.cons .refl (.cons (.fn .nil) (.cons (.fn .nil) .nil))) (hL)) ?_
  refine lv (.plain rfl) rfl rfl (opv_assign rfl (Ev.eq (.t .here))) ?_
  refine awpL_nil ?_
  refine awp_ret ?_
  refine ret_now (.one (rv_t .here)) (Cast.all _ _) ?_
  exact ⟨rfl, rfl⟩
end Go.Proofs.YtjnkbmodcddbkaaDoor
