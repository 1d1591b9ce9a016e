/- A logic of abstract states. Part 8: slices that grow; slices made; freezing. -/
import Derived.Test.YtjnkbmodcddbkaaDoorAw7
import Derived.Maps.AppendAt
import Derived.Deep.Upon
import Derived.Deep.AppendSrc
set_option linter.unusedVariables false
set_option linter.unusedSimpArgs false
namespace Go.Proofs.YtjnkbmodcddbkaaDoor
open Go Go.RowKit

/-- What has been gathered: nothing yet, or a block of rows. -/
inductive Acc where
  | none
  | at (g cap : Nat) (rows : List (List AV))
def Acc.rows : Acc → List (List AV)
  | .none => []
  | .at _ _ r => r
def accV : Acc → AV
  | .none => .nil
  | .at g cap rows => .own g 0 rows.length cap
def accH (e : TypeId) (sz : Nat) : Acc → H
  | .none => []
  | .at g cap rows => [(g, .arr e sz rows cap)]
@[simp] theorem accV_one (a : Acc) : (accV a).one = true := by cases a <;> rfl
@[simp] theorem accV_cs (a : Acc) : (accV a).cs = [accV a] := by cases a <;> rfl
/-- What 'append' asks of the types. -/
def ApT (P : Program) (t : TypeId) (e sz bytes : Nat) : Prop := ∃ i z, P.underlying t = some (.slice e) ∧ P.info? e = some i ∧ i.zero = some z ∧ i.size = sz ∧ i.bytes = bytes ∧ z.cells.size = sz ∧ 0 < sz ∧ 0 < bytes
theorem apT {P : Program} {t e sz bytes : Nat} {z : Value} (ht : P.underlying t = some (.slice e)) (hi : (P.info? e).map (fun i => (i.zero, i.size, i.bytes)) = some (some z, sz, bytes)) (hz : z.cells.size = sz) (h0 : Nat.blt 0 sz = true) (h1 : Nat.blt 0 bytes = true) : ApT P t e sz bytes := by
  cases h : P.info? e with
  | none => rw [h] at hi; cases hi
  | some i =>
    rw [h] at hi
    simp only [Option.map_some, Option.some.injEq, Prod.mk.injEq] at hi
    exact ⟨i, z, ht, h, hi.1, hi.2.1, hi.2.2, hz, Nat.le_of_ble_eq_true h0, Nat.le_of_ble_eq_true h1⟩

section
variable {ro : Option Nat} {P : Program} {ops : Array Oper} {n : Nat} {tm : List (Nat × AV)} {h : H} {ds : List Nat} {o : Oper}

/-- The rows of the second argument. -/
structure News (X : Nat → Prop) (w : World) (h : H) (av : AV) (m : Nat) (sz : Nat) (rows : List (List AV)) : Prop where
  spec : ∀ v, AVR (Xh X h) w av v → ∃ ad c news, v = .slice (some ad) m c ∧ news.length = m * sz ∧ (∀ j u, news[j]? = some u → w.cell? (ad.add j) = some u) ∧ (∀ u, u ∈ news → u.oneCell' = true) ∧ AVs (Xh X h) w rows.flatten news
theorem flat_len {α : Type} {rows : List (List α)} {sz : Nat} (hs : ∀ r, r ∈ rows → r.length = sz) : rows.flatten.length = rows.length * sz := flatten_len hs
theorem all_one {Y : Nat → Prop} {w : World} {l : List AV} {vs : List Value} (h : AVs Y w l vs) (h1 : ∀ c, c ∈ l → c.one = true) : ∀ u, u ∈ vs → u.oneCell' = true := by
  intro u hu
  obtain ⟨i, hi⟩ := List.getElem?_of_mem hu
  have hlt : i < l.length := by have := (List.getElem?_eq_some_iff.1 hi).1; rw [h.1] at this; exact this
  exact one_cell (h.2 i _ u (List.getElem?_eq_getElem hlt) hi) (h1 _ (List.getElem_mem hlt))
/-- Of a block of its own. -/
theorem news_own {X : Nat → Prop} {w : World} {g cap e sz : Nat} {rows : List (List AV)} (hr : Rel X w h) (hm : (g, .arr e sz rows cap) ∈ h) (h1 : ∀ r, r ∈ rows → ∀ c, c ∈ r → c.one = true) : News X w h (.own g 0 rows.length cap) rows.length sz rows := by
  refine ⟨fun v hv => ?_⟩
  have e1 := inv_own hv
  obtain ⟨cs, hg, h2, h3, h4, h5, h6⟩ := hr.blk g _ hm
  refine ⟨⟨g, 0, none⟩, cap, cs.take (rows.length * sz), e1, ?_, fun j u hj => ?_, ?_, h6⟩
  · have := h6.1; rw [this, flatten_len h5]
  · rw [List.getElem?_take] at hj
    split at hj
    · rw [add_pt]
      simp only [Nat.zero_add]
      simp [World.cell?, hg, hj]
    · cases hj
  · refine all_one h6 (fun c hc => ?_)
    obtain ⟨r, hr1, hr2⟩ := List.mem_flatten.1 hc
    exact h1 r hr1 c hr2
theorem dvals {Y : Nat → Prop} {w : World} (n : Nat) (vals : Nat → Value) : ((List.range n).map vals).length = n := by simp
theorem flat_at {α : Type} {xs : List (List α)} {sz : Nat} (hs : ∀ r, r ∈ xs → r.length = sz) : ∀ (k : Nat), k < xs.length * sz → ∃ r x, xs[k / sz]? = some r ∧ r[k % sz]? = some x ∧ xs.flatten[k]? = some x := by
  intro k hk
  have h0 : 0 < sz := by
    rcases Nat.eq_zero_or_pos sz with h | h
    · subst h; simp at hk
    · exact h
  have hd : k / sz < xs.length := (Nat.div_lt_iff_lt_mul h0).2 hk
  have hr := List.getElem?_eq_getElem hd
  have hl := hs _ (List.getElem_mem hd)
  have hm : k % sz < (xs[k / sz]).length := by rw [hl]; exact Nat.mod_lt _ h0
  refine ⟨_, _, hr, List.getElem?_eq_getElem hm, ?_⟩
  have := flatten_at hs hr (List.getElem?_eq_getElem hm)
  rwa [Nat.div_add_mod' k sz] at this
/-- Of a frozen slice that is not empty. -/
theorem news_frozen {X : Nat → Prop} {w : World} {xs : List (List D)} {sz : Nat} (hx : ∀ r, r ∈ xs → r.length = sz) (h0 : 0 < xs.length) (h1 : ∀ r, r ∈ xs → ∀ c, c ∈ r → (AV.d c).one = true) : News X w h (.d (.sl xs)) xs.length sz (xs.map (·.map .d)) := by
  refine ⟨fun v hv => ?_⟩
  cases hv with
  | d hd =>
    cases hd with
    | sl _ A c sz' ad vals hc hm hsz hA hv hr =>
      obtain ⟨rfl, h2, h3⟩ := hA h0
      have es : sz' = sz := by
        have hm0 := List.getElem_mem h0
        rw [← hsz _ hm0, hx _ hm0]
      subst es
      have hfl : ((xs.map (·.map AV.d)).flatten) = xs.flatten.map AV.d := by simp [List.map_flatten]
      have key : ∀ k, k < xs.length * sz' → ∃ x, xs.flatten[k]? = some x ∧ w.cell? (ad.add k) = some (vals (k / sz') (k % sz')) ∧ DR (Xh X h) w x (vals (k / sz') (k % sz')) := fun k hk => by
        obtain ⟨r, x, hr1, hr2, hr3⟩ := flat_at hx k hk
        have := hv _ _ r x hr1 hr2
        rw [Nat.div_add_mod' k sz'] at this
        exact ⟨x, hr3, this, hr _ _ r x hr1 hr2⟩
      have hnl : ((List.range (xs.length * sz')).map fun k => vals (k / sz') (k % sz')).length = xs.length * sz' := by simp
      have hA2 : AVs (Xh X h) w ((xs.map (·.map AV.d)).flatten) ((List.range (xs.length * sz')).map fun k => vals (k / sz') (k % sz')) := by
        refine ⟨by rw [hnl, hfl, List.length_map, flatten_len hx], fun i c v hci hvi => ?_⟩
        have hi : i < xs.length * sz' := by have := (List.getElem?_eq_some_iff.1 hvi).1; rwa [hnl] at this
        obtain ⟨x, e1, _, e3⟩ := key i hi
        rw [hfl, List.getElem?_map, e1] at hci
        simp at hci; subst hci
        rw [List.getElem?_map, List.getElem?_range hi] at hvi
        simp at hvi; subst hvi
        exact .d e3
      refine ⟨ad, c, _, rfl, hnl, fun j u hj => ?_, ?_, hA2⟩
      · have hi : j < xs.length * sz' := by have := (List.getElem?_eq_some_iff.1 hj).1; rwa [hnl] at this
        obtain ⟨x, _, e2, _⟩ := key j hi
        rw [List.getElem?_map, List.getElem?_range hi] at hj
        simp at hj; subst hj
        exact e2
      · refine all_one hA2 (fun c hc => ?_)
        obtain ⟨r, hr1, hr2⟩ := List.mem_flatten.1 hc
        obtain ⟨r0, hr0, rfl⟩ := List.mem_map.1 hr1
        obtain ⟨d, hd, rfl⟩ := List.mem_map.1 hr2
        exact h1 r0 hr0 d hd

theorem Xh_perm {X : Nat → Prop} {a b : H} (p : a.Perm b) : Xh X a = Xh X b := by
  funext g
  exact propext (or_congr Iff.rfl (keys_perm p))
theorem Rel.perm {X : Nat → Prop} {w : World} {a b : H} (r : Rel X w a) (p : a.Perm b) : Rel X w b :=
  ⟨(p.map Prod.fst).nodup_iff.1 r.nodup, fun g hg => r.notX g ((keys_perm p).2 hg), fun g hg => r.lt g ((keys_perm p).2 hg), r.xlt, fun g b hb => by rw [← Xh_perm p]; exact r.blk g b (p.mem_iff.2 hb), by rw [← Xh_perm p]; exact r.glob⟩
theorem Step.perm {w w' : World} {h a b : H} (st : Step h a w w') (p : a.Perm b) : Step h b w w' := st.drop (fun g hg => (keys_perm p).2 hg)

/-- **append**: to what has been gathered. -/
theorem opx_append {ρ : Operand → AV} {t e sz bytes m : Nat} {x y : Operand} {acc : Acc} {rows : List (List AV)} {hf hg : H} (ht : ApT P t e sz bytes) (ho : o.op = .call { callee := .builtin .append, args := #[x, y], argTypes := #[t, t] })
    (hx : ρ x = accV acc) (hh : h = hf ++ (accH e sz acc ++ hg)) (hnews : ∀ X w, Rel X w h → News X w h (ρ y) m sz rows) (hrow : ∀ r, r ∈ rows → r.length = sz) (hm : rows.length = m) (hb : (acc.rows.length + m) * bytes ≤ 140737488355328) (hcap : acc.rows.length + m ≤ maxLen) :
    OpX ro P h ρ o (fun av h' => ∃ acc', acc'.rows = acc.rows ++ rows ∧ av = accV acc' ∧ h' = hf ++ (accH e sz acc' ++ hg)) := by
  obtain ⟨i, z, hu, hi, hz, hs, hby, hzs, hpos, _⟩ := ht
  refine opx_val (by simp [ho]) fun X w a hr hops => ?_
  have e1 := hops x (by simp [ho, Op.operands, Call.operands])
  have e2 := hops y (by simp [ho, Op.operands, Call.operands])
  rw [hx] at e1
  obtain ⟨ad, c, news, hv2, hnl, hncell, hnone, hnA⟩ := (hnews X w hr).spec _ e2
  -- what is gathered, in the kit's words
  have hown : ∃ xs, w.ownsRow 0 e sz (a.eval x) acc.rows.length xs ∧ AVs (Xh X h) w acc.rows.flatten xs ∧ (∀ r, r ∈ acc.rows → r.length = sz) := by
    cases acc with
    | none => rw [inv_nil e1]; exact ⟨[], ⟨by simp [Acc.rows], .inl ⟨rfl, rfl⟩⟩, AVs.nil, fun r hr => by cases hr⟩
    | «at» g cap rs =>
      have hmem : (g, Blk.arr e sz rs cap) ∈ h := by rw [hh]; exact List.mem_append_right _ (List.mem_append_left _ (by simp [accH]))
      obtain ⟨cs, hgc, h2, h3, h4, h5, h6⟩ := hr.blk g _ hmem
      rw [inv_own e1]
      refine ⟨cs.take (rs.length * sz), ⟨?_, .inr ⟨g, cap, cs.toArray, rfl, Nat.zero_le _, hgc, h4, h3, by simpa using h2, rfl⟩⟩, h6, h5⟩
      have := h6.1; rw [this, flatten_len h5]; rfl
  obtain ⟨xs, hown, hxA, hxr⟩ := hown
  obtain ⟨v', w', hrun, hown', hgb, hnil, hat⟩ := run_append_own_at (P := P) w 0 t o.type e i z sz bytes hu hi hz hs hby hzs hpos _ _ xs hown ad m c news hnl hncell hnone hcap hb (Nat.zero_le _)
  have hrunE : (execOp a.eval o).run P w = .ok (.value v') w' := by
    simp [execOp, ho, resolve, invoke, builtin, hv2, hrun, Result.andThen]
  have hAll : AVs (Xh X h) w (acc.rows ++ rows).flatten (xs ++ news) := by rw [List.flatten_append]; exact hxA.append hnA
  have hrr : ∀ r, r ∈ acc.rows ++ rows → r.length = sz := fun r hr => by
    rcases List.mem_append.1 hr with h1 | h1
    · exact hxr r h1
    · exact hrow r h1
  have hlen : (acc.rows ++ rows).length = acc.rows.length + m := by rw [List.length_append, hm]
  rcases hown'.2 with ⟨rfl, hz0⟩ | ⟨g', cap', cur, rfl, _, hg', hnc, hcm, hcs, htk⟩
  · -- nothing at all
    have hm0 : m = 0 := by omega
    have hr0 : rows = [] := List.eq_nil_of_length_eq_zero (by omega)
    have ha0 : acc.rows = [] := List.eq_nil_of_length_eq_zero (by omega)
    obtain ⟨hv0, _⟩ := hnil.1 rfl
    have hacc : acc = .none := by
      cases acc with
      | none => rfl
      | «at» g cap rs => rw [inv_own e1] at hv0; simp at hv0
    subst hacc
    subst hr0
    have hsame := hr.same (w' := w') hgb.os hgb.tape hgb.output hgb.size (fun k hk => hgb.block k hk (by rw [hv0]; simp [Value.ownBlock]))
    exact ⟨.slice none 0 0, w', h, .nil, hrunE, ⟨.none, rfl, rfl, hh⟩, hsame.1, hsame.2, .nil⟩
  · have hcur : cur = cur.toList.toArray := by simp
    have hblk : Keep (Xh X h) w (Xh X (hf ++ ([(g', Blk.arr e sz (acc.rows ++ rows) cap')] ++ hg))) w' → BlkR (Xh X (hf ++ ([(g', Blk.arr e sz (acc.rows ++ rows) cap')] ++ hg))) w' g' (.arr e sz (acc.rows ++ rows) cap') := fun hk => by
      refine ⟨cur.toList, by rw [← hcur]; exact hg', by simpa using hcs, hcm, by rw [hlen]; exact hnc, hrr, ?_⟩
      rw [hlen, htk]
      exact hAll.mono hk
    have hval : AVR (Xh X (hf ++ ([(g', Blk.arr e sz (acc.rows ++ rows) cap')] ++ hg))) w' (accV (.at g' cap' (acc.rows ++ rows))) (.slice (some ⟨g', 0, none⟩) (acc.rows.length + m) cap') := by
      rw [← hlen]; exact .own _ _ _ _
    cases acc with
    | none =>
      have hv0 := inv_nil e1
      have hge : g' = w.heap.size := by
        rcases hat with h1 | h1
        · rw [hv0] at h1; simp [Value.ownBlock] at h1
        · simpa [Value.ownBlock] using h1
      have hlt : g' < w'.heap.size := by
        rcases Nat.lt_or_ge g' w'.heap.size with h1 | h1
        · exact h1
        · rw [Array.getElem?_eq_none h1] at hg'; cases hg'
      have hp : ((g', Blk.arr e sz ((Acc.none).rows ++ rows) cap') :: h).Perm (hf ++ ([(g', Blk.arr e sz ((Acc.none).rows ++ rows) cap')] ++ hg)) := by
        rw [hh]; simp only [accH, List.nil_append]
        exact (List.perm_middle (a := (g', Blk.arr e sz ((Acc.none).rows ++ rows) cap')) (l₁ := hf) (l₂ := hg)).symm
      have := hr.cons (w' := w') (g := g') (b := .arr e sz ((Acc.none).rows ++ rows) cap') hgb.os hgb.tape hgb.output hgb.size (fun k hk => hgb.block k hk (by rw [hv0]; simp [Value.ownBlock])) ⟨by omega, hlt⟩ (fun hk => by
        rw [Xh_perm hp] at hk ⊢; exact hblk hk)
      exact ⟨_, w', _, _, hrunE, ⟨.at g' cap' ((Acc.none).rows ++ rows), rfl, rfl, rfl⟩, this.1.perm hp, this.2.perm hp, hval⟩
    | «at» g cap rs =>
      have hv0 := inv_own e1
      have hidx : h[hf.length]? = some (g, Blk.arr e sz rs cap) := by rw [hh]; simp [accH]
      have hset : h.set hf.length (g', Blk.arr e sz ((Acc.at g cap rs).rows ++ rows) cap') = hf ++ ([(g', Blk.arr e sz ((Acc.at g cap rs).rows ++ rows) cap')] ++ hg) := by rw [hh]; simp [accH]
      have hlt : g' < w'.heap.size := by
        rcases Nat.lt_or_ge g' w'.heap.size with h1 | h1
        · exact h1
        · rw [Array.getElem?_eq_none h1] at hg'; cases hg'
      have hgg : g' = g ∨ (w.heap.size ≤ g' ∧ g' < w'.heap.size) := by
        rcases hat with h1 | h1
        · rw [hv0] at h1; simp [Value.ownBlock] at h1; exact .inl h1
        · simp [Value.ownBlock] at h1; exact .inr ⟨by omega, hlt⟩
      have := hr.repl (w' := w') (g' := g') (b' := .arr e sz ((Acc.at g cap rs).rows ++ rows) cap') hidx hgb.os hgb.tape hgb.output hgb.size (fun k hk hne => hgb.block k hk (by rw [hv0]; simp [Value.ownBlock]; exact hne)) hgg (fun hk => by rw [hset] at hk ⊢; exact hblk hk)
      rw [hset] at this
      exact ⟨_, w', _, _, hrunE, ⟨.at g' cap' ((Acc.at g cap rs).rows ++ rows), rfl, rfl, rfl⟩, this.1, this.2, hval⟩

/-- One row that was just built is appended; the gathered one stands last in the heap. -/
theorem x_append {t e sz bytes g : Nat} {x y : Operand} {acc : Acc} {rows : List (List AV)} {hf : H} (ht : ApT P t e sz bytes) (ho : o.op = .call { callee := .builtin .append, args := #[x, y], argTypes := #[t, t] })
    (hx : Ev tm x (accV acc)) (hy : Ev tm y (.own g 0 rows.length rows.length)) (hh : h = hf ++ accH e sz acc) (hm : (g, .arr e sz rows rows.length) ∈ h) (h1 : rows.all (·.all AV.one) = true) (hs : rows.all (fun r => Nat.beq r.length sz) = true) (hb : (acc.rows.length + rows.length) * bytes ≤ 140737488355328) :
    OpX ro P h (evT tm) o (fun av h' => ∃ acc', acc'.rows = acc.rows ++ rows ∧ av = accV acc' ∧ h' = hf ++ accH e sz acc') := by
  have hsz : ∀ r, r ∈ rows → r.length = sz := fun r hr => Nat.eq_of_beq_eq_true (List.all_eq_true.1 hs r hr)
  have hbp : acc.rows.length + rows.length ≤ maxLen := by
    obtain ⟨i, z, _, _, _, _, hby, _, _, hp⟩ := ht
    have : acc.rows.length + rows.length ≤ (acc.rows.length + rows.length) * bytes := Nat.le_mul_of_pos_right _ hp
    simp only [maxLen]
    omega
  have := opx_append (hg := []) (ro := ro) (P := P) ht ho hx.eq (by simpa using hh) (m := rows.length) (rows := rows) (fun X w hr => by rw [hy.eq]; exact news_own hr hm (fun r hr c hc => List.all_eq_true.1 (List.all_eq_true.1 h1 r hr) c hc)) hsz rfl hb hbp
  refine opx_mono this ?_
  rintro av h' ⟨acc', h1, h2, h3⟩
  exact ⟨acc', h1, h2, by simpa using h3⟩

/-- A frozen slice is appended. -/
theorem x_append_f {t e sz bytes : Nat} {x y : Operand} {acc : Acc} {xs : List (List D)} {hf : H} (ht : ApT P t e sz bytes) (ho : o.op = .call { callee := .builtin .append, args := #[x, y], argTypes := #[t, t] })
    (hx : Ev tm x (accV acc)) (hy : Ev tm y (.d (.sl xs))) (hh : h = hf ++ accH e sz acc) (h0 : 0 < xs.length) (hs : ∀ r, r ∈ xs → r.length = sz) (hb : (acc.rows.length + xs.length) * bytes ≤ 140737488355328) :
    OpX ro P h (evT tm) o (fun av h' => ∃ acc', acc'.rows = acc.rows ++ xs.map (·.map .d) ∧ av = accV acc' ∧ h' = hf ++ accH e sz acc') := by
  have hbp : acc.rows.length + xs.length ≤ maxLen := by
    obtain ⟨i, z, _, _, _, _, hby, _, _, hp⟩ := ht
    have : acc.rows.length + xs.length ≤ (acc.rows.length + xs.length) * bytes := Nat.le_mul_of_pos_right _ hp
    simp only [maxLen]
    omega
  have := opx_append (hg := []) (ro := ro) (P := P) ht ho hx.eq (by simpa using hh) (m := xs.length) (rows := xs.map (·.map .d)) (fun X w hr => by rw [hy.eq]; exact news_frozen hs h0 (fun r hr c hc => rfl)) (fun r hr => by
    obtain ⟨r0, h1, rfl⟩ := List.mem_map.1 hr
    simp [hs r0 h1]) (by simp) hb hbp
  refine opx_mono this ?_
  rintro av h' ⟨acc', h1, h2, h3⟩
  exact ⟨acc', h1, h2, by simpa using h3⟩
theorem q_len_acc {ρ : Operand → AV} {x : Operand} {t e : TypeId} {acc : Acc} {k : Nat} (ht : P.underlying t = some (.slice e)) (ho : o.op = .call { callee := .builtin .len, args := #[x], argTypes := #[t] }) (hx : ρ x = accV acc) (hk : acc.rows.length = k) : OpV ro P h ρ o (.d (.i .i64 (k : Nat))) := by
  subst hk
  cases acc with
  | none => exact opv_len_nil ht ho hx rfl
  | «at» g cap rows => exact opv_len_own ht ho hx rfl

/-! ### slices made of their elements -/
def SlZ (P : Program) (e sz n : Nat) (z : List AV) : Prop := ∃ zv, (∀ w, (zeroValue e).run P w = .ok zv w) ∧ (List.range (n * sz)).map (fun i => constAV (zv.cells[i % zv.cells.size]!)) = z
theorem x_buildSlice {t e sz n' : Nat} {parts : List (Nat × Operand)} {vs : List (Nat × AV)} {z cs : List AV} {rows : List (List AV)} (ht : SlT P t e sz) (hz : SlZ P e sz n' z) (h0 : Nat.beq (n' * sz) 0 = false) (hbig : Nat.ble (n' * sz) 16777216 = true) (ho : o.op = .buildSlice t n' parts.toArray) (hp : Parts tm parts vs)
    (h1 : vs.all (fun p => p.2.cs.all AV.one) = true) (hf : fillA (fun i => some (i * sz, sz)) z vs = some cs) (hr : rows.flatten = cs) (hn : rows.length = n') (hs : rows.all (fun r => Nat.beq r.length sz) = true) :
    OpX ro P h (evT tm) o (fun av h' => ∃ g, g ∉ keys h ∧ av = .own g 0 n' n' ∧ h' = (g, .arr e sz rows n') :: h) := by
  obtain ⟨hu, hsz⟩ := ht
  obtain ⟨zv, hzr, hzc⟩ := hz
  refine opx_val (by simp [ho]) fun X w a hR hops => ?_
  have hspec := hp.spec
  have hzc : ((Array.range (n' * sz)).map (zv.cells[· % zv.cells.size]!)).toList.map constAV = z := by rw [← hzc]; simp
  subst hzc
  obtain ⟨out, hfill, hA⟩ := fill_rel (Y := Xh X h) (w := w) (place := fun i => some (i * sz, sz)) (parts := vs) (vparts := parts.map fun p => (p.1, a.eval p.2)) (cells := ((Array.range (n' * sz)).map (zv.cells[· % zv.cells.size]!)).toList.map constAV) (cur := (Array.range (n' * sz)).map (zv.cells[· % zv.cells.size]!)) (cs := cs)
    (by rw [hspec]; simp) (fun j p q h2 h3 => by
      rw [hspec, List.getElem?_map] at h2
      rw [List.getElem?_map] at h3
      cases hj : parts[j]? with
      | none => rw [hj] at h2; cases h2
      | some pp =>
        rw [hj] at h2 h3
        simp at h2 h3; subst h2; subst h3
        refine ⟨rfl, hops pp.2 (by rw [ho]; simp [Op.operands]; exact ⟨pp.1, List.mem_of_getElem? hj⟩), fun c hc => ?_⟩
        have hm : (pp.1, evT tm pp.2) ∈ vs := by rw [hspec]; exact List.mem_map.2 ⟨pp, List.mem_of_getElem? hj, rfl⟩
        exact List.all_eq_true.1 (List.all_eq_true.1 h1 _ hm) c hc) (const_zero _) hf
  have hne : ¬ (n' * sz = 0) := fun e => by rw [e] at h0; cases h0
  have hle : ¬ (16777216 < n' * sz) := by have := Nat.le_of_ble_eq_true hbig; omega
  have hrunE : (execOp a.eval o).run P w = .ok (.value (.slice (some ⟨w.heap.size, 0, none⟩) n' n')) (w.alloc (.cells out e)) := by
    have hmap : (parts.toArray.map fun x => (x.1, a.eval x.2)).toList = parts.map fun p => (p.1, a.eval p.2) := by simp
    simp only [execOp, ho]
    simp [Instr.buildSlice, run_underlying hu, hsz, hle, hne, hzr, hfill, newRow, Result.andThen]
  have hcur : out = out.toList.toArray := by simp
  have hfl : ∀ r, r ∈ rows → r.length = sz := fun r hr => Nat.eq_of_beq_eq_true (List.all_eq_true.1 hs r hr)
  have hol : out.toList.length = n' * sz := by rw [hA.1, ← hr, flatten_len hfl, hn]
  have hml : n' ≤ maxLen := by
    have h2 := Nat.le_of_ble_eq_true hbig
    have h3 : 0 < sz := by
      rcases Nat.eq_zero_or_pos sz with h | h
      · exact absurd (by rw [h]; simp) hne
      · exact h
    have h4 : n' ≤ n' * sz := Nat.le_mul_of_pos_right _ h3
    simp only [maxLen]
    omega
  have := hR.cons (w' := w.alloc (.cells out e)) (g := w.heap.size) (b := .arr e sz rows n') rfl rfl rfl (by simp) (fun k hk => Below.heap_alloc _ _ _ hk) ⟨Nat.le_refl _, by simp⟩ (fun hkeep => by
    refine ⟨out.toList, by rw [← hcur]; exact heap_alloc_new w _, hol, hml, by omega, hfl, ?_⟩
    rw [hr, hn, ← hol, List.take_length]
    exact hA.mono hkeep)
  exact ⟨_, _, _, .own w.heap.size 0 n' n', hrunE, ⟨_, fun hm => (by have := hR.lt _ hm; omega), rfl, rfl⟩, this.1, this.2, .own _ _ _ _⟩

/-! ### freezing -/
mutual
inductive Frz (h : H) : AV → AV → Prop where
  | refl {a : AV} : Frz h a a
  | nil : Frz h .nil (.d (.sl []))
  | own {g cap len e sz : Nat} {rows : List (List AV)} {xs : List (List D)} (hm : (g, .arr e sz rows cap) ∈ h) (hr : rows = xs.map (·.map .d)) (hl : rows.length = len) : Frz h (.own g 0 len cap) (.d (.sl xs))
  | agg {l m : List AV} (k : FrzL h l m) : Frz h (.agg l) (.agg m)
  | tup {l m : List AV} (k : FrzL h l m) : Frz h (.tup l) (.tup m)
  /-- A variable. -/
  | ptr {g e : Nat} {cs0 : List AV} {cs : List D} (hm : (g, .var e cs0) ∈ h) (k : FrzL h cs0 (cs.map .d)) : Frz h (.ptr g 0) (.fptr cs)
  /-- A function with its variables. -/
  | fn {f : FuncId} {caps : List AV} {cells : List (List D)} (k : FrzC h caps cells) : Frz h (.fn (.func f) caps) (.d (.fn f cells))
inductive FrzL (h : H) : List AV → List AV → Prop where
  | nil : FrzL h [] []
  | cons {a b : AV} {l m : List AV} (h1 : Frz h a b) (k : FrzL h l m) : FrzL h (a :: l) (b :: m)
inductive FrzC (h : H) : List AV → List (List D) → Prop where
  | nil : FrzC h [] []
  | ptr {g e : Nat} {cs0 : List AV} {cs : List D} {l : List AV} {m : List (List D)} (hm : (g, .var e cs0) ∈ h) (k : FrzL h cs0 (cs.map .d)) (r : FrzC h l m) : FrzC h (.ptr g 0 :: l) (cs :: m)
  | fptr {cs : List D} {l : List AV} {m : List (List D)} (r : FrzC h l m) : FrzC h (.fptr cs :: l) (cs :: m)
end
theorem avr_fn {Y : Nat → Prop} {w : World} {f : FuncId} {cells : List (List D)} {cvs : List Value} (ads : Nat → Addr) (vals : Nat → Nat → Value) (he : cvs = (List.range cells.length).map (fun j => Value.pointer (some (ads j))))
    (hA : ∀ j, j < cells.length → ¬ Y (ads j).block ∧ (ads j).block < w.heap.size) (hv : ∀ (j i : Nat) (r : List D) (x : D), cells[j]? = some r → r[i]? = some x → w.cell? ((ads j).add i) = some (vals j i) ∧ DR Y w x (vals j i)) : AVR Y w (.d (.fn f cells)) (.func (.func f) #[] cvs.toArray) := by
  subst he
  exact .d (.fn f cells ads vals hA (fun j i r x h1 h2 => (hv j i r x h1 h2).1) (fun j i r x h1 h2 => (hv j i r x h1 h2).2))
/-- One variable more. -/
theorem caps_cons {Y : Nat → Prop} {w : World} {cs : List D} {m : List (List D)} {r : List Value} {ad : Addr} {vl : Nat → Value} (h0 : ¬ Y ad.block ∧ ad.block < w.heap.size) (h1 : ∀ (i : Nat) (x : D), cs[i]? = some x → w.cell? (ad.add i) = some (vl i) ∧ DR Y w x (vl i))
    (k : ∃ (ads : Nat → Addr) (vals : Nat → Nat → Value), r = (List.range m.length).map (fun j => Value.pointer (some (ads j))) ∧ (∀ j, j < m.length → ¬ Y (ads j).block ∧ (ads j).block < w.heap.size) ∧ ∀ (j i : Nat) (q : List D) (x : D), m[j]? = some q → q[i]? = some x → w.cell? ((ads j).add i) = some (vals j i) ∧ DR Y w x (vals j i)) :
    ∃ (ads : Nat → Addr) (vals : Nat → Nat → Value), (Value.pointer (some ad) :: r) = (List.range (cs :: m).length).map (fun j => Value.pointer (some (ads j))) ∧ (∀ j, j < (cs :: m).length → ¬ Y (ads j).block ∧ (ads j).block < w.heap.size) ∧ ∀ (j i : Nat) (q : List D) (x : D), (cs :: m)[j]? = some q → q[i]? = some x → w.cell? ((ads j).add i) = some (vals j i) ∧ DR Y w x (vals j i) := by
  obtain ⟨ads, vals, he, hA, hv⟩ := k
  refine ⟨fun j => match j with | 0 => ad | j + 1 => ads j, fun j => match j with | 0 => vl | j + 1 => vals j, ?_, fun j hj => ?_, fun j i q x hj hi => ?_⟩
  · rw [List.length_cons, List.range_succ_eq_map, List.map_cons, List.map_map, he]
    rfl
  · cases j with
    | zero => exact h0
    | succ j => exact hA j (by simpa using hj)
  · cases j with
    | zero =>
      simp at hj
      subst hj
      exact h1 i x hi
    | succ j => exact hv j i q x (by simpa using hj) hi
theorem frz_acc {e sz : Nat} {acc : Acc} {xs : List (List D)} (hm : ∀ p, p ∈ accH e sz acc → p ∈ h) (hr : acc.rows = xs.map (·.map .d)) : Frz h (accV acc) (.d (.sl xs)) := by
  cases acc with
  | none =>
    have : xs = [] := by
      cases xs with
      | nil => rfl
      | cons x r => simp [Acc.rows] at hr
    subst this
    exact .nil
  | «at» g cap rows => exact .own (e := e) (sz := sz) (rows := rows) (hm _ (by simp [accH])) hr rfl

theorem DR_of {Y : Nat → Prop} {w : World} {d : D} {v : Value} (h : AVR Y w (.d d) v) : DR Y w d v := by cases h with | d h => exact h
/-- A block that nobody names any more: its slice is data. -/
theorem frz_own {X : Nat → Prop} {w : World} {h hz h' : H} (hr : Rel X w h) (p : h.Perm (hz ++ h')) {g cap len e sz : Nat} {rows : List (List AV)} {xs : List (List D)} (hm : (g, Blk.arr e sz rows cap) ∈ hz) (hrr : rows = xs.map (·.map .d)) (hl : rows.length = len) :
    AVR (Xh X h') w (.d (.sl xs)) (.slice (some ⟨g, 0, none⟩) len cap) := by
  have hmh : (g, Blk.arr e sz rows cap) ∈ h := p.mem_iff.2 (List.mem_append_left _ hm)
  obtain ⟨cs, hg, h2, h3, h4, h5, h6⟩ := hr.blk g _ hmh
  have hnd : (keys (hz ++ h')).Nodup := (p.map Prod.fst).nodup_iff.1 hr.nodup
  rw [keys_append] at hnd
  have hgz : g ∈ keys hz := List.mem_map.2 ⟨_, hm, rfl⟩
  have hg' : g ∉ keys h' := fun hk => (List.nodup_append.1 hnd).2.2 g hgz g hk rfl
  have hgk : g ∈ keys h := (keys_perm p).2 (by rw [keys_append]; exact List.mem_append_left _ hgz)
  have hxl : xs.length = len := by rw [← hl, hrr]; simp
  have hkeep : Keep (Xh X h) w (Xh X h') w := ⟨Nat.le_refl _, fun i hi hn => ⟨fun hx => hn (hx.imp id (fun hk => (keys_perm p).2 (by rw [keys_append]; exact List.mem_append_right _ hk))), rfl⟩⟩
  subst hxl
  have hsz : ∀ r, r ∈ xs → r.length = sz := fun r hr2 => by
    have := h5 (r.map .d) (by rw [hrr]; exact List.mem_map.2 ⟨r, hr2, rfl⟩)
    simpa using this
  refine .d (.sl xs (some ⟨g, 0, none⟩) cap sz ⟨g, 0, none⟩ (fun j i => (cs.take (rows.length * sz)).getD (j * sz + i) undef) (by omega) (by simp only [maxLen] at h3; omega) hsz (fun _ => ⟨rfl, fun hx => ?_, hr.lt g hgk⟩) ?_ ?_)
  · rcases hx with hx | hx
    · exact hr.notX g hgk hx
    · exact hg' hx
  all_goals
    intro j i r x hj hi
    have hrj : rows[j]? = some (r.map AV.d) := by rw [hrr, List.getElem?_map, hj]; rfl
    have hri : (r.map AV.d)[i]? = some (.d x) := by rw [List.getElem?_map, hi]; rfl
    have hfa := flatten_at h5 hrj hri
    have hlt : j * sz + i < (cs.take (rows.length * sz)).length := by rw [h6.1]; exact (List.getElem?_eq_some_iff.1 hfa).1
    have hc := List.getElem?_eq_getElem hlt
    have e1 : (cs.take (rows.length * sz)).getD (j * sz + i) undef = (cs.take (rows.length * sz))[j * sz + i] := by rw [List.getD_eq_getElem?_getD, hc]; rfl
    rw [e1]
  · rw [add_pt]
    simp only [Nat.zero_add]
    have h7 : cs[j * sz + i]? = some ((cs.take (rows.length * sz))[j * sz + i]) := by
      have h8 := hc
      rw [List.getElem?_take] at h8
      split at h8
      · exact h8
      · cases h8
    simp only [World.cell?, hg]
    simp
  · exact DR_of ((h6.2 _ _ _ hfa hc).mono hkeep)
mutual
theorem frz_val {X : Nat → Prop} {w : World} {h hz h' : H} (hr : Rel X w h) (p : h.Perm (hz ++ h')) : ∀ {a b : AV} {v : Value}, Frz hz a b → AVR (Xh X h) w a v → AVR (Xh X h') w b v
  | _, _, _, .refl, hv => hv.mono ⟨Nat.le_refl _, fun i hi hn => ⟨fun hx => hn (hx.imp id (fun hk => (keys_perm p).2 (by rw [keys_append]; exact List.mem_append_right _ hk))), rfl⟩⟩
  | _, _, _, .nil, hv => by rw [inv_nil hv]; exact .d (.sl [] none 0 0 ⟨0, 0, none⟩ (fun _ _ => undef) (Nat.le_refl _) (by simp) (fun r hr => by cases hr) (fun h0 => by simp at h0) (fun j i r x hj => by simp at hj) (fun j i r x hj => by simp at hj))
  | _, _, _, .own hm hrr hl, hv => by rw [inv_own hv]; exact frz_own hr p hm hrr hl
  | _, _, _, .agg k, hv => by
    obtain ⟨vs, rfl, hA⟩ := inv_agg hv
    exact (frz_vals hr p k hA).agg
  | _, _, _, .tup k, hv => by
    obtain ⟨vs, rfl, hA⟩ := inv_tup hv
    exact (frz_vals hr p k hA).tup
  | _, _, _, .ptr hm k, hv => by
    rename_i g e cs0 cs
    rw [inv_ptr hv]
    have hmh := p.mem_iff.2 (List.mem_append_left h' hm)
    obtain ⟨cv, hg, h6⟩ := hr.blk g _ hmh
    have h7 := frz_vals hr p k h6
    have hnd : (keys (hz ++ h')).Nodup := (p.map Prod.fst).nodup_iff.1 hr.nodup
    rw [keys_append] at hnd
    have hgz : g ∈ keys hz := List.mem_map.2 ⟨_, hm, rfl⟩
    have hg' : g ∉ keys h' := fun hk => (List.nodup_append.1 hnd).2.2 g hgz g hk rfl
    have hgk : g ∈ keys h := (keys_perm p).2 (by rw [keys_append]; exact List.mem_append_left _ hgz)
    have key : ∀ (i : Nat) (x : D), cs[i]? = some x → w.cell? (Addr.add ⟨g, 0, none⟩ i) = some (cv.getD i undef) ∧ DR (Xh X h') w x (cv.getD i undef) := fun i x hi => by
      have hi' : (cs.map AV.d)[i]? = some (.d x) := by rw [List.getElem?_map, hi]; rfl
      have hil : i < cv.length := by rw [h7.1]; exact (List.getElem?_eq_some_iff.1 hi').1
      have hc := List.getElem?_eq_getElem hil
      have e1 : cv.getD i undef = cv[i] := by rw [List.getD_eq_getElem?_getD, hc]; rfl
      rw [e1]
      refine ⟨?_, DR_of (h7.2 i _ _ hi' hc)⟩
      rw [add_pt]
      simp only [Nat.zero_add, World.cell?, hg]
      simp
    exact .fptr cs ⟨g, 0, none⟩ (fun i => cv.getD i undef) ⟨fun hx => hx.elim (hr.notX g hgk) hg', hr.lt g hgk⟩ (fun i x hi => (key i x hi).1) (fun i x hi => (key i x hi).2)
  | _, _, _, .fn k, hv => by
    obtain ⟨vs, rfl, hA⟩ := inv_fn hv
    obtain ⟨ads, vals, he, h1, h2⟩ := frz_caps hr p k hA
    exact avr_fn ads vals he h1 h2
theorem frz_vals {X : Nat → Prop} {w : World} {h hz h' : H} (hr : Rel X w h) (p : h.Perm (hz ++ h')) : ∀ {l m : List AV} {vs : List Value}, FrzL hz l m → AVs (Xh X h) w l vs → AVs (Xh X h') w m vs
  | _, _, _, .nil, hv => by rw [hv.nil_inv]; exact AVs.nil
  | _, _, _, .cons h1 k, hv => by
    obtain ⟨v, r, rfl, h2, h3⟩ := hv.cons_inv
    exact AVs.cons (frz_val hr p h1 h2) (frz_vals hr p k h3)
theorem frz_caps {X : Nat → Prop} {w : World} {h hz h' : H} (hr : Rel X w h) (p : h.Perm (hz ++ h')) : ∀ {l : List AV} {m : List (List D)} {vs : List Value}, FrzC hz l m → AVs (Xh X h) w l vs →
    ∃ (ads : Nat → Addr) (vals : Nat → Nat → Value), vs = (List.range m.length).map (fun j => Value.pointer (some (ads j))) ∧ (∀ j, j < m.length → ¬ Xh X h' (ads j).block ∧ (ads j).block < w.heap.size) ∧ ∀ (j i : Nat) (q : List D) (x : D), m[j]? = some q → q[i]? = some x → w.cell? ((ads j).add i) = some (vals j i) ∧ DR (Xh X h') w x (vals j i)
  | _, _, _, .nil, hv => by rw [hv.nil_inv]; exact ⟨fun _ => ⟨0, 0, none⟩, fun _ _ => undef, rfl, fun j hj => by simp at hj, fun j i q x hj => by simp at hj⟩
  | _, _, _, .ptr hm k r, hv => by
    rename_i g e cs0 cs l m
    obtain ⟨v, rs, rfl, h2, h3⟩ := hv.cons_inv
    rw [inv_ptr h2]
    have hmh := p.mem_iff.2 (List.mem_append_left h' hm)
    obtain ⟨cv, hg, h6⟩ := hr.blk g _ hmh
    have h7 := frz_vals hr p k h6
    have hnd : (keys (hz ++ h')).Nodup := (p.map Prod.fst).nodup_iff.1 hr.nodup
    rw [keys_append] at hnd
    have hgz : g ∈ keys hz := List.mem_map.2 ⟨_, hm, rfl⟩
    have hg' : g ∉ keys h' := fun hk => (List.nodup_append.1 hnd).2.2 g hgz g hk rfl
    have hgk : g ∈ keys h := (keys_perm p).2 (by rw [keys_append]; exact List.mem_append_left _ hgz)
    refine caps_cons (ad := ⟨g, 0, none⟩) (vl := fun i => cv.getD i undef) ⟨fun hx => hx.elim (hr.notX g hgk) hg', hr.lt g hgk⟩ (fun i x hi => ?_) (frz_caps hr p r h3)
    have hi' : (cs.map AV.d)[i]? = some (.d x) := by rw [List.getElem?_map, hi]; rfl
    have hil : i < cv.length := by rw [h7.1]; exact (List.getElem?_eq_some_iff.1 hi').1
    have hc := List.getElem?_eq_getElem hil
    have e1 : cv.getD i undef = cv[i] := by rw [List.getD_eq_getElem?_getD, hc]; rfl
    rw [e1]
    refine ⟨?_, DR_of (h7.2 i _ _ hi' hc)⟩
    rw [add_pt]
    simp only [Nat.zero_add, World.cell?, hg]
    simp
  | _, _, _, .fptr r, hv => by
    rename_i cs l m
    obtain ⟨v, rs, rfl, h2, h3⟩ := hv.cons_inv
    have hk2 : AVR (Xh X h') w (.fptr cs) v := h2.mono ⟨Nat.le_refl _, fun i hi hn => ⟨fun hx => hn (hx.imp id (fun hk => (keys_perm p).2 (by rw [keys_append]; exact List.mem_append_right _ hk))), rfl⟩⟩
    cases hk2 with
    | fptr _ ad vals hA hv2 hr2 => exact caps_cons hA (fun i x hi => ⟨hv2 i x hi, hr2 i x hi⟩) (frz_caps hr p r h3)
end
theorem frz_rel {X : Nat → Prop} {w : World} {h hz h' : H} (hr : Rel X w h) (p : h.Perm (hz ++ h')) : Rel X w h' := (hr.perm p).drop (List.sublist_append_right hz h')
/-- What is handed back is frozen. -/
theorem Cast.frz {h hz h' : H} {r r' : AV} (p : h.Perm (hz ++ h')) (k : Frz hz r r') : Cast h r h' r' := fun X w v hr hv =>
  ⟨frz_rel hr p, frz_val hr p k hv, fun g hg => (keys_perm p).2 (by rw [keys_append]; exact List.mem_append_right _ hg)⟩
theorem Cast.frz0 {h : H} {r r' : AV} (k : Frz h r r') : Cast h r [] r' := Cast.frz (hz := h) (by rw [List.append_nil]) k
/-- Slots kept, some of them frozen. -/
inductive FKeeps (hz : H) (tm : List (Nat × AV)) : List (Nat × AV) → Prop where
  | nil : FKeeps hz tm []
  | cons {t : Nat} {v v' : AV} {l : List (Nat × AV)} (h : Look tm t v) (f : Frz hz v v') (k : FKeeps hz tm l) : FKeeps hz tm ((t, v') :: l)
theorem FKeeps.look {hz : H} {l : List (Nat × AV)} (k : FKeeps hz tm l) : ∀ t, look l t = .junk ∨ Frz hz (look tm t) (look l t) := by
  induction k with
  | nil => intro t; exact .inl rfl
  | cons h f _ ih =>
    rename_i t0 v v' l k0
    intro t
    rw [look_cons]
    by_cases ht : t0 = t
    · subst ht; rw [if_pos rfl]; right; rw [h.eq]; exact f
    · rw [if_neg ht]; exact ih t
theorem pfrz {Q : Exit → St → Prop} {c : Code} {hz h' : H} {l : List (Nat × AV)} (p : h.Perm (hz ++ h')) (k : FKeeps hz tm l) (hh : awp ro P c Q ⟨n, l, h', ds⟩) : awp ro P c Q ⟨n, tm, h, ds⟩ := by
  refine awp_weak (fun X w a hs => ?_) hh
  have hr := frz_rel hs.rel p
  refine ⟨⟨hr, hs.size, fun t => ?_, hs.ds⟩, (Step.refl h w).drop (fun g hg => (keys_perm p).2 (by rw [keys_append]; exact List.mem_append_right _ hg))⟩
  rcases k.look t with h1 | h1
  · show AVR _ _ (look l t) _; rw [h1]; exact .junk _
  · exact frz_val hs.rel p h1 (hs.tm t)

/-- A frozen slice, empty or not, is appended. -/
theorem x_append_d {t e sz bytes : Nat} {x y : Operand} {acc : Acc} {xs : List (List D)} {hf : H} (ht : ApT P t e sz bytes) (ho : o.op = .call { callee := .builtin .append, args := #[x, y], argTypes := #[t, t] })
    (hx : Ev tm x (accV acc)) (hy : Ev tm y (.d (.sl xs))) (hh : h = hf ++ accH e sz acc) (hs : ∀ r, r ∈ xs → r.length = sz) (hb : (acc.rows.length + xs.length) * bytes ≤ 140737488355328) :
    OpX ro P h (evT tm) o (fun av h' => ∃ acc', acc'.rows = acc.rows ++ xs.map (·.map .d) ∧ av = accV acc' ∧ h' = hf ++ accH e sz acc') := by
  rcases Nat.eq_zero_or_pos xs.length with h0 | h0
  · obtain ⟨i, z, hu, hi, hz, hsz, hby, hzs, hpos, _⟩ := ht
    have hxs : xs = [] := List.eq_nil_of_length_eq_zero h0
    subst hxs
    refine opx_val (by simp [ho]) fun X w a hr hops => ?_
    have e1 := hops x (by simp [ho, Op.operands, Call.operands])
    have e2 := hops y (by simp [ho, Op.operands, Call.operands])
    rw [hx.eq] at e1
    rw [hy.eq] at e2
    have hsrc : Src P i.size t (a.eval y) 0 [] w := by
      obtain ⟨A, c, hv, _, _⟩ := inv_sl e2
      rw [hv]
      cases A with
      | none => exact Src.ofNil w hu c
      | some ad => exact Src.ofSlice w hu ad 0 c [] (by simp) (fun j u hj => by simp at hj) (fun u hu => by cases hu)
    have hrun : (execOp a.eval o).run P w = .ok (.value (a.eval x)) w := by
      cases acc with
      | none =>
        rw [inv_nil e1]
        have := run_append_nothing (P := P) w t t o.type e i hu hi none 0 0 (Nat.le_refl _) _ hsrc
        simp [execOp, ho, resolve, invoke, builtin, inv_nil e1, this, Result.andThen]
      | «at» g cap rs =>
        have hmem : (g, Blk.arr e sz rs cap) ∈ h := by rw [hh]; exact List.mem_append_right _ (by simp [accH])
        obtain ⟨cs, hgc, h2, h3, h4, h5, h6⟩ := hr.blk g _ hmem
        rw [inv_own e1]
        have := run_append_nothing (P := P) w t t o.type e i hu hi (some ⟨g, 0, none⟩) rs.length cap h4 _ hsrc
        simp [execOp, ho, resolve, invoke, builtin, inv_own e1, this, Result.andThen]
    exact ⟨_, w, h, accV acc, hrun, ⟨acc, by simp, rfl, hh⟩, hr, Step.refl _ _, e1⟩
  · exact x_append_f ht ho hx hy hh h0 hs hb
/-- Is a frozen slice nil? One that has elements is not. -/
theorem x_eqnil {t t' e : TypeId} {x y : Operand} {xs : List (List D)} (ht : P.underlying t = some (.slice e)) (ho : o.op = .binOp .eql t x y t') (hx : Ev tm x (.d (.sl xs))) (hy : Ev tm y .nil) :
    OpX ro P h (evT tm) o (fun av h' => ∃ b, av = .d (.b b) ∧ h' = h ∧ (b = true → xs = [])) := by
  refine opx_val (by simp [ho]) fun X w a hr hops => ?_
  have e1 := hops x (by simp [ho, Op.operands])
  have e2 := hops y (by simp [ho, Op.operands])
  rw [hx.eq] at e1
  rw [hy.eq] at e2
  have hv2 := inv_nil e2
  cases hv : a.eval x with
  | slice A l c =>
    rw [hv] at e1
    cases e1 with
    | d hd =>
      cases hd with
      | sl _ _ _ sz ad vals hc hm hsz hA _ _ =>
        refine ⟨.bool A.isNone, w, h, .d (.b A.isNone), ?_, ⟨_, rfl, rfl, fun hn => ?_⟩, hr, Step.refl _ _, mk_b _⟩
        · have hE : (Op.equal t (.slice A xs.length c) (.slice none 0 0)).run P w = .ok A.isNone w := by
            have : ∀ d, (Op.equalIn (d + 1) t (.slice A xs.length c) (.slice none 0 0)).run P w = .ok A.isNone w := fun d => by cases A <;> simp [Op.equalIn, run_underlying ht]
            exact this 9999
          have hG : (eqGuard .eql t x y (.slice A xs.length c) (.slice none 0 0)).run P w = .ok () w := by simp [eqGuard]
          have hB : (binOp .eql t (.slice A xs.length c) (.slice none 0 0)).run P w = .ok (.bool A.isNone) w := by
            simp only [binOp, Sem.run_bind, hE, Result.andThen_ok]; rfl
          simp only [execOp, ho, hv, hv2]
          simp [hG, hB, Result.andThen]
        · rcases Nat.eq_zero_or_pos xs.length with h0 | h0
          · exact List.eq_nil_of_length_eq_zero h0
          · obtain ⟨rfl, _⟩ := hA h0; simp at hn
  | _ => rw [hv] at e1; obtain ⟨_, _, h1, _⟩ := inv_sl e1; cases h1
/-- An empty slice that is not nil. -/
theorem x_buildSlice0 {t e sz : Nat} (ht : SlT P t e sz) (ho : o.op = .buildSlice t 0 #[]) :
    OpX ro P h (evT tm) o (fun av h' => ∃ g, g ∉ keys h ∧ av = .own g 0 0 0 ∧ h' = (g, .arr e sz [] 0) :: h) := by
  obtain ⟨hu, hsz⟩ := ht
  refine opx_val (by simp [ho]) fun X w a hR hops => ?_
  have hrunE : (execOp a.eval o).run P w = .ok (.value (.slice (some ⟨w.heap.size, 0, none⟩) 0 0)) (w.alloc (.cells #[] e)) := by
    simp only [execOp, ho]
    simp [Instr.buildSlice, run_underlying hu, hsz, Instr.fill, newRow, Result.andThen]
    congr 2
    apply Array.ext' <;> simp
  have := hR.cons (w' := w.alloc (.cells #[] e)) (g := w.heap.size) (b := .arr e sz [] 0) rfl rfl rfl (by simp) (fun k hk => Below.heap_alloc _ _ _ hk) ⟨Nat.le_refl _, by simp⟩ (fun hkeep => by
    refine ⟨[], heap_alloc_new w _, by simp, by simp [maxLen], by simp, (fun r hr => by simp at hr), ?_⟩
    simpa using AVs.nil)
  exact ⟨_, _, _, .own w.heap.size 0 0 0, hrunE, ⟨_, fun hm => (by have := hR.lt _ hm; omega), rfl, rfl⟩, this.1, this.2, .own _ _ _ _⟩
theorem m_loadp {ρ : Operand → AV} {x : Operand} {t : TypeId} {m off : Nat} (ht : AgT P t m) {g : Nat} {e : TypeId} {cells cs : List AV} (ho : o.op = .load t x) (hx : ρ x = .ptr g off) (hm : (g, .var e cells) ∈ h) (hc : (cells.drop off).take m = cs) (hn : cs.length = m) : OpV ro P h ρ o (.agg cs) := by
  obtain ⟨i, hi⟩ := List.getElem?_of_mem hm
  exact p_loadn ht ho hx hi hc hn
theorem Frz.of {hz : H} {a b : AV} (e : a = b) : Frz hz a b := e ▸ .refl
/-- Slots kept and frozen, blocks forgotten. -/
theorem weak_f {keep hz : H} {l : List (Nat × AV)} (hs : List.Sublist (keep ++ hz) h) (k : FKeeps hz tm l) : Weak ⟨n, tm, h, ds⟩ ⟨n, l, keep, ds⟩ := by
  refine (weak_drop hs).trans (fun X w a hw => ?_)
  have p : (keep ++ hz).Perm (hz ++ keep) := List.perm_append_comm
  have hr := frz_rel hw.rel p
  refine ⟨⟨hr, hw.size, fun t => ?_, hw.ds⟩, (Step.refl (keep ++ hz) w).drop (fun g hg => (keys_perm p).2 (by rw [keys_append]; exact List.mem_append_right _ hg))⟩
  rcases k.look t with h1 | h1
  · show AVR _ _ (look l t) _; rw [h1]; exact .junk _
  · exact frz_val hw.rel p h1 (hw.tm t)
end
end Go.Proofs.YtjnkbmodcddbkaaDoor
