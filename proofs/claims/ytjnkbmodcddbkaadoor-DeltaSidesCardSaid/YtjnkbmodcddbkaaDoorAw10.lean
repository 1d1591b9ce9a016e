/- A logic of abstract states. Part 10: blocks of rows written in place: append where there is room, copy, clear. -/
import Derived.Test.YtjnkbmodcddbkaaDoorAw9
import Derived.Lib.AppendZeros
import Derived.Lib.Overlaps
set_option linter.unusedVariables false
set_option linter.unusedSimpArgs false
namespace Go.Proofs.YtjnkbmodcddbkaaDoor
open Go Go.RowKit
section
variable {ro : Option Nat} {P : Program} {ops : Array Oper} {n : Nat} {tm : List (Nat × AV)} {h : H} {ds : List Nat} {o : Oper}

/-- Rows put in the place of others, from a place on. -/
def putRows {α : Type} (rows : List α) (i : Nat) (new : List α) : List α := rows.take i ++ new ++ rows.drop (i + new.length)
theorem flat_take {α : Type} {rows : List (List α)} {sz : Nat} (hs : ∀ r, r ∈ rows → r.length = sz) : ∀ (i : Nat), (rows.take i).flatten = rows.flatten.take (i * sz) := by
  induction rows with
  | nil => intro i; simp
  | cons r rows ih =>
    intro i
    have h0 := hs r (by simp)
    cases i with
    | zero => simp
    | succ i =>
      rw [List.take_succ_cons, List.flatten_cons, List.flatten_cons, ih (fun r hr => hs r (by simp [hr])) i, Nat.succ_mul, Nat.add_comm (i * sz) sz, ← h0, List.take_length_add_append]
theorem flat_drop {α : Type} {rows : List (List α)} {sz : Nat} (hs : ∀ r, r ∈ rows → r.length = sz) : ∀ (i : Nat), (rows.drop i).flatten = rows.flatten.drop (i * sz) := by
  induction rows with
  | nil => intro i; simp
  | cons r rows ih =>
    intro i
    have h0 := hs r (by simp)
    cases i with
    | zero => simp
    | succ i =>
      rw [List.drop_succ_cons, List.flatten_cons, ih (fun r hr => hs r (by simp [hr])) i, Nat.succ_mul, Nat.add_comm (i * sz) sz, ← h0, List.drop_length_add_append]
theorem putRows_len {α : Type} {rows new : List α} {i : Nat} (hi : i ≤ rows.length) : (putRows rows i new).length = max rows.length (i + new.length) := by
  simp [putRows]; omega

/-- The block, written. -/
theorem rel_rows {X : Nat → Prop} {w : World} (hR : Rel X w h) {idx g e sz cap i : Nat} {rows nrows : List (List AV)} {cs news : List Value} (hi : h[idx]? = some (g, .arr e sz rows cap)) (hg : w.heap[g]? = some (.cells cs.toArray e (0, 0))) (hcs : cs.length = cap * sz)
    (hcap : cap ≤ maxLen) (hrc : rows.length ≤ cap) (hrs : ∀ r, r ∈ rows → r.length = sz) (hA : AVs (Xh X h) w rows.flatten (cs.take (rows.length * sz))) (hn : AVs (Xh X h) w nrows.flatten news) (hns : ∀ r, r ∈ nrows → r.length = sz) (hir : i ≤ rows.length) (hic : i + nrows.length ≤ cap) :
    Rel X (w.setRow g (splice cs (i * sz) news).toArray) (h.set idx (g, .arr e sz (putRows rows i nrows) cap)) ∧ Step h (h.set idx (g, .arr e sz (putRows rows i nrows) cap)) w (w.setRow g (splice cs (i * sz) news).toArray) := by
  have hset := setRow_heap w g cs.toArray (splice cs (i * sz) news).toArray e (0, 0) hg
  have hnl : news.length = nrows.length * sz := by rw [hn.1, flatten_len hns]
  have hfit : i * sz + news.length ≤ cs.length := by rw [hnl, hcs, ← Nat.add_mul]; exact Nat.mul_le_mul_right _ hic
  refine hR.repl (w' := w.setRow g (splice cs (i * sz) news).toArray) (b' := .arr e sz (putRows rows i nrows) cap) hi rfl rfl rfl (by simp) (fun k hk hne => setRow_other w g k _ hne) (.inl rfl) (fun hkeep => ?_)
  refine ⟨_, hset, by rw [splice_len hfit]; exact hcs, hcap, by rw [putRows_len hir]; omega, fun r hr => ?_, ?_⟩
  · unfold putRows at hr
    rcases List.mem_append.1 hr with hr | hr
    · rcases List.mem_append.1 hr with hr | hr
      · exact hrs r (List.mem_of_mem_take hr)
      · exact hns r hr
    · exact hrs r (List.mem_of_mem_drop hr)
  · have e1 : (putRows rows i nrows).flatten = rows.flatten.take (i * sz) ++ nrows.flatten ++ rows.flatten.drop ((i + nrows.length) * sz) := by
      unfold putRows
      rw [List.flatten_append, List.flatten_append, flat_take hrs, flat_drop hrs]
    have hfl : rows.flatten.length = rows.length * sz := flatten_len hrs
    have hL : (cs.take (rows.length * sz)).length = rows.length * sz := by rw [hA.1, hfl]
    have hLe : rows.length * sz ≤ cs.length := by rw [hcs]; exact Nat.mul_le_mul_right _ hrc
    have hile : i * sz ≤ rows.length * sz := Nat.mul_le_mul_right _ hir
    have e2 : (splice cs (i * sz) news).take ((putRows rows i nrows).length * sz) = (cs.take (rows.length * sz)).take (i * sz) ++ news ++ (cs.take (rows.length * sz)).drop ((i + nrows.length) * sz) := by
      rw [putRows_len hir, show (i + nrows.length) * sz = i * sz + news.length by rw [hnl, Nat.add_mul]]
      rw [List.take_take, Nat.min_eq_left hile]
      rcases Nat.le_total (i + nrows.length) rows.length with h1 | h1
      · rw [Nat.max_eq_left h1, take_splice (by rw [hnl, ← Nat.add_mul]; exact Nat.mul_le_mul_right _ h1) hLe]
        unfold splice
        rw [List.take_take, Nat.min_eq_left hile]
      · rw [Nat.max_eq_right h1, List.drop_eq_nil_of_le (by rw [hL, hnl, ← Nat.add_mul]; exact Nat.mul_le_mul_right _ h1), List.append_nil]
        unfold splice
        have h3 : (cs.take (i * sz) ++ news).length = (i + nrows.length) * sz := by rw [List.length_append, List.length_take, hnl, Nat.add_mul]; omega
        rw [← h3, List.take_left]
    rw [e1, e2]
    exact (((hA.take _).append hn).append (hA.drop _)).mono hkeep
/-- Fewer rows are spoken of. -/
theorem arr_less {X : Nat → Prop} {w : World} {g e sz cap k : Nat} {rows : List (List AV)} {Y : Nat → Prop} (hb : BlkR Y w g (.arr e sz rows cap)) (hk : k ≤ rows.length) : BlkR Y w g (.arr e sz (rows.take k) cap) := by
  obtain ⟨cs, h1, h2, h3, h4, h5, h6⟩ := hb
  refine ⟨cs, h1, h2, h3, by rw [List.length_take]; omega, fun r hr => h5 r (List.mem_of_mem_take hr), ?_⟩
  rw [flat_take h5, List.length_take, Nat.min_eq_left hk]
  have := h6.take (k * sz)
  rwa [List.take_take, Nat.min_eq_left (Nat.mul_le_mul_right _ hk)] at this
/-- More rows are spoken of, of whatever content. -/
theorem arr_more {w : World} {g e sz cap k : Nat} {rows : List (List AV)} {Y : Nat → Prop} (hb : BlkR Y w g (.arr e sz rows cap)) (hk : rows.length + k ≤ cap) : BlkR Y w g (.arr e sz (rows ++ List.replicate k (List.replicate sz .junk)) cap) := by
  obtain ⟨cs, h1, h2, h3, h4, h5, h6⟩ := hb
  have hs : ∀ r, r ∈ rows ++ List.replicate k (List.replicate sz AV.junk) → r.length = sz := fun r hr => by
    rcases List.mem_append.1 hr with hr | hr
    · exact h5 r hr
    · rw [(List.mem_replicate.1 hr).2]; simp
  refine ⟨cs, h1, h2, h3, by simp; omega, hs, ?_, fun i c v hc hv => ?_⟩
  · rw [flatten_len hs, List.length_take]
    have : (rows ++ List.replicate k (List.replicate sz AV.junk)).length * sz ≤ cap * sz := Nat.mul_le_mul_right _ (by simp; omega)
    omega
  · rw [List.flatten_append] at hc
    have hfl : rows.flatten.length = rows.length * sz := flatten_len h5
    rw [List.getElem?_take] at hv
    split at hv
    · rcases Nat.lt_or_ge i rows.flatten.length with hi | hi
      · rw [List.getElem?_append_left hi] at hc
        exact h6.2 i c v hc (by rw [List.getElem?_take, if_pos (by rw [← hfl]; exact hi)]; exact hv)
      · rw [List.getElem?_append_right hi] at hc
        have hm := List.mem_of_getElem? hc
        obtain ⟨r, hr1, hr2⟩ := List.mem_flatten.1 hm
        rw [(List.mem_replicate.1 hr1).2] at hr2
        rw [(List.mem_replicate.1 hr2).2]
        exact .junk _
    · cases hv

theorem run_sliceAt_own {t e sz : Nat} {A : Option Addr} {len c : Nat} {ρ : Operand → AV} {a : Act} {Y : Nat → Prop} {w : World} {lo hi : Option Operand} {l u : Int} (hu : P.underlying t = some (.slice e)) (hsz : ∀ w, (sizeOf e).run P w = .ok sz w)
    (hops : ∀ y, (lo = some y ∨ hi = some y) → AVR Y w (ρ y) (a.eval y)) (hl : optI ρ 0 l lo) (hh : optI ρ len u hi) (h0 : 0 ≤ l) (h1 : l ≤ u) (h2 : u ≤ c) :
    (Instr.sliceAt t (.slice A len c) (lo.map a.eval) (hi.map a.eval) none).run P w = .ok (.slice (if c = l.toNat then A else A.map (·.add (l.toNat * sz))) (u.toNat - l.toNat) (c - l.toNat)) w := by
  have h4 : 0 ≤ u := Int.le_trans h0 h1
  have h7 : l ≤ (c : Int) := by omega
  have h5 : max u 0 = u := by omega
  cases lo with
  | none =>
    obtain rfl : l = 0 := hl
    cases hi with
    | none =>
      obtain rfl : u = len := hh
      simp [Instr.sliceAt, Instr.slice, run_underlying hu, Instr.sliceBounds, Instr.sliceBound, asIntOf, hsz]
    | some y =>
      obtain ⟨k, hk⟩ := hh
      have e2 := hops y (.inr rfl); rw [hk] at e2
      simp [Instr.sliceAt, Instr.slice, run_underlying hu, Instr.sliceBounds, Instr.sliceBound, asIntOf, inv_i e2, h1, h2, hsz]
  | some z =>
    obtain ⟨k', hk'⟩ := hl
    have e3 := hops z (.inl rfl); rw [hk'] at e3
    cases hi with
    | none =>
      obtain rfl : u = len := hh
      simp [Instr.sliceAt, Instr.slice, run_underlying hu, Instr.sliceBounds, Instr.sliceBound, asIntOf, inv_i e3, h0, h1, hsz]
    | some y =>
      obtain ⟨k, hk⟩ := hh
      have e2 := hops y (.inr rfl); rw [hk] at e2
      simp [Instr.sliceAt, Instr.slice, run_underlying hu, Instr.sliceBounds, Instr.sliceBound, asIntOf, inv_i e2, inv_i e3, h0, h1, h2, h4, h5, hsz]
/-- A part of a slice of its own. -/
theorem p_slice_own {ρ : Operand → AV} {x : Operand} {t e sz g off len c off' len' c' : Nat} {lo hi : Option Operand} {l u : Int} (ht : SlT P t e sz) (ho : o.op = .slice t x lo hi none) (hx : ρ x = .own g off len c)
    (hl : optI ρ 0 l lo) (hu : optI ρ len u hi) (h0 : 0 ≤ l) (h1 : l ≤ u) (h2 : u ≤ c) (hoff : (if c = l.toNat then off else off + l.toNat * sz) = off') (hlen : u.toNat - l.toNat = len') (hc' : c - l.toNat = c') : OpV ro P h ρ o (.own g off' len' c') := by
  subst hoff; subst hlen; subst hc'
  refine opv_pure (by simp [ho]) fun X w a hr hops => ?_
  have e1 := hops x (by simp [ho, Op.operands])
  rw [hx] at e1
  have hv := inv_own e1
  have hrun := run_sliceAt_own (P := P) (A := some ⟨g, off, none⟩) (a := a) (w := w) (Y := Xh X h) (ρ := ρ) ht.1 ht.2 (lo := lo) (hi := hi) (fun y hy => hops y (by
    rw [ho]
    rcases hy with rfl | rfl <;> simp [Op.operands])) hl hu h0 h1 h2
  refine ⟨.slice (if c = l.toNat then some ⟨g, off, none⟩ else some ((⟨g, off, none⟩ : Addr).add (l.toNat * sz))) (u.toNat - l.toNat) (c - l.toNat), by simp [execOp, ho, hv, hrun, Result.andThen], ?_⟩
  by_cases hc : c = l.toNat
  · simp only [if_pos hc]; exact .own _ _ _ _
  · simp only [if_neg hc, add_pt]; exact .own _ _ _ _
theorem q_cap_own {ρ : Operand → AV} {x : Operand} {t e g off len c : Nat} (ht : P.underlying t = some (.slice e)) (ho : o.op = .call { callee := .builtin .cap, args := #[x], argTypes := #[t] }) (hx : ρ x = .own g off len c) : OpV ro P h ρ o (.d (.i .i64 (c : Nat))) :=
  opv_pure (by simp [ho]) fun X w a _ hops => ⟨.int .i64 (c : Nat), by
    have h1 := hops x (by simp [ho, Op.operands, Call.operands]); rw [hx] at h1
    simp [execOp, ho, inv_own h1, resolve, invoke, builtin, Builtin.cap_, run_underlying ht, goInt, Result.andThen], mk_i _ _⟩

/-- Rows of a block, from a place on. -/
theorem news_part {X : Nat → Prop} {w : World} {g off m c e sz cap j : Nat} {rows : List (List AV)} (hr : Rel X w h) (hm : (g, .arr e sz rows cap) ∈ h) (hoff : 0 < m → off = j * sz) (hj : j + m ≤ rows.length) (h1 : ∀ r, r ∈ (rows.drop j).take m → ∀ x, x ∈ r → x.one = true) : News X w h (.own g off m c) m sz ((rows.drop j).take m) := by
  refine ⟨fun v hv => ?_⟩
  have e1 := inv_own hv
  rcases Nat.eq_zero_or_pos m with h0 | h0
  · subst h0
    exact ⟨_, _, [], e1, by simp, fun j u hj => by simp at hj, fun u hu => (by cases hu), by simpa using AVs.nil⟩
  · obtain ⟨cs, hg, h2, h3, h4, h5, h6⟩ := hr.blk g _ hm
    have hfl : rows.flatten.length = rows.length * sz := flatten_len h5
    have e2 : ((rows.drop j).take m).flatten = (rows.flatten.drop (j * sz)).take (m * sz) := by
      rw [flat_take (fun r hr => h5 r (List.mem_of_mem_drop hr)), flat_drop h5]
    have hle : j * sz + m * sz ≤ rows.length * sz := by rw [← Nat.add_mul]; exact Nat.mul_le_mul_right _ hj
    have hlc : rows.length * sz ≤ cs.length := by rw [h2]; exact Nat.mul_le_mul_right _ h4
    have hA : AVs (Xh X h) w ((rows.drop j).take m).flatten (((cs.take (rows.length * sz)).drop (j * sz)).take (m * sz)) := by rw [e2]; exact (h6.drop _).take _
    have hoff := hoff h0
    subst hoff
    refine ⟨⟨g, j * sz, none⟩, c, _, e1, ?_, fun k u hk => ?_, ?_, hA⟩
    · simp only [List.length_take, List.length_drop]; omega
    · rw [List.getElem?_take] at hk
      split at hk
      · rw [List.getElem?_drop, List.getElem?_take] at hk
        split at hk
        · rw [add_pt]
          simp [World.cell?, hg, hk]
        · cases hk
      · cases hk
    · refine all_one hA (fun x hx => ?_)
      obtain ⟨r, hr1, hr2⟩ := List.mem_flatten.1 hx
      exact h1 r hr1 x hr2
/-- **append where there is room**, in place. -/
theorem x_append_room {ρ : Operand → AV} {t e sz bytes m i idx g cap : Nat} {x y : Operand} {rows nrows : List (List AV)} (ht : ApT P t e sz bytes) (ho : o.op = .call { callee := .builtin .append, args := #[x, y], argTypes := #[t, t] })
    (hx : ρ x = .own g 0 i cap) (hnews : ∀ X w, Rel X w h → News X w h (ρ y) m sz nrows) (hns : ∀ r, r ∈ nrows → r.length = sz) (hnm : nrows.length = m) (hi : h[idx]? = some (g, .arr e sz rows cap)) (hir : i ≤ rows.length) (hroom : i + m ≤ cap) :
    OpX ro P h ρ o (fun av h' => av = .own g 0 (i + m) cap ∧ h' = h.set idx (g, .arr e sz (putRows rows i nrows) cap)) := by
  obtain ⟨inf, z, hu, hinf, hz, hs, hby, hzs, hpos, _⟩ := ht
  refine opx_val (by simp [ho]) fun X w a hr hops => ?_
  have e1 := hops x (by simp [ho, Op.operands, Call.operands])
  have e2 := hops y (by simp [ho, Op.operands, Call.operands])
  rw [hx] at e1
  have hv := inv_own e1
  obtain ⟨ad, c, news, hv2, hnl, hncell, hnone, hnA⟩ := (hnews X w hr).spec _ e2
  obtain ⟨cs, hg, h2, h3, h4, h5, h6⟩ := hr.blk g _ (List.mem_of_getElem? hi)
  subst hs
  have hsrc : Src P inf.size t (a.eval y) m news w := by rw [hv2]; exact Src.ofSlice w hu ad m c news hnl hncell hnone
  have hfit : i * inf.size + news.length ≤ cs.length := by rw [hnl, h2, ← Nat.add_mul]; exact Nat.mul_le_mul_right _ hroom
  have hst := run_storeCells_at P g (0 + i * inf.size) e news 0 cs.toArray w hg (by simpa using hfit) hnone
  simp only [Nat.add_zero, Nat.zero_add] at hst
  have hrun : (Builtin.append_ #[t, t] o.type #[.slice (some ⟨g, 0, none⟩) i cap, a.eval y]).run P w = .ok (.slice (some ⟨g, 0, none⟩) (i + m) cap) (w.setRow g (splice cs (i * inf.size) news).toArray) := by
    have hst2 : (storeCells ⟨g, i * inf.size, none⟩ news).run P w = .ok () (w.setRow g (splice cs (i * inf.size) news).toArray) := hst
    simp [Builtin.append_, run_underlying hu, sizeOf, typeInfo, hinf, hsrc.len, hroom, hsrc.cells, Addr.add_lit, hst2]
  have hrel := rel_rows (nrows := nrows) (news := news) hr hi hg h2 h3 h4 h5 h6 hnA hns hir (by rw [hnm]; exact hroom)
  exact ⟨_, _, _, .own g 0 (i + m) cap, by simp [execOp, ho, resolve, invoke, builtin, hv, hrun, Result.andThen], ⟨rfl, rfl⟩, hrel.1, hrel.2, .own _ _ _ _⟩
/-- The first k rows of a slice of m. -/
structure NewsK (X : Nat → Prop) (w : World) (h : H) (av : AV) (m k : Nat) (sz : Nat) (rows : List (List AV)) : Prop where
  spec : ∀ v, AVR (Xh X h) w av v → ∃ ad c news, v = .slice (some ad) m c ∧ news.length = k * sz ∧ (∀ j u, news[j]? = some u → w.cell? (ad.add j) = some u) ∧ (∀ u, u ∈ news → u.oneCell' = true) ∧ AVs (Xh X h) w rows.flatten news
theorem newsk_part {X : Nat → Prop} {w : World} {g off m k c e sz cap j : Nat} {rows : List (List AV)} (hr : Rel X w h) (hm : (g, .arr e sz rows cap) ∈ h) (hoff : 0 < k → off = j * sz) (hj : j + k ≤ rows.length) (h1 : ∀ r, r ∈ (rows.drop j).take k → ∀ x, x ∈ r → x.one = true) : NewsK X w h (.own g off m c) m k sz ((rows.drop j).take k) := by
  refine ⟨fun v hv => ?_⟩
  have e1 := inv_own hv
  subst e1
  obtain ⟨ad, c2, news, e2, h2, h3, h4, h5⟩ := (news_part (X := X) (w := w) (h := h) (m := k) (c := c) hr hm hoff hj h1).spec _ (.own g off k c)
  injection e2 with e3 e4 e5
  injection e3 with e3
  subst e3
  exact ⟨_, c, news, rfl, h2, h3, h4, h5⟩
/-- **copy**, within a block or from another one. -/
theorem x_copy {ρ : Operand → AV} {t t' e sz m q i idx g off dl dc cap : Nat} {x y : Operand} {rows nrows : List (List AV)} (ht : SlT P t e sz) (ho : o.op = .call { callee := .builtin .copy, args := #[x, y], argTypes := #[t, t'] })
    (hx : ρ x = .own g off dl dc) (hnews : ∀ X w, Rel X w h → NewsK X w h (ρ y) q m sz nrows) (hns : ∀ r, r ∈ nrows → r.length = sz) (hnm : nrows.length = m) (hmin : Nat.min q dl = m) (hi : h[idx]? = some (g, .arr e sz rows cap)) (hoff : 0 < m → off = i * sz) (hir : i ≤ rows.length) (hroom : i + m ≤ cap) :
    OpX ro P h ρ o (fun av h' => av = .d (.i .i64 (m : Nat)) ∧ h' = h.set idx (g, .arr e sz (putRows rows i nrows) cap)) := by
  refine opx_val (by simp [ho]) fun X w a hr hops => ?_
  have e1 := hops x (by simp [ho, Op.operands, Call.operands])
  have e2 := hops y (by simp [ho, Op.operands, Call.operands])
  rw [hx] at e1
  have hv := inv_own e1
  obtain ⟨ad, c, news, hv2, hnl, hncell, hnone, hnA⟩ := (hnews X w hr).spec _ e2
  obtain ⟨cs, hg, h2, h3, h4, h5, h6⟩ := hr.blk g _ (List.mem_of_getElem? hi)
  have hfc := run_firstCells_some (P := P) w sz m ad q c news hnl hncell
  rcases Nat.eq_zero_or_pos m with h0 | h0
  · subst h0
    have hn0 : nrows = [] := List.eq_nil_of_length_eq_zero hnm
    have hne : news = [] := List.eq_nil_of_length_eq_zero (by simpa using hnl)
    subst hn0
    subst hne
    have hp : putRows rows i ([] : List (List AV)) = rows := by simp [putRows]
    have hset : h.set idx (g, Blk.arr e sz rows cap) = h := by
      apply List.ext_getElem?
      intro q
      rw [List.getElem?_set]
      split
      · rename_i hq; subst hq; split <;> simp_all
      · rfl
    have hrun : (Builtin.copy_ #[t, t'] o.type #[.slice (some ⟨g, off, none⟩) dl dc, .slice (some ad) q c]).run P w = .ok (goInt 0) w := by
      simp [Builtin.copy_, run_underlying ht.1, Builtin.lenOf, hmin, ht.2, hfc, storeCells]
    exact ⟨.int .i64 (0 : Nat), w, _, .d (.i .i64 (0 : Nat)), by simp [execOp, ho, resolve, invoke, builtin, hv, hv2, hrun, Result.andThen, goInt], ⟨rfl, rfl⟩, by rw [hp, hset]; exact hr, by rw [hp, hset]; exact Step.refl _ _, mk_i _ _⟩
  · have hoff := hoff h0
    subst hoff
    have hfit : i * sz + news.length ≤ cs.length := by rw [hnl, h2, ← Nat.add_mul]; exact Nat.mul_le_mul_right _ hroom
    have hst := run_storeCells_at P g (i * sz) e news 0 cs.toArray w hg (by simpa using hfit) hnone
    simp only [Nat.add_zero] at hst
    have hst2 : (storeCells ⟨g, i * sz, none⟩ news).run P w = .ok () (w.setRow g (splice cs (i * sz) news).toArray) := hst
    have hrun : (Builtin.copy_ #[t, t'] o.type #[.slice (some ⟨g, i * sz, none⟩) dl dc, .slice (some ad) q c]).run P w = .ok (goInt m) (w.setRow g (splice cs (i * sz) news).toArray) := by
      simp [Builtin.copy_, run_underlying ht.1, Builtin.lenOf, hmin, ht.2, hfc, hst2]
    have hrel := rel_rows (nrows := nrows) (news := news) hr hi hg h2 h3 h4 h5 h6 hnA hns hir (by rw [hnm]; exact hroom)
    exact ⟨.int .i64 (m : Nat), _, _, .d (.i .i64 (m : Nat)), by simp [execOp, ho, resolve, invoke, builtin, hv, hv2, hrun, Result.andThen, goInt], ⟨rfl, rfl⟩, hrel.1, hrel.2, mk_i _ _⟩

theorem zero_cells {e : TypeId} {z : Value} {zc : List AV} (hz : z.cells.toList.map constAV = zc) {Y : Nat → Prop} {w : World} (k : Nat) : AVs Y w (List.replicate k zc).flatten (Builtin.zeroCells z.cells k).toList := by
  subst hz
  have hsz : z.cells.size = z.cells.toList.length := by simp
  have hl : (Builtin.zeroCells z.cells k).toList.length = k * z.cells.size := by simp [Builtin.zeroCells]
  have hs : ∀ r, r ∈ List.replicate k (z.cells.toList.map constAV) → r.length = z.cells.size := fun r hr => by rw [(List.mem_replicate.1 hr).2]; simp
  refine ⟨by rw [hl, flatten_len hs]; simp, fun i c v hc hv => ?_⟩
  have hi : i < k * z.cells.size := by have := (List.getElem?_eq_some_iff.1 hv).1; rwa [hl] at this
  have h0 : 0 < z.cells.size := by
    rcases Nat.eq_zero_or_pos z.cells.size with h | h
    · rw [h] at hi; simp at hi
    · exact h
  obtain ⟨r, x, hr1, hr2, hr3⟩ := flat_at hs i (by simpa using hi)
  rw [hr3] at hc
  injection hc with hc
  subst hc
  have hm := List.mem_of_getElem? hr1
  rw [(List.mem_replicate.1 hm).2, List.getElem?_map] at hr2
  have hmod : i % z.cells.size < z.cells.toList.length := by rw [← hsz]; exact Nat.mod_lt _ h0
  rw [List.getElem?_eq_getElem hmod] at hr2
  simp only [Option.map_some, Option.some.injEq] at hr2
  have hmod2 : i % z.cells.size < z.cells.size := Nat.mod_lt _ h0
  have hvv : v = z.cells[i % z.cells.size] := by
    have : (Builtin.zeroCells z.cells k).toList[i]? = some (z.cells[i % z.cells.size]) := by
      simp [Builtin.zeroCells, hi, hmod2]
    rw [this] at hv
    injection hv with hv
    exact hv.symm
  rw [hvv, ← hr2]
  simpa only [Array.getElem_toList] using constAV_spec Y w (z.cells[i % z.cells.size])
/-- **clear** of rows of a block. -/
theorem x_clear {ρ : Operand → AV} {t e sz m i idx g off c cap : Nat} {x : Operand} {rows : List (List AV)} {zc : List AV} (ht : SlT P t e sz) (hz : ZT P e zc) (hzl : zc.length = sz) (hz1 : zc.all AV.one = true) (ho : o.op = .call { callee := .builtin .clear, args := #[x], argTypes := #[t] })
    (hx : ρ x = .own g off m c) (hi : h[idx]? = some (g, .arr e sz rows cap)) (hoff : 0 < m → off = i * sz) (hir : i ≤ rows.length) (hroom : i + m ≤ cap) :
    OpX ro P h ρ o (fun _ h' => h' = h.set idx (g, .arr e sz (putRows rows i (List.replicate m zc)) cap)) := by
  obtain ⟨z, hzr, hzc⟩ := hz
  refine opx_val (by simp [ho]) fun X w a hr hops => ?_
  have e1 := hops x (by simp [ho, Op.operands, Call.operands])
  rw [hx] at e1
  have hv := inv_own e1
  obtain ⟨cs, hg, h2, h3, h4, h5, h6⟩ := hr.blk g _ (List.mem_of_getElem? hi)
  rcases Nat.eq_zero_or_pos m with h0 | h0
  · subst h0
    have hp : putRows rows i (List.replicate 0 zc) = rows := by simp [putRows]
    have hset : h.set idx (g, Blk.arr e sz rows cap) = h := by
      apply List.ext_getElem?
      intro q
      rw [List.getElem?_set]
      split
      · rename_i hq; subst hq; split <;> simp_all
      · rfl
    have hrun : (Builtin.clear_ #[t] o.type #[.slice (some ⟨g, off, none⟩) 0 c]).run P w = .ok (.tuple #[]) w := by
      simp [Builtin.clear_, run_underlying ht.1]
    exact ⟨.tuple #[], w, _, .tup [], by simp [execOp, ho, resolve, invoke, builtin, hv, hrun, Result.andThen], rfl, by rw [hp, hset]; exact hr, by rw [hp, hset]; exact Step.refl _ _, AVs.tup AVs.nil⟩
  · have hoff := hoff h0
    subst hoff
    have hA := zero_cells (e := e) hzc (Y := Xh X h) (w := w) m
    have hzs : ∀ r, r ∈ List.replicate m zc → r.length = sz := fun r hr => by rw [(List.mem_replicate.1 hr).2]; exact hzl
    have hnl : (Builtin.zeroCells z.cells m).toList.length = m * sz := by rw [hA.1, flatten_len hzs]; simp
    have hone := all_one hA (fun q hq => by
      obtain ⟨r, hr1, hr2⟩ := List.mem_flatten.1 hq
      rw [(List.mem_replicate.1 hr1).2] at hr2
      exact List.all_eq_true.1 hz1 q hr2)
    have hfit : i * sz + (Builtin.zeroCells z.cells m).toList.length ≤ cs.length := by rw [hnl, h2, ← Nat.add_mul]; exact Nat.mul_le_mul_right _ hroom
    have hst := run_storeCells_at P g (i * sz) e (Builtin.zeroCells z.cells m).toList 0 cs.toArray w hg (by simpa using hfit) hone
    simp only [Nat.add_zero] at hst
    have hst2 : (storeCells ⟨g, i * sz, none⟩ (Builtin.zeroCells z.cells m).toList).run P w = .ok () (w.setRow g (splice cs (i * sz) (Builtin.zeroCells z.cells m).toList).toArray) := hst
    have hrun : (Builtin.clear_ #[t] o.type #[.slice (some ⟨g, i * sz, none⟩) m c]).run P w = .ok (.tuple #[]) (w.setRow g (splice cs (i * sz) (Builtin.zeroCells z.cells m).toList).toArray) := by
      obtain ⟨m, rfl⟩ : ∃ k, m = k + 1 := ⟨m - 1, by omega⟩
      simp [Builtin.clear_, run_underlying ht.1, hzr, hst2]
    have hrel := rel_rows (nrows := List.replicate m zc) (news := (Builtin.zeroCells z.cells m).toList) hr hi hg h2 h3 h4 h5 h6 hA hzs hir (by simpa using hroom)
    exact ⟨.tuple #[], _, _, .tup [], by simp [execOp, ho, resolve, invoke, builtin, hv, hrun, Result.andThen], rfl, hrel.1, hrel.2, AVs.tup AVs.nil⟩

/-- A full slice expression that is only looked at for its bounds. -/
theorem p_slice3 {ρ : Operand → AV} {x yl yh ym : Operand} {t e sz g off len c : Nat} {kl kh km : IntKind} {l u m : Int} (ht : SlT P t e sz) (ho : o.op = .slice t x (some yl) (some yh) (some ym)) (hx : ρ x = .own g off len c)
    (hl : ρ yl = .d (.i kl l)) (hh : ρ yh = .d (.i kh u)) (hm : ρ ym = .d (.i km m)) (h0 : 0 ≤ l) (h1 : l ≤ u) (h2 : u ≤ m) (h3 : m ≤ c) : OpV ro P h ρ o .junk := by
  refine opv_pure (by simp [ho]) fun X w a hr hops => ?_
  have e1 := hops x (by simp [ho, Op.operands])
  have e2 := hops yl (by simp [ho, Op.operands])
  have e3 := hops yh (by simp [ho, Op.operands])
  have e4 := hops ym (by simp [ho, Op.operands])
  rw [hx] at e1
  rw [hl] at e2
  rw [hh] at e3
  rw [hm] at e4
  have h5 : max m 0 = m := by omega
  have h6 : max u 0 = u := by omega
  have h7 : 0 ≤ u := by omega
  have h8 : 0 ≤ m := by omega
  have hrun : ∃ v, (Instr.sliceAt t (.slice (some ⟨g, off, none⟩) len c) (some (a.eval yl)) (some (a.eval yh)) (some (a.eval ym))).run P w = .ok v w := by
    refine ⟨.slice (if m.toNat = l.toNat then some ⟨g, off, none⟩ else (some (⟨g, off, none⟩ : Addr)).map (·.add (l.toNat * sz))) (u.toNat - l.toNat) (m.toNat - l.toNat), ?_⟩
    simp [Instr.sliceAt, Instr.slice, run_underlying ht.1, Instr.sliceBounds, Instr.sliceBound, asIntOf, inv_i e2, inv_i e3, inv_i e4, h0, h1, h2, h3, h5, h6, h7, h8, ht.2]
  obtain ⟨v, hrun⟩ := hrun
  exact ⟨v, by simp [execOp, ho, inv_own e1, hrun, Result.andThen], .junk _⟩
/-- A block handed back, with fewer rows spoken of. -/
theorem Cast.arr {g e sz cap k len len' : Nat} {rows rows' : List (List AV)} (hk : k ≤ rows.length) (hr : rows.take k = rows') (hl : len = len') : Cast [(g, .arr e sz rows cap)] (.own g 0 len cap) [(g, .arr e sz rows' cap)] (.own g 0 len' cap) := fun X w v hR hv => by
  subst hr; subst hl
  have hX : Xh X [(g, Blk.arr e sz (rows.take k) cap)] = Xh X [(g, Blk.arr e sz rows cap)] := rfl
  refine ⟨⟨hR.nodup, hR.notX, hR.lt, hR.xlt, fun q b hb => ?_, hR.glob⟩, by rw [hX]; exact hv, fun q hq => hq⟩
  simp at hb
  obtain ⟨rfl, rfl⟩ := hb
  rw [hX]
  exact arr_less (X := X) (w := w) (hR.blk q _ (by simp)) hk

theorem run_append_zeros (w : World) (t tn ty e : TypeId) (i : TypeInfo) (z : Value) (k kn : IntKind) (ht : P.underlying t = some (.slice e)) (htn : P.underlying tn = some (.int kn)) (hi : P.info? e = some i) (hz : i.zero = some z) (base : Option Addr) (sLen sCap : Nat) (olds : List Value)
    (hold : (Builtin.firstCells i.size sLen (.slice base sLen sCap)).run P w.drew = .ok olds.toArray w.drew) (n : Nat) (hn : (n : Int) ≤ 9223372036854775807) (hb : (n : Int) * i.bytes ≤ 281474976710656) (hpos : n * i.size ≠ 0)
    (hg : sCap < sLen + n) (h63 : ((sLen + n : Nat) : Int) ≤ 9223372036854775807) (hfit : Builtin.nextslicecap (sLen + n) sCap * i.bytes ≤ 281474976710656) :
    (Builtin.append_ #[t, tn] ty #[.slice base sLen sCap, .int k (n : Int)]).run P w =
      .ok (.slice (some ⟨w.heap.size, 0, none⟩) (sLen + n) (grownCap w (sLen + n) sCap e))
        (w.drew.alloc (.cells ((olds ++ (Builtin.zeroCells z.cells n).toList).toArray ++ Builtin.zeroCells z.cells (grownCap w (sLen + n) sCap e - (sLen + n))) e)) := by
  have hn' : ¬ (sLen + n ≤ sCap) := by omega
  have h63' : ¬ (9223372036854775807 < ((sLen : Int) + (n : Int))) := by omega
  have h48' : ¬ (281474976710656 < Builtin.nextslicecap (sLen + n) sCap * i.bytes) := by omega
  have hw : IntKind.i64.wrap (n : Int) = n := wr64 (by omega) hn
  have h0 : ¬ ((n : Int) < 0) := by omega
  have hb' : ¬ (281474976710656 < (n : Int) * i.bytes) := by omega
  have hp1 : ¬ (n = 0 ∨ i.size = 0) := fun h => hpos (by rcases h with h | h <;> simp [h])
  simp [Builtin.append_, run_underlying ht, run_underlying htn, sizeOf, typeInfo, zeroValue, hi, hz, asInt, hw, h0, hb', hn', h63', h48', Question.forced, hold, newRow, grownCap, hp1, asIntOf]
  rw [if_neg hpos]
  congr 3
  apply Array.ext'
  simp
/-- **append of zeros** where there is no room: a new block. -/
theorem x_append_zeros {ρ : Operand → AV} {t tn e sz bytes i idx g cap k : Nat} {kn kv : IntKind} {x y : Operand} {rows : List (List AV)} {zc : List AV} (ht : ApT P t e sz bytes) (htn : P.underlying tn = some (.int kn)) (hz : ZT P e zc) (hzl : zc.length = sz) (ho : o.op = .call { callee := .builtin .append, args := #[x, y], argTypes := #[t, tn] })
    (hx : ρ x = .own g 0 i cap) (hy : ρ y = .d (.i kv (k : Int))) (hk : 0 < k) (hi : h[idx]? = some (g, .arr e sz rows cap)) (hir : i ≤ rows.length) (hroom : cap < i + k) (hb : (i + k) * bytes ≤ 140737488355328) :
    OpX ro P h ρ o (fun av h' => ∃ g' cap', g' ∉ keys h ∧ i + k ≤ cap' ∧ av = .own g' 0 (i + k) cap' ∧ h' = (g', .arr e sz (rows.take i ++ List.replicate k zc) cap') :: h) := by
  obtain ⟨inf, z, hu, hinf, hzz, hs, hby, hzs, hpos, hbp⟩ := ht
  obtain ⟨z', hzr, hzc⟩ := hz
  refine opx_val (by simp [ho]) fun X w a hr hops => ?_
  have ez : z' = z := by
    have := hzr w
    simp [zeroValue, typeInfo, hinf, hzz] at this
    exact this.symm
  subst ez
  have e1 := hops x (by simp [ho, Op.operands, Call.operands])
  have e2 := hops y (by simp [ho, Op.operands, Call.operands])
  rw [hx] at e1
  rw [hy] at e2
  have hv := inv_own e1
  have hv2 := inv_i e2
  obtain ⟨cs, hg, h2, h3, h4, h5, h6⟩ := hr.blk g _ (List.mem_of_getElem? hi)
  subst hs; subst hby
  have hile : i * inf.size ≤ rows.length * inf.size := Nat.mul_le_mul_right _ hir
  have hlc : rows.length * inf.size ≤ cs.length := by rw [h2]; exact Nat.mul_le_mul_right _ h4
  have hol : ((cs.take (rows.length * inf.size)).take (i * inf.size)).length = i * inf.size := by simp only [List.length_take]; omega
  have hcell : ∀ j u, ((cs.take (rows.length * inf.size)).take (i * inf.size))[j]? = some u → w.drew.cell? ((⟨g, 0, none⟩ : Addr).add j) = some u := fun j u hj => by
    rw [List.getElem?_take] at hj
    split at hj
    · rw [List.getElem?_take] at hj
      split at hj
      · rw [add_pt]
        change w.cell? _ = _
        simp [World.cell?, hg, hj]
      · cases hj
    · cases hj
  have hold := run_firstCells_some (P := P) w.drew inf.size i ⟨g, 0, none⟩ i cap _ hol hcell
  have hik : i + k ≤ (i + k) * inf.bytes := Nat.le_mul_of_pos_right _ hbp
  have hkb : k * inf.bytes ≤ (i + k) * inf.bytes := Nat.mul_le_mul_right _ (by omega)
  have hkb2 : (k : Int) * inf.bytes ≤ 281474976710656 := by
    have e3 : (k : Int) * (inf.bytes : Int) = ((k * inf.bytes : Nat) : Int) := by simp
    rw [e3]; omega
  have hrun := run_append_zeros (P := P) w t tn o.type e inf z' kv kn hu htn hinf hzz (some ⟨g, 0, none⟩) i cap _ hold k (by omega) hkb2 (by intro h0; rcases Nat.mul_eq_zero.1 h0 with h | h <;> omega) hroom (by omega) (growslice_fits (by omega) hb)
  have hcm : grownCap w (i + k) cap e ≤ maxLen := grownCap_le_maxLen w (i + k) cap e (by simp only [maxLen]; omega)
  have hge := grownCap_ge w (i + k) cap e
  have hzA := zero_cells (e := e) hzc (Y := Xh X h) (w := w) k
  have hzs2 : ∀ r, r ∈ List.replicate k zc → r.length = inf.size := fun r hr => by rw [(List.mem_replicate.1 hr).2]; exact hzl
  have hzl2 : (Builtin.zeroCells z'.cells k).toList.length = k * inf.size := by rw [hzA.1, flatten_len hzs2]; simp
  have hrs : ∀ r, r ∈ rows.take i ++ List.replicate k zc → r.length = inf.size := fun r hr => by
    rcases List.mem_append.1 hr with hr | hr
    · exact h5 r (List.mem_of_mem_take hr)
    · exact hzs2 r hr
  have hlen : (rows.take i ++ List.replicate k zc).length = i + k := by simp; omega
  generalize hgc : grownCap w (i + k) cap e = gc at hrun hcm hge
  have hcl : (((cs.take (rows.length * inf.size)).take (i * inf.size) ++ (Builtin.zeroCells z'.cells k).toList).toArray ++ Builtin.zeroCells z'.cells (gc - (i + k))).toList = (cs.take (rows.length * inf.size)).take (i * inf.size) ++ (Builtin.zeroCells z'.cells k).toList ++ (Builtin.zeroCells z'.cells (gc - (i + k))).toList := by simp
  have hpre : ((cs.take (rows.length * inf.size)).take (i * inf.size) ++ (Builtin.zeroCells z'.cells k).toList).length = (i + k) * inf.size := by rw [List.length_append, hol, hzl2, Nat.add_mul]
  have hA : AVs (Xh X h) w (rows.take i ++ List.replicate k zc).flatten ((cs.take (rows.length * inf.size)).take (i * inf.size) ++ (Builtin.zeroCells z'.cells k).toList) := by
    rw [List.flatten_append, flat_take h5]
    exact (h6.take _).append hzA
  have := hr.cons (w' := w.drew.alloc (.cells (((cs.take (rows.length * inf.size)).take (i * inf.size) ++ (Builtin.zeroCells z'.cells k).toList).toArray ++ Builtin.zeroCells z'.cells (gc - (i + k))) e)) (g := w.heap.size) (b := .arr e inf.size (rows.take i ++ List.replicate k zc) gc) rfl rfl rfl (by change w.heap.size ≤ (w.heap.push _).size; simp) (fun q hq => heap_alloc_old w.drew _ hq) ⟨Nat.le_refl _, by change w.heap.size < (w.heap.push _).size; simp⟩ (fun hkeep => by
    refine ⟨(cs.take (rows.length * inf.size)).take (i * inf.size) ++ (Builtin.zeroCells z'.cells k).toList ++ (Builtin.zeroCells z'.cells (gc - (i + k))).toList, (by have := heap_alloc_new w.drew (.cells (((cs.take (rows.length * inf.size)).take (i * inf.size) ++ (Builtin.zeroCells z'.cells k).toList).toArray ++ Builtin.zeroCells z'.cells (gc - (i + k))) e); rw [show w.drew.heap.size = w.heap.size from rfl] at this; rw [this]; congr 2; apply Array.ext'; simp), ?_, hcm, by rw [hlen]; exact hge, hrs, ?_⟩
    · rw [List.length_append, hpre]
      have : (Builtin.zeroCells z'.cells (gc - (i + k))).toList.length = (gc - (i + k)) * inf.size := by simp [Builtin.zeroCells, hzs]
      rw [this, ← Nat.add_mul]
      congr 1
      omega
    · rw [hlen, ← hpre, List.take_left]
      exact hA.mono hkeep)
  exact ⟨_, _, _, .own w.heap.size 0 (i + k) gc, by simp [execOp, ho, resolve, invoke, builtin, hv, hv2, hrun, Result.andThen], ⟨_, _, fun hm => (by have := hr.lt _ hm; omega), hge, rfl, rfl⟩, this.1, this.2, .own _ _ _ _⟩
/-- Two slices in two blocks do not overlap. -/
theorem opv_overlaps {fo x y : Operand} {ts : Array TypeId} {f : FuncId} {tS tR e sz g1 o1 l1 c1 g2 o2 l2 c2 e1 s1 cap1 e2 s2 cap2 : Nat} {r1 r2 : List (List AV)} (ht : SlT P tS e sz)
    (ho : o.op = .call { callee := .value fo, args := #[x, y], argTypes := ts }) (hfo : Ev tm fo (.fn (.func f) [])) (hcf : ∀ args w, (callFunc f args).run P w = ((Extern.SlicesOverlaps.overlaps #[tS, tS] #[tR] args).run P w).andThen fun v w' => .ok (.value v) w')
    (hx : Ev tm x (.own g1 o1 l1 c1)) (hy : Ev tm y (.own g2 o2 l2 c2)) (hne : g1 ≠ g2) (h1 : (g1, .arr e1 s1 r1 cap1) ∈ h) (h2 : (g2, .arr e2 s2 r2 cap2) ∈ h) (hc2 : cap2 * s2 ≠ 0) : OpV ro P h (evT tm) o (.d (.b false)) := by
  refine opv_pure (by simp [ho]) fun X w a hr hops => ?_
  have v0 := hops fo (by simp [ho, Op.operands, Call.operands])
  have v1 := hops x (by simp [ho, Op.operands, Call.operands])
  have v2 := hops y (by simp [ho, Op.operands, Call.operands])
  rw [hfo.eq] at v0
  rw [hx.eq] at v1
  rw [hy.eq] at v2
  obtain ⟨cvs, hv0, hcv⟩ := inv_fn v0
  have hcn := hcv.nil_inv
  subst hcn
  obtain ⟨cs1, hg1, a2, _⟩ := hr.blk g1 _ h1
  obtain ⟨cs2, hg2, b2, _⟩ := hr.blk g2 _ h2
  have hrun := Lib.run_overlaps_apart (P := P) w tS tR e ht.1 sz ht.2 ⟨g1, o1, none⟩ ⟨g2, o2, none⟩ l1 c1 l2 c2 hne e1 e2 cs1.length cs2.length (by simp [World.shape?, hg1]) (by simp [World.shape?, hg2]) (by rw [b2]; exact hc2) (by simp [World.frozen?, hg1]) (by simp [World.frozen?, hg1])
  refine ⟨.bool false, ?_, mk_b _⟩
  simp [execOp, ho, resolve, Deferred.ofValue, invoke, hv0, inv_own v1, inv_own v2, hcf, hrun, Result.andThen]
theorem p_slice_nil {ρ : Operand → AV} {x yl : Operand} {t e : Nat} {kl : IntKind} (ht : P.underlying t = some (.slice e)) (hsz : ∃ sz, ∀ w, (sizeOf e).run P w = .ok sz w) (ho : o.op = .slice t x (some yl) none none) (hx : ρ x = .nil) (hl : ρ yl = .d (.i kl 0)) : OpV ro P h ρ o .junk := by
  obtain ⟨sz, hsz⟩ := hsz
  refine opv_pure (by simp [ho]) fun X w a hr hops => ?_
  have e1 := hops x (by simp [ho, Op.operands])
  have e2 := hops yl (by simp [ho, Op.operands])
  rw [hx] at e1
  rw [hl] at e2
  have hrun : (Instr.sliceAt t (.slice none 0 0) (some (a.eval yl)) none none).run P w = .ok (.slice none 0 0) w := by
    simp [Instr.sliceAt, Instr.slice, run_underlying ht, Instr.sliceBounds, Instr.sliceBound, asIntOf, inv_i e2, hsz]
  exact ⟨.slice none 0 0, by simp [execOp, ho, inv_nil e1, hrun, Result.andThen], .junk _⟩
end
end Go.Proofs.YtjnkbmodcddbkaaDoor
