import Derived.Test.YtkablfpnjfbhfaaGreatDoorX2
import Derived.Lib.UnsafeStr
import Derived.Laws.MakeOwn
namespace Go.Ab
open Go
section
variable {L : Lk} {n : Nat}
theorem fold_part (vs : List Value) : ∀ (s : Nat) (cells : Array Value) (off : Nat), off + s + vs.length ≤ cells.size →
    ((vs.zipIdx s).foldl (fun cs (c, j) => cs.setIfInBounds (off + j) c) cells).toList = cells.toList.take (off + s) ++ vs ++ cells.toList.drop (off + s + vs.length) := by
  induction vs with
  | nil => intro s cells off h; simp
  | cons v r ih =>
    intro s cells off h
    simp only [List.zipIdx_cons, List.foldl_cons]
    rw [ih (s + 1) _ off (by simp at h ⊢; omega)]
    apply List.ext_getElem?
    intro q
    simp only [Array.toList_setIfInBounds, List.length_cons]
    simp only [List.getElem?_append, List.getElem?_take, List.getElem?_drop, List.length_take, List.length_set, List.length_append, Array.length_toList, List.length_cons]
    simp at h
    have e1 : min (off + (s + 1)) cells.size = off + s + 1 := by omega
    have e2 : min (off + s) cells.size = off + s := by omega
    rw [e1, e2]
    by_cases hq : q < off + s
    · simp [hq, show q < off + s + 1 by omega, show q < off + s + 1 + r.length by omega, show q < off + s + (r.length + 1) by omega, show q < off + (s + 1) by omega]
      rw [List.getElem?_set_ne (by omega)]; simp
    · by_cases hq2 : q = off + s
      · subst hq2
        simp [show off + s < off + s + 1 + r.length by omega, show off + s < off + (s + 1) by omega]
        simp [show off + s < cells.size by omega]
      · by_cases hq3 : q < off + s + 1 + r.length
        · simp [hq, hq3, show ¬ q < off + s + 1 by omega, show q < off + s + (r.length + 1) by omega]
          rw [show q - (off + s) = (q - (off + s + 1)) + 1 by omega, List.getElem?_cons_succ]
        · simp [hq3, show ¬ q < off + s + (r.length + 1) by omega]
          rw [List.getElem?_set_ne (by omega)]
          rw [show off + (s + 1) + r.length + (q - (off + s + 1 + r.length)) = q by omega, show off + s + (r.length + 1) + (q - (off + s + (r.length + 1))) = q by omega]; simp
def PartsR (L : Lk) (place : Nat → Option (Nat × Nat)) : List (Nat × Operand) → List (Nat × Nat × Arg) → Prop
  | [], [] => True
  | (i, x) :: r, (off, m, ax) :: s => place i = some (off, m) ∧ 0 < m ∧ ArgR L x ax ∧ PartsR L place r s
  | _, _ => False
theorem fill_ok {g : Gh} {σ : St} {a : Act} {w : World} (h : RelSt L n g σ a w) (place : Nat → Option (Nat × Nat)) : ∀ (ps : List (Nat × Operand)) (aps : List (Nat × Nat × Arg)) (cells : Array Value) (cs : List AV) (K : List AV → Prop),
    PartsR L place ps aps → cells.size = cs.length → (∀ (j : Nat) (x : AV) (y : Value), cs[j]? = some x → cells[j]? = some y → VR L g σ.rl w x y) → partsK (argV L.gl σ.env) cs aps K →
    ∃ cells' cs', Instr.fill place cells (ps.map fun (i, x) => (i, a.eval x)) = some cells' ∧ K cs' ∧ cells'.size = cs'.length ∧ (∀ (j : Nat) (x : AV) (y : Value), cs'[j]? = some x → cells'[j]? = some y → VR L g σ.rl w x y) := by
  intro ps
  induction ps with
  | nil =>
    intro aps cells cs K hp hn hv hk
    cases aps with
    | nil => exact ⟨cells, cs, rfl, hk, hn, hv⟩
    | cons p r => exact hp.elim
  | cons p r ih =>
    intro aps cells cs K hp hn hv hk
    obtain ⟨i, x⟩ := p
    cases aps with
    | nil => exact hp.elim
    | cons q s =>
      obtain ⟨off, m, ax⟩ := q
      obtain ⟨hpl, hm0, hx, hp⟩ := hp
      simp only [partsK] at hk
      obtain ⟨vs, hk, hvn, hvs, _⟩ := cellsOf_eq (hx.val h) _ hk
      obtain ⟨hvm, hk⟩ := lenK_eq _ _ _ hk
      obtain ⟨hfit, hk⟩ := putK_eq _ _ _ _ hk
      have hsz : (a.eval x).cells.size = m := by rw [hvn, hvm]
      have hle : off + vs.length ≤ cs.length := by
        rcases hfit with hf | hf
        · subst hf; simp at hvm; omega
        · exact hf
      have hcl : (a.eval x).cells.toList.length = vs.length := by simp [hvn]
      have hfold : ((a.eval x).cells.zipIdx.foldl (fun cs (c, j) => cs.setIfInBounds (off + j) c) cells) = (cells.toList.take off ++ (a.eval x).cells.toList ++ cells.toList.drop (off + (a.eval x).cells.toList.length)).toArray := by
        apply Array.ext'
        have := fold_part (a.eval x).cells.toList 0 cells off (by rw [hcl]; omega)
        simp only [Nat.add_zero] at this
        rw [← this, ← Array.foldl_toList, Array.toList_zipIdx]
      have hsize2 : (cells.toList.take off ++ (a.eval x).cells.toList ++ cells.toList.drop (off + (a.eval x).cells.toList.length)).toArray.size = (cs.take off ++ vs ++ cs.drop (off + vs.length)).length := by
        simp [hvn, hn]
      obtain ⟨cells', cs', h1, h2, h3, h4⟩ := ih s _ _ K hp hsize2 (fun q x' y hx' hy => by
        rw [List.getElem?_toArray, hcl, List.append_assoc] at hy
        rw [List.append_assoc] at hx'
        rw [List.getElem?_append] at hx' hy
        simp only [List.length_take] at hx' hy
        have e1 : min off cs.length = off := by omega
        have e2 : min off cells.toList.length = off := by simp; omega
        rw [e1] at hx'
        rw [e2] at hy
        split at hx'
        · rename_i hq
          rw [if_pos hq] at hy
          rw [List.getElem?_take_of_lt hq] at hx' hy
          exact hv q x' y hx' (by simpa using hy)
        · rename_i hq
          rw [if_neg hq] at hy
          rw [List.getElem?_append] at hx' hy
          rw [hcl] at hy
          split at hx'
          · rename_i hq2
            rw [if_pos hq2] at hy
            exact hvs (q - off) x' y hx' (by simpa using hy)
          · rename_i hq2
            rw [if_neg hq2] at hy
            rw [List.getElem?_drop] at hx' hy
            exact hv _ x' y hx' (by simpa using hy)) hk
      refine ⟨cells', cs', ?_, h2, h3, h4⟩
      simp only [List.map_cons, Instr.fill, hpl]
      rw [if_neg (by simp [hsz]; omega), hfold]
      exact h1
theorem list_mapM_run {α β : Type} {P : Program} {w : World} (l : List α) (f : α → Sem β) (g : α → β) (h : ∀ x, x ∈ l → (f x).run P w = .ok (g x) w) : (l.mapM f).run P w = .ok (l.map g) w := by
  induction l with
  | nil => rfl
  | cons x r ih =>
    rw [List.mapM_cons]
    simp only [Sem.run_bind, h x (by simp), Result.andThen_ok, ih (fun y hy => h y (by simp [hy])), Sem.run_pure, List.map_cons]
theorem arr_mapM_run {α β : Type} {P : Program} {w : World} (xs : Array α) (f : α → Sem β) (g : α → β) (h : ∀ x, x ∈ xs.toList → (f x).run P w = .ok (g x) w) : (xs.mapM f).run P w = .ok (xs.map g) w := by
  rw [Array.mapM_eq_mapM_toList, Sem.run_map, list_mapM_run _ _ g h, Result.andThen_ok]
  congr 1
  apply Array.ext'
  simp
theorem snd_build {o : Oper} {t : TypeId} {i : TypeInfo} {zv : Value} {z : List DV} {ps : Array (Nat × Operand)} {aps : List (Nat × Nat × Arg)} {fs : Array Field} (ho : o.op = .build t ps) (hi : L.P.info? t = some i) (hz : i.zero = some zv) (hzr : ZR z zv)
    (ht : L.P.underlying t = some (.struct fs)) (hsz : ∀ f, f ∈ fs.toList → ∃ fi, L.P.info? f.type = some fi)
    (hp : PartsR L (fun i => (fs[i]?).map fun (f : Field) => (f.offset, L.P.cellsOf f.type)) ps.toList aps) : OpS L n o (.build z aps) := by
  intro σ K g a w next Q h hev k
  obtain ⟨env, nb, bx, rl⟩ := σ
  simp only [evOp] at hev
  have hev := zAVsK_eq _ _ hev
  obtain ⟨cells', cs', h1, h2, h3, h4⟩ := fill_ok h _ ps.toList aps zv.cells (z.map zAV) _ hp (by simp [hzr.1]) (fun j x y hx hy => by
    rw [List.getElem?_map] at hx
    cases hj : z[j]? with
    | none => rw [hj] at hx; cases hx
    | some d => rw [hj] at hx; cases hx; exact zAV_ok ((hzr.2 j d y hj hy).1 _ _) (hzr.2 j d y hj hy).2) hev
  refine wp_value (v := .agg cells') ?_ (k _ _ g _ w (Step.refl g rl w) h (.agg _ _ h3 h4) h2)
  have hpla := arr_mapM_run (P := L.P) (w := w) fs (fun (f : Field) => do pure (f.offset, ← sizeOf f.type)) (fun (f : Field) => (f.offset, L.P.cellsOf f.type)) (fun f hf => by
    obtain ⟨fi, hfi⟩ := hsz f hf
    simp [sizeOf, typeInfo, hfi, Program.cellsOf])
  have hfn : (fun (i : Nat) => (fs.map fun (f : Field) => (f.offset, L.P.cellsOf f.type))[i]?) = fun (i : Nat) => (fs[i]?).map fun (f : Field) => (f.offset, L.P.cellsOf f.type) := by
    funext q; simp
  have hpm : (ps.map fun (i, x) => (i, a.eval x)).toList = ps.toList.map fun (i, x) => (i, a.eval x) := by simp
  simp only [execOp, ho, Instr.build, zeroValue, typeInfo, underlying, Sem.run_bind, run_program, Result.andThen_ok, hi, Sem.run_pure, hz, ht, hpla, hfn, hpm, h1]
theorem snd_buildA {o : Oper} {t e : TypeId} {i ei : TypeInfo} {zv : Value} {z : List DV} {ps : Array (Nat × Operand)} {aps : List (Nat × Nat × Arg)} {m : Nat} (ho : o.op = .build t ps) (hi : L.P.info? t = some i) (hz : i.zero = some zv) (hzr : ZR z zv)
    (ht : L.P.underlying t = some (.array m e)) (he : L.P.info? e = some ei) (hp : PartsR L (fun i => some (i * ei.size, ei.size)) ps.toList aps) : OpS L n o (.build z aps) := by
  intro σ K g a w next Q h hev k
  obtain ⟨env, nb, bx, rl⟩ := σ
  simp only [evOp] at hev
  have hev := zAVsK_eq _ _ hev
  obtain ⟨cells', cs', h1, h2, h3, h4⟩ := fill_ok h _ ps.toList aps zv.cells (z.map zAV) _ hp (by simp [hzr.1]) (fun j x y hx hy => by
    rw [List.getElem?_map] at hx
    cases hj : z[j]? with
    | none => rw [hj] at hx; cases hx
    | some d => rw [hj] at hx; cases hx; exact zAV_ok ((hzr.2 j d y hj hy).1 _ _) (hzr.2 j d y hj hy).2) hev
  refine wp_value (v := .agg cells') ?_ (k _ _ g _ w (Step.refl g rl w) h (.agg _ _ h3 h4) h2)
  have hpm : (ps.map fun (i, x) => (i, a.eval x)).toList = ps.toList.map fun (i, x) => (i, a.eval x) := by simp
  simp only [execOp, ho, Instr.build, zeroValue, typeInfo, underlying, sizeOf, Sem.run_bind, run_program, Result.andThen_ok, hi, he, Sem.run_pure, hz, ht, hpm, h1]
def ElsR (L : Lk) : List (Nat × Operand) → List (Nat × Arg) → Prop
  | [], [] => True
  | (i, x) :: r, (j, ax) :: s => i = j ∧ ArgR L x ax ∧ ElsR L r s
  | _, _ => False
theorem fill_els {g : Gh} {σ : St} {a : Act} {w : World} (h : RelSt L n g σ a w) (es : Nat) : ∀ (ps : List (Nat × Operand)) (aps : List (Nat × Arg)) (i : Nat) (pre cells : List Value) (K : List (List DV) → Prop),
    ElsR L ps aps → pre.length = i * es → cells.length = aps.length * es → elsK (argV L.gl σ.env) es i aps K →
    ∃ (xs : List (List DV)) (F : List Value), Instr.fill (fun i => some (i * es, es)) (pre ++ cells).toArray (ps.map fun (i, x) => (i, a.eval x)) = some (pre ++ F).toArray ∧ K xs ∧ xs.length = aps.length ∧ (∀ x, x ∈ xs → x.length = es) ∧
      F.length = xs.length * es ∧ ∀ p j x y, xs[p]? = some x → x[j]? = some y → ∃ u, F[p * es + j]? = some u ∧ DR g.mrk w y u := by
  intro ps
  induction ps with
  | nil =>
    intro aps i pre cells K hp hpre hcl hk
    cases aps with
    | nil =>
      have : cells = [] := List.eq_nil_of_length_eq_zero (by simpa using hcl)
      subst this
      refine ⟨[], [], rfl, hk, rfl, ?_, ?_, ?_⟩
      · intro x hx; cases hx
      · simp
      · intro p j x y hx; simp at hx
    | cons p r => exact hp.elim
  | cons p r ih =>
    intro aps i pre cells K hp hpre hcl hk
    obtain ⟨i', x⟩ := p
    cases aps with
    | nil => exact hp.elim
    | cons q s =>
      obtain ⟨j', ax⟩ := q
      obtain ⟨rfl, hx, hp⟩ := hp
      simp only [elsK] at hk
      split at hk
      · rename_i hb
        have hii : i = i' := Nat.eq_of_beq_eq_true hb
        subst hii
        obtain ⟨vs, hk, hvn, hvs, _⟩ := cellsOf_eq (hx.val h) _ hk
        obtain ⟨hvm, hk⟩ := lenK_eq _ _ _ hk
        obtain ⟨ds, hk, hdl, hds⟩ := puresK_eq (L := L) (g := g) (rl := σ.rl) (w := w) vs (fun j => (a.eval x).cells.getD j undef) (fun j y hy => hvs j y _ hy (by
          have hj : j < (a.eval x).cells.size := by rw [hvn]; exact (List.getElem?_eq_some_iff.1 hy).1
          simp [Array.getD_eq_getD_getElem?, hj])) _ hk
        have hsz : (a.eval x).cells.size = es := by rw [hvn, hvm]
        have hcl' : cells.length = s.length * es + es := by rw [hcl, List.length_cons, Nat.succ_mul]
        have hfold : ((a.eval x).cells.zipIdx.foldl (fun cs (c, j) => cs.setIfInBounds (i * es + j) c) (pre ++ cells).toArray) = ((pre ++ (a.eval x).cells.toList) ++ cells.drop es).toArray := by
          apply Array.ext'
          have := fold_part (a.eval x).cells.toList 0 (pre ++ cells).toArray (i * es) (by simp [hsz, hpre]; omega)
          simp only [Nat.add_zero] at this
          rw [← Array.foldl_toList, Array.toList_zipIdx, this]
          simp [hsz, ← hpre]
        obtain ⟨xs, F, h1, h2, h3, h4, h5, h6⟩ := ih s (i + 1) (pre ++ (a.eval x).cells.toList) (cells.drop es) _ hp (by simp [hpre, hsz, Nat.succ_mul]) (by simp [hcl']) hk
        refine ⟨ds :: xs, (a.eval x).cells.toList ++ F, ?_, h2, by simp [h3], fun y hy => ?_, by simp [hsz, h5, Nat.succ_mul]; omega, fun p j y z hy hz => ?_⟩
        · simp only [List.map_cons, Instr.fill]
          rw [if_neg (by simp [hsz, hpre]; omega), hfold, h1]
          simp
        · simp only [List.mem_cons] at hy
          rcases hy with rfl | hy
          · rw [hdl, hvm]
          · exact h4 y hy
        · cases p with
          | zero =>
            simp at hy; subst hy
            have hj : j < es := by have := (List.getElem?_eq_some_iff.1 hz).1; rw [hdl, hvm] at this; exact this
            have hd := hds j z hz
            simp only [Array.getD_eq_getD_getElem?, Array.getElem?_eq_getElem (show j < (a.eval x).cells.size by omega), Option.getD_some] at hd
            refine ⟨_, ?_, hd⟩
            rw [Nat.zero_mul, Nat.zero_add, List.getElem?_append_left (by simp; omega)]
            simp [show j < (a.eval x).cells.size by omega]
          | succ p =>
            simp only [List.getElem?_cons_succ] at hy
            obtain ⟨u, h7, h8⟩ := h6 p j y z hy hz
            refine ⟨u, ?_, h8⟩
            rw [List.getElem?_append_right (by simp [hsz, Nat.succ_mul]; omega), show (p + 1) * es + j - (a.eval x).cells.toList.length = p * es + j by simp [hsz, Nat.succ_mul]; omega]
            exact h7
      · exact hk.elim
theorem snd_bslice {o : Oper} {t e : TypeId} {i : TypeInfo} {zv : Value} {z : List DV} {m : Nat} {ps : Array (Nat × Operand)} {aps : List (Nat × Arg)} (ho : o.op = .buildSlice t m ps) (ht : L.P.underlying t = some (.slice e)) (hi : L.P.info? e = some i)
    (hz : i.zero = some zv) (hzs : zv.cells.size = i.size) (hpos : 0 < i.size) (hm : m * i.size ≤ 16777216) (hp : ElsR L ps.toList aps) : OpS L n o (.bslice i.size z m aps) := by
  intro σ K g a w next Q h hev k
  obtain ⟨env, nb, bx, rl⟩ := σ
  simp only [evOp] at hev
  obtain ⟨hlen, hev⟩ := lenK_eq _ _ _ hev
  have hcells : ((Array.range (m * i.size)).map (fun q => zv.cells[q % zv.cells.size]!)).toList.length = aps.length * i.size := by simp [hlen]
  obtain ⟨xs, F, h1, h2, h3, h4, h5, h6⟩ := fill_els h i.size ps.toList aps 0 [] ((Array.range (m * i.size)).map (fun q => zv.cells[q % zv.cells.size]!)).toList _ hp (by simp) hcells hev
  have hmm : m ≤ m * i.size := Nat.le_mul_of_pos_right m hpos
  have s := Step.data g rl w (.cells F.toArray e) (m * i.size) h.sh.fresh
  have hsh := h.sh.data (.cells F.toArray e) (m * i.size)
  have hxl : xs.length = m := by omega
  refine wp_value (v := .slice (some ⟨w.heap.size, 0, none⟩) m m) (w' := w.alloc (.cells F.toArray e)) ?_ (k _ _ _ _ _ s (h.keep s hsh) (.rsl xs .full _ ?_ (.inr ⟨⟨w.heap.size, 0, none⟩, by rw [hxl]⟩)) h2)
  · have hpm : (ps.map fun (i, x) => (i, a.eval x)).toList = ps.toList.map fun (i, x) => (i, a.eval x) := by simp
    simp only [List.nil_append] at h1
    have h1' : Instr.fill (fun i_1 => some (i_1 * i.size, i.size)) (Array.map (fun q => zv.cells[q % zv.cells.size]!) (Array.range (m * i.size))) (ps.toList.map fun (i, x) => (i, a.eval x)) = some F.toArray := by
      rw [Array.toArray_toList] at h1; exact h1
    by_cases hm0 : m * i.size = 0
    · have hms : m = 0 := by omega
      subst hms
      have : F = [] := List.eq_nil_of_length_eq_zero (by rw [h5, hxl]; simp)
      subst this
      have hps : ps.toList = [] := by
        cases hps : ps.toList with
        | nil => rfl
        | cons p r =>
          rw [hps] at hp
          cases aps with
          | nil => exact hp.elim
          | cons q s => simp at hlen
      simp [execOp, ho, Instr.buildSlice, underlying, ht, sizeOf, typeInfo, hi, newRow, hps, Instr.fill]
      congr 2
      apply Array.ext'
      simp
    · have hle : ¬ 16777216 < m * i.size := by omega
      simp only [execOp, ho, Instr.buildSlice, underlying, Sem.run_bind, run_program, Result.andThen_ok, ht, Sem.run_pure, sizeOf, typeInfo, hi, Sem.run_ite, hle, if_false, hm0, zeroValue, hz, hpm, newRow]
      simp only [h1']
      rfl
  · have := sl_of_flat (mk := (g.data w.heap.size (m * i.size)).mrk) (w := w.alloc (.cells F.toArray e)) (xs := xs) (blk := w.heap.size) (off := 0) (cap := m) (es := i.size) (F := F) (by unfold big; omega) (by omega) h4
      (by simp [Gh.data, hxl]) h5 (fun j u hj => by rw [cell_of_row _ w.heap.size _ F.toArray e (0, 0) (heap_alloc_new w _)]; simpa using hj)
      (fun p j x y hx hy => by obtain ⟨u, h7, h8⟩ := h6 p j x y hx hy; exact ⟨u, h7, h8.keep s.mrk s.cell⟩)
    rw [hxl] at this
    exact this
theorem snd_idxA {o : Oper} {x i : Operand} {ax ai : Arg} {t e : TypeId} {m : Nat} (ho : o.op = .index t x i) (ht : L.P.underlying t = some (.array m e)) (hte : TyR L e 1 false) (hx : ArgR L x ax) (hi : ArgR L i ai) : OpS L n o (.idxA 1 m false ax ai) := by
  intro σ K g a w next Q h hev k
  obtain ⟨env, nb, bx, rl⟩ := σ
  have hxv := hx.val h
  have hiv := hi.val h
  simp only [evOp] at hev
  split at hev
  · rename_i cs kk q h1 h2
    rw [h1] at hxv
    rw [h2] at hiv
    obtain ⟨hlen, v, h3, h4, hk⟩ := lenK_eq _ _ _ hev
    have hlt := (List.getElem?_eq_some_iff.1 h4).1
    generalize hex : a.eval x = xv at hxv
    cases hxv with
    | agg _ vs hn hvs =>
    have hq : q < m := by omega
    have hqs : q.toNat < vs.size := by omega
    have hp := part_of (L := L) hte vs q.toNat w (by omega)
    refine wp_value (v := vs[q.toNat]) ?_ (k _ _ g _ w (Step.refl g rl w) h (hvs _ v _ h4 (Array.getElem?_eq_getElem hqs)) hk)
    obtain ⟨⟨ei, hei, hes⟩, _⟩ := hte
    simp only [Bool.false_eq_true, if_false, Array.getD_eq_getD_getElem?, Array.getElem?_eq_getElem hqs, Option.getD_some] at hp
    simp [execOp, ho, hex, hiv.int_inv.1, Instr.index, asIntOf, underlying, ht, h3, hq, sizeOf, typeInfo, hei, hes, hp]
  · exact hev.elim
theorem fold_push (ns : List Int) : ∀ (s : ByteArray), ns.foldl (fun r n => r.push (UInt8.ofNat n.toNat)) s = ⟨(s.data.toList ++ ns.map fun n => UInt8.ofNat n.toNat).toArray⟩ := by
  induction ns with
  | nil => intro s; simp
  | cons n r ih =>
    intro s
    rw [List.foldl_cons, ih]
    simp [ByteArray.push]
theorem snd_b2s {o : Oper} {s t e : TypeId} {x : Operand} {ax : Arg} (ho : o.op = .convert s t x) (hs : L.P.underlying s = some (.slice e)) (ht : L.P.underlying t = some .string) (he : L.P.underlying e = some (.int .u8)) (hx : ArgR L x ax) : OpS L n o (.b2s ax) := by
  intro σ K g a w next Q h hev k
  obtain ⟨env, nb, bx, rl⟩ := σ
  have hxv := hx.val h
  simp only [evOp] at hev
  obtain ⟨xs, hev, hd⟩ := elems_inv hxv _ hev
  obtain ⟨hall, hk⟩ := hev
  have hlen1 : ∀ x, x ∈ xs → x.length = 1 := fun x hx => by obtain ⟨m, rfl⟩ := hall x hx; rfl
  rcases flat_of_sl hd 1 hlen1 with ⟨rfl, a0, hc⟩ | ⟨blk, off, cap, F, hc, hb, hcap, hmk, hF, hFc, hF1, hxF⟩
  · refine wp_value (v := .string ⟨#[]⟩) ?_ (k _ _ g _ w (Step.refl g rl w) h (.d _ _ (.str [] (by simp))) hk)
    simp only [execOp, ho, hc, Sem.run_bind, run_convert_bytes_string w s t e a0 0 0 hs he ht]
    cases a0 with
    | none => simp [Conv.bytesToString]; rfl
    | some b => simp [Conv.bytesToString, loadCells]; rfl
  · have hFe : F = xs.map fun x => Value.int .u8 (match x with | [.int _ m] => m | _ => 0) := by
      apply List.ext_getElem?
      intro q
      rw [List.getElem?_map]
      cases hq : xs[q]? with
      | none =>
        have : xs.length ≤ q := by rw [List.getElem?_eq_none_iff] at hq; exact hq
        rw [List.getElem?_eq_none (by omega)]; rfl
      | some x =>
        obtain ⟨m, rfl⟩ := hall x (List.mem_iff_getElem?.2 ⟨q, hq⟩)
        obtain ⟨u, h1, h2⟩ := hxF q 0 _ _ hq rfl
        cases h2
        simpa using h1
    have hload : (loadCells ⟨blk, off, none⟩ xs.length).run L.P w = .ok ((xs.map fun x => (match x with | [.int _ m] => m | _ => 0 : Int)).map (Value.int .u8)).toArray w := by
      have := run_loadCells_list (P := L.P) w ⟨blk, off, none⟩ F (fun j v hj => by rw [Addr.add_lit]; exact hFc j v hj)
      rw [hF, Nat.mul_one] at this
      rw [this, hFe]
      simp [Function.comp_def]
    have hrun := run_bytesToString (P := L.P) w ⟨blk, off, none⟩ xs.length cap _ hload
    refine wp_value (v := .string ⟨(xs.map cellByte).toArray⟩) ?_ (k _ _ g _ w (Step.refl g rl w) h (.d _ _ (.str _ (by simpa using hb))) hk)
    simp only [execOp, ho, hc, Sem.run_bind, run_convert_bytes_string w s t e _ _ _ hs he ht, hrun, Result.andThen_ok, Sem.run_pure, fold_push]
    congr 3
    simp
    intro x hx
    obtain ⟨m, rfl⟩ := hall x hx
    rfl
theorem snd_mkslice {o : Oper} {t e : TypeId} {i : TypeInfo} {zv : Value} {z : List DV} {x y : Operand} {ax ay : Arg} (ho : o.op = .makeSlice t x y) (ht : L.P.underlying t = some (.slice e)) (hi : L.P.info? e = some i)
    (hz : i.zero = some zv) (hzr : ZR z zv) (hx : ArgR L x ax) (hy : ArgR L y ay) : OpS L n o (.mkslice i.size i.bytes z ax ay) := by
  intro σ K g a w next Q h hev k
  obtain ⟨env, nb, bx, rl⟩ := σ
  have hxv := hx.val h
  have hyv := hy.val h
  simp only [evOp] at hev
  split at hev
  · rename_i k1 p k2 q h1 h2
    rw [h1] at hxv
    rw [h2] at hyv
    obtain ⟨⟨rfl, h0, hb, hb0, hzl⟩, hk⟩ := hev
    have hk := snocK_eq _ _ _ hk
    obtain ⟨ex, _⟩ := hxv.int_inv
    obtain ⟨ey, _⟩ := hyv.int_inv
    have hpb : p * 1 ≤ p * i.bytes := Int.mul_le_mul_of_nonneg_left (by omega) h0
    have hple : p ≤ 140737488355328 := by omega
    have hwrap : IntKind.i64.wrap p = p := IntWalk.i64_in p ⟨by omega, by omega⟩
    have htl : ¬ (p < 0 ∨ (281474976710656 : Int) < i.bytes * p) := by rw [Int.mul_comm]; omega
    have hes : zv.cells.size = i.size := by rw [hzr.1, hzl]
    have hcz : ∀ (q : Nat), (List.replicate p.toNat z)[q]? = if q < p.toNat then some z else none := fun q => by rw [List.getElem?_replicate]
    have harr : ∃ arr, arr = madeCells zv.cells (p.toNat * i.size) := ⟨_, rfl⟩
    obtain ⟨arr, harr⟩ := harr
    have harrq : ∀ q, q < p.toNat * i.size → arr[q]? = some (zv.cells[q % zv.cells.size]!) := fun q hq => by
      subst harr; simp [madeCells, hq]
    have harrs : arr.size = p.toNat * i.size := by subst harr; simp [madeCells]
    have s := Step.box g rl w (.cells arr e) h.sh.fresh
    have hsh := h.sh.box' (.cells arr e) (.row i.size (List.replicate p.toNat z)) ⟨arr, e, heap_alloc_new w _, by simp [harrs], fun x hx => by rw [List.eq_of_mem_replicate hx, hzl], by simp [big]; omega, fun pp j x y v hx hy hv => by
      rw [hcz] at hx
      split at hx
      · cases hx
        have hj : j < i.size := by have := (List.getElem?_eq_some_iff.1 hy).1; omega
        have hjz : j < zv.cells.size := by omega
        rename_i hpp
        have hlt : pp * i.size + j < p.toNat * i.size := by
          have := Nat.mul_le_mul_right i.size (Nat.succ_le_of_lt hpp); rw [Nat.succ_mul] at this; omega
        rw [harrq _ hlt] at hv
        cases hv
        have hm : (pp * i.size + j) % zv.cells.size = j := by
          rw [hes, Nat.mul_comm, Nat.mul_add_mod, Nat.mod_eq_of_lt hj]
        rw [hm]
        have hc : zv.cells[j]? = some zv.cells[j] := Array.getElem?_eq_getElem hjz
        have : zv.cells[j]! = zv.cells[j] := by simp [hjz]
        rw [this]
        exact (hzr.2 j y _ hy hc).1 _ _
      · cases hx⟩
    have hnb : (g.box w.heap.size).bk[nb]? = some w.heap.size := by
      have hnb : nb = bx.length := h.sh.nb
      rw [hnb, ← h.sh.bkl]
      simp [Gh.box]
    refine wp_value (v := .slice (some ⟨w.heap.size, 0, none⟩) p.toNat p.toNat) (w' := w.alloc (.cells arr e)) ?_ (k _ _ _ _ _ s (h.keep s hsh) (.bsl nb p.toNat w.heap.size hnb (by unfold big; omega)) hk)
    have hmk := run_make (P := L.P) w t e i zv ht hi hz k1 k2 p p h0 (Int.le_refl _) (by rw [Int.mul_comm]; omega) (by omega)
    subst harr
    simp [execOp, ho, ex, ey, hmk]
  · exact hev.elim
theorem run_sdata {P : Program} {o : Oper} {x : Operand} {t : TypeId} {a : Act} {w : World} (ho : o.op = .call { callee := .builtin .unsafeSliceData, args := #[x], argTypes := #[t] }) :
    (execOp a.eval o).run P w = ((Builtin.unsafeSliceData_ #[t] o.type #[a.eval x]).run P w).andThen fun v w' => .ok (.value v) w' := by
  unfold execOp
  rw [ho]
  simp only [resolve, Sem.run_bind, Sem.run_pure, Result.andThen_ok, invoke, builtin, List.map_toArray, List.map_cons, List.map_nil]
theorem run_ustr {P : Program} {o : Oper} {x y : Operand} {t u : TypeId} {a : Act} {w : World} (ho : o.op = .call { callee := .builtin .unsafeString, args := #[x, y], argTypes := #[t, u] }) :
    (execOp a.eval o).run P w = ((Builtin.unsafeString_ #[t, u] o.type #[a.eval x, a.eval y]).run P w).andThen fun v w' => .ok (.value v) w' := by
  unfold execOp
  rw [ho]
  simp only [resolve, Sem.run_bind, Sem.run_pure, Result.andThen_ok, invoke, builtin, List.map_toArray, List.map_cons, List.map_nil]
theorem snd_sdata {o : Oper} {x : Operand} {ax : Arg} {t : TypeId} (ho : o.op = .call { callee := .builtin .unsafeSliceData, args := #[x], argTypes := #[t] }) (hx : ArgR L x ax) : OpS L n o (.sdata ax) := by
  intro σ K g a w next Q h hev k
  obtain ⟨env, nb, bx, rl⟩ := σ
  have hxv := hx.val h
  simp only [evOp] at hev
  split at hev
  · rename_i xs hs
    rw [hs] at hxv
    generalize hex : a.eval x = xv at hxv
    cases hxv with
    | rsl _ _ _ hd ht =>
    have hxn : xv = .slice none 0 0 := ht
    subst hxn
    refine wp_value (v := .pointer none) ?_ (k _ _ g _ w (Step.refl g rl w) h (.rdat xs .nil none 0 0 hd ht) hev)
    rw [run_sdata ho, hex]; rfl
  · rename_i xs kk hs
    rw [hs] at hxv
    generalize hex : a.eval x = xv at hxv
    cases hxv with
    | rsl _ _ _ hd ht =>
    rw [nth_eq] at hev
    split at hev
    · rename_i q e hq
      obtain ⟨hlen, hev⟩ := hev
      have ht0 := ht
      obtain ⟨L', e', h1, _, h2, h3⟩ := ht
      rw [hq] at h1; cases h1
      rcases h3 hlen with ⟨hv, hr⟩ | ⟨blk, cap, tt, hv, hr, hsh⟩
      · subst hv
        refine wp_value (v := .pointer none) ?_ (k _ _ g _ w (Step.refl g rl w) h (.rdat xs (.row kk) none 0 0 hd ht0) hev)
        rw [run_sdata ho, hex]; rfl
      · subst hv
        have hcap : cap ≠ 0 := by
          obtain ⟨_, hrow⟩ := h.sh.row kk _ _ hq
          rcases hrow with ⟨hr', _⟩ | ⟨_, _, _, _, _, _, _, _, _, _, hpos, _⟩
          · rw [hr] at hr'; cases hr'
          · rcases sl_inv hd with ⟨_, a0, hc⟩ | ⟨_, _, _, _, _, hc, _, hcp, _⟩
            · injection hc with _ hc2 _; omega
            · cases hc; omega
        refine wp_value (v := .pointer (some ⟨blk, 0, none⟩)) ?_ (k _ _ g _ w (Step.refl g rl w) h (.rdat xs (.row kk) _ _ _ hd ht0) hev)
        rw [run_sdata ho, hex, Lib.run_unsafeSliceData_row w _ _ _ _ _ hcap]; rfl
    · exact hev.elim
  · exact hev.elim
theorem freeze_at (w : World) (b m : Nat) (arr : Array Value) (t : TypeId) (fr : Nat × Nat) (hm : m ≠ 0) (hb : w.heap[b]? = some (.cells arr t fr)) :
    ∃ fr' : Nat × Nat, (w.freeze ⟨b, 0, none⟩ m).heap[b]? = some (.cells arr t fr') ∧ fr'.2 ≤ Nat.max fr.2 m := by
  obtain ⟨lo, hi⟩ := fr
  unfold World.freeze
  rw [if_neg hm]
  refine ⟨_, by simp [Array.getElem?_modify, hb]; rfl, ?_⟩
  simp only []
  split
  · simp only; exact Nat.le_max_right _ _
  · simp only; exact Nat.le_refl _
theorem freeze_ne (w : World) (b m c : Nat) (h : c ≠ b) : (w.freeze ⟨b, 0, none⟩ m).heap[c]? = w.heap[c]? := by
  unfold World.freeze
  split
  · rfl
  · simp [Array.getElem?_modify, Ne.symm h]
theorem freeze_size (w : World) (b m : Nat) : (w.freeze ⟨b, 0, none⟩ m).heap.size = w.heap.size := by
  unfold World.freeze
  split
  · rfl
  · simp
theorem freeze_rest (w : World) (b m : Nat) : (w.freeze ⟨b, 0, none⟩ m).os = w.os ∧ (w.freeze ⟨b, 0, none⟩ m).tape = w.tape ∧ (w.freeze ⟨b, 0, none⟩ m).output = w.output := by
  unfold World.freeze
  split <;> exact ⟨rfl, rfl, rfl⟩
theorem freeze_cell (w : World) (b m c o : Nat) (arr : Array Value) (t : TypeId) (fr : Nat × Nat) (hm : m ≠ 0) (hb : w.heap[b]? = some (.cells arr t fr)) :
    (w.freeze ⟨b, 0, none⟩ m).cell? ⟨c, o, none⟩ = w.cell? ⟨c, o, none⟩ := by
  by_cases h : c = b
  · subst h
    obtain ⟨fr', h1, _⟩ := freeze_at w c m arr t fr hm hb
    simp only [World.cell?, h1, hb]
  · exact World.cell?_of_block (a := ⟨c, o, none⟩) (freeze_ne w b m c h)
theorem Step.freeze {g : Gh} {rl : List (Nat × Nat)} {w : World} {b m : Nat} {arr : Array Value} {t : TypeId} {fr : Nat × Nat} (hm : m ≠ 0) (hb : w.heap[b]? = some (.cells arr t fr)) (hr : some b ∈ g.rw) :
    Step g rl w g rl (w.freeze ⟨b, 0, none⟩ m) where
  os := (freeze_rest w b m).1
  tape := (freeze_rest w b m).2.1
  output := (freeze_rest w b m).2.2
  size := by rw [freeze_size]; exact Nat.le_refl _
  mrk b := Nat.le_refl _
  cell c o _ := freeze_cell w b m c o arr t fr hm hb
  bk i b h := h
  row k n e h := ⟨n, h, Nat.le_refl _, fun _ => rfl⟩
  shape c _ := by
    by_cases h : c = b
    · subst h
      obtain ⟨fr', h1, _⟩ := freeze_at w c m arr t fr hm hb
      simp only [World.shape?, h1, hb]
    · simp only [World.shape?, freeze_ne w b m c h]
  newbk b h := .inl h
  newrw b h := .inl h
  frame c _ _ h := freeze_ne w b m c (fun e => h (e ▸ hr))
  mold _ _ _ _ := rfl
theorem RelSh.freeze {g : Gh} {nb : Nat} {bx : List Bx} {rl : List (Nat × Nat)} {w : World} (h : RelSh L g nb bx rl w) {b m k q e : Nat} {arr : Array Value} {t : TypeId} {fr : Nat × Nat} (hm : m ≠ 0) (hb : w.heap[b]? = some (.cells arr t fr))
    (hk : g.rw[k]? = some (some b)) (hq : rl[k]? = some (q, e)) (hle : m ≤ q * esz e) : RelSh L g nb bx rl (w.freeze ⟨b, 0, none⟩ m) := by
  have hr : some b ∈ g.rw := List.mem_iff_getElem?.2 ⟨k, hk⟩
  have s := Step.freeze (rl := rl) hm hb hr
  refine ⟨h.nb, h.bkl, ?_, h.inj, h.rwl, ?_, h.rinj, fun c hc => h.fresh c (by rw [freeze_size] at hc; exact hc), fun i => (h.glob i).keep s⟩
  · intro i x blk hx hbk
    obtain ⟨h1, h2⟩ := h.box i x blk hx hbk
    exact ⟨h1, h2.keep s (freeze_ne w b m blk (fun e => (h.rw_lt hr).2 (e ▸ List.mem_iff_getElem?.2 ⟨i, hbk⟩)))⟩
  · intro k' n' e' hk'
    obtain ⟨h0, h1⟩ := h.row k' n' e' hk'
    refine ⟨h0, ?_⟩
    rcases h1 with h1 | ⟨blk, ar, tt, fr0, q1, q2, q3, q4, q5, q6, q7⟩
    · exact .inl h1
    · by_cases e1 : blk = b
      · subst e1
        have := h.rinj k k' blk hk q1
        subst this
        rw [hq] at hk'; cases hk'
        obtain ⟨fr', r1, r2⟩ := freeze_at w blk m ar tt fr0 hm q2
        exact .inr ⟨blk, ar, tt, fr', q1, r1, q3, q4, q5, Nat.le_trans r2 (Nat.max_le.2 ⟨q6, hle⟩), q7⟩
      · exact .inr ⟨blk, ar, tt, fr0, q1, by rw [freeze_ne w b m blk e1]; exact q2, q3, q4, q5, q6, q7⟩
theorem snd_ustr {o : Oper} {x y : Operand} {ax ay : Arg} {t u : TypeId} (ho : o.op = .call { callee := .builtin .unsafeString, args := #[x, y], argTypes := #[t, u] }) (ht : L.P.underlying t = some (.pointer L.u8)) (h8 : L.P.cellsOf L.u8 = 1)
    (hx : ArgR L x ax) (hy : ArgR L y ay) : OpS L n o (.ustr ax ay) := by
  intro σ K g a w next Q h hev k
  obtain ⟨env, nb, bx, rl⟩ := σ
  have hxv := hx.val h
  have hyv := hy.val h
  have none' : ∀ (p : Option Addr), a.eval x = .pointer p → a.eval y = .int .i64 0 → K (.d (.str [])) ⟨env, nb, bx, rl⟩ → o.wp L.P a w next Q := fun p e1 e2 hk => by
    refine wp_value (v := .string .empty) ?_ (k _ _ g _ w (Step.refl g rl w) h (.d _ _ (.str [] (Nat.zero_le _))) hk)
    rw [run_ustr ho, e1, e2, Lib.run_unsafeString_none]; rfl
  simp only [evOp] at hev
  split at hev
  · rename_i xs m h1 h2
    rw [h1] at hxv
    rw [h2] at hyv
    obtain ⟨ey, _⟩ := hyv.int_inv
    generalize hex : a.eval x = xv at hxv
    cases hxv with
    | rdat _ _ p ln cap hd htag =>
    have hc : Value.slice p ln cap = .slice none 0 0 := htag
    have hx0 : xs = [] := by
      rcases sl_inv hd with ⟨q, _⟩ | ⟨_, _, _, _, _, q, _⟩
      · exact q
      · rw [hc] at q; cases q
    subst hx0
    obtain ⟨hm, hev⟩ := hev
    exact none' p hex (by rw [ey, hm]; rfl) hev
  · rename_i xs kk m h1 h2
    rw [h1] at hxv
    rw [h2] at hyv
    obtain ⟨ey, _⟩ := hyv.int_inv
    generalize hex : a.eval x = xv at hxv
    cases hxv with
    | rdat _ _ p ln cap hd htag =>
    rw [nth_eq] at hev
    split at hev
    rotate_left
    · exact hev.elim
    rename_i q e hq
    obtain ⟨⟨hm, hlen, he, hby⟩, hev⟩ := hev
    subst he
    obtain ⟨L', e', g1, _, _, g3⟩ := htag
    rw [hq] at g1; cases g1
    rcases g3 hlen with ⟨hv, hr⟩ | ⟨blk, cap', tt, hv, hr, hsh⟩
    · cases hv
      have hx0 : xs = [] := by
        rcases sl_inv hd with ⟨q, _⟩ | ⟨_, _, _, _, _, q, _⟩
        · exact q
        · cases q
      subst hx0
      exact none' none hex (by rw [ey, hm]; rfl) hev
    · cases hv
      obtain ⟨_, hrow⟩ := h.sh.row kk _ _ hq
      rcases hrow with ⟨hr', _⟩ | ⟨blk', arr, tt', fr, q1, q2, q3, q4, q5, q6, hpos, q8⟩
      · rw [hr] at hr'; cases hr'
      · rw [hr] at q1; cases q1
        have ht8 := q8 rfl
        subst ht8
        have hl : (xs.map cellByte).length = q := by simp [hlen]
        have hne : xs.map cellByte ≠ [] := by intro hn; rw [hn] at hl; simp at hl; omega
        have e1000 : esz 1000 = 1 := rfl
        rw [e1000] at q4
        rcases flat_of_sl hd 1 (fun x hx => by obtain ⟨b, rfl⟩ := hby x hx; rfl) with ⟨_, a0, hc⟩ | ⟨xb, xo, xcap, F, hxc, hxb, hxcap, hxmk, hF, hFc, hF1, hxF⟩
        · injection hc with _ hc2 _; omega
        · cases hxc
          have hcell : ∀ j b, (xs.map cellByte)[j]? = some b → w.cell? ((⟨blk, 0, none⟩ : Addr).add j) = some (.int .u8 b.toNat) := by
            intro j b hj
            rw [List.getElem?_map] at hj
            cases hxj : xs[j]? with
            | none => rw [hxj] at hj; cases hj
            | some x =>
              rw [hxj] at hj
              obtain ⟨c, rfl⟩ := hby x (List.mem_iff_getElem?.2 ⟨j, hxj⟩)
              have hbc : b = c := by
                have : cellByte (byteCell c) = b := by simpa using hj
                rw [← this]; simp [cellByte, byteCell]
              subst hbc
              obtain ⟨u, hu, hdr⟩ := hxF j 0 _ _ hxj rfl
              cases hdr with
              | int _ _ hin =>
              rw [Addr.add_lit]
              have := hFc j _ (by simpa using hu)
              exact this
          have hrun := Lib.run_unsafeString_row w t u o.type L.u8 ht h8 blk arr.size (by simp [World.shape?, q2]) (xs.map cellByte) hne (by rw [hl]; omega) (by
            rw [hl, ← hlen]; unfold big at hxb; omega) hcell
          have hq0 : (xs.map cellByte).length ≠ 0 := by rw [hl]; omega
          have hr2 : (execOp a.eval o).run L.P w = .ok (.value (.string ⟨(xs.map cellByte).toArray⟩)) (w.freeze ⟨blk, 0, none⟩ (xs.map cellByte).length) := by
            rw [run_ustr ho, hex, ey, hm, show ((xs.length : Nat) : Int) = ((xs.map cellByte).length : Nat) by simp, hrun]; rfl
          have s := Step.freeze (rl := rl) hq0 q2 (List.mem_iff_getElem?.2 ⟨kk, hr⟩)
          have hsh' := h.sh.freeze hq0 q2 hr hq (by rw [hl, e1000]; omega)
          refine wp_value hr2 (k _ _ g _ _ s (h.keep s hsh') (.d _ _ (.str _ ?_)) hev)
          rw [hl, ← hlen]
          exact hxb
  · exact hev.elim
end
end Go.Ab
namespace Go.Ab
open Go
def Det {α : Type} (F : (α → Prop) → Prop) : Prop := ∀ K, F K → ∃ v, K v ∧ ∀ K' : α → Prop, K' v → F K'
theorem Det.pure {α : Type} (v : α) : Det fun K : α → Prop => K v := fun _ h => ⟨v, h, fun _ h => h⟩
theorem Det.bind {α β : Type} {F : (α → Prop) → Prop} {G : α → (β → Prop) → Prop} (hF : Det F) (hG : ∀ x, Det (G x)) : Det fun K => F fun x => G x K := fun K h => by
  obtain ⟨x, h1, h2⟩ := hF _ h
  obtain ⟨v, h3, h4⟩ := hG x K h1
  exact ⟨v, h3, fun K' hk => h2 _ (h4 K' hk)⟩
theorem Det.no {α : Type} : Det fun _ : α → Prop => False := fun _ h => h.elim
theorem Det.need {α : Type} {p : Prop} {G : (α → Prop) → Prop} (hG : Det G) : Det fun K => Need p (G K) := fun K h => by
  obtain ⟨v, h3, h4⟩ := hG K h.2
  exact ⟨v, h3, fun K' hk => ⟨h.1, h4 K' hk⟩⟩
theorem Det.sel {α : Type} {t : Bool} {A B : (α → Prop) → Prop} (hA : Det A) (hB : Det B) : Det fun K => sel t (A K) (B K) := fun K h => by
  cases t with
  | true => exact hA K h
  | false => exact hB K h
theorem Det.idx {α β : Type} {xs : List α} {i : Int} {G : α → (β → Prop) → Prop} (hG : ∀ x, Det (G x)) : Det fun K => IdxK xs i fun x => G x K := fun K ⟨x, h1, h2, h3⟩ => by
  obtain ⟨v, h4, h5⟩ := hG x K h3
  exact ⟨v, h4, fun K' hk => ⟨x, h1, h2, h5 K' hk⟩⟩
theorem det_force (v : AV) : Det (force v) := fun K h => ⟨v, by rw [force_eq] at h; exact h, fun K' h => by rw [force_eq]; exact h⟩
theorem det_len {α β : Type} (xs : List α) (n : Nat) {G : (β → Prop) → Prop} (hG : Det G) : Det fun K => lenK xs n (G K) := fun K h => by
  obtain ⟨v, h3, h4⟩ := hG K (lenK_eq _ _ _ h).2
  refine ⟨v, h3, fun K' hk => ?_⟩
  have key : ∀ (xs : List α) (n : Nat) (A B : Prop), lenK xs n A → B → lenK xs n B := by
    intro xs
    induction xs with
    | nil => intro n A B h1 h2; cases n with
      | zero => exact h2
      | succ n => exact h1.elim
    | cons x r ih => intro n A B h1 h2; cases n with
      | zero => exact h1.elim
      | succ n => exact ih n A B h1 h2
  exact key _ _ _ _ h (h4 K' hk)
theorem det_cells {α : Type} (xs : List α) : ∀ (j n : Nat), Det (cellsK xs j n) := by
  induction xs with
  | nil => intro j n K h; cases n with
    | zero => exact ⟨[], h, fun _ h => h⟩
    | succ n => exact h.elim
  | cons x r ih => intro j n; cases j with
    | succ j => exact ih j n
    | zero => cases n with
      | zero => exact Det.pure []
      | succ n => exact (ih 0 n).bind fun l => Det.pure (x :: l)
theorem det_drop {α : Type} (n : Nat) : ∀ (xs : List α), Det (dropK xs n) := by
  induction n with
  | zero => intro xs K h; exact ⟨xs, by simpa [dropK] using h, fun K' h => by simpa [dropK] using h⟩
  | succ n ih => intro xs; cases xs with
    | nil => exact Det.no
    | cons x r => exact ih r
theorem det_zAVs (xs : List DV) : Det (zAVsK xs) := by
  induction xs with
  | nil => exact Det.pure []
  | cons x r ih => exact (det_force (zAV x)).bind fun v => ih.bind fun l => Det.pure (v :: l)
theorem det_toAVs (xs : List DV) : Det (toAVsK xs) := by
  induction xs with
  | nil => exact Det.pure []
  | cons x r ih => exact ih.bind fun l => Det.pure (.d x :: l)
theorem det_put {α : Type} (xs : List α) : ∀ (j : Nat) (vs : List α), Det (putK xs j vs) := by
  induction xs with
  | nil => intro j vs; cases vs with
    | nil => intro K h; exact ⟨[], by simpa [putK] using h, fun K' h => by simpa [putK] using h⟩
    | cons v vs => exact Det.no
  | cons x r ih => intro j vs; cases vs with
    | nil => intro K h; exact ⟨x :: r, by simpa [putK] using h, fun K' h => by simpa [putK] using h⟩
    | cons v vs => cases j with
      | succ j => exact (ih j (v :: vs)).bind fun l => Det.pure (x :: l)
      | zero => exact (ih 0 vs).bind fun l => Det.pure (v :: l)
theorem det_ones {β : Type} (cs : List AV) {G : (β → Prop) → Prop} (hG : Det G) : Det fun K => onesK cs (G K) := by
  induction cs with
  | nil => exact hG
  | cons v r ih => cases v <;> first | exact ih | exact Det.no
theorem det_cellsOf (v : AV) : Det (cellsOf v) := by
  cases v with
  | agg cs => exact det_ones cs (Det.pure cs)
  | _ => exact det_ones _ (Det.pure _)
theorem det_pure (v : AV) : Det (pureK v) := by
  cases v with
  | d v => exact Det.pure v
  | rsl xs t => exact Det.pure (DV.sl xs)
  | _ => exact Det.no
theorem det_pures (vs : List AV) : Det (puresK vs) := by
  induction vs with
  | nil => exact Det.pure []
  | cons x r ih => exact (det_pure x).bind fun v => ih.bind fun l => Det.pure (v :: l)
theorem det_elems (v : AV) : Det (elemsK v) := by
  cases v with
  | d v => cases v with
    | sl xs => exact Det.pure xs
    | _ => exact Det.no
  | rsl xs t => exact Det.pure xs
  | _ => exact Det.no
theorem det_parts (gv : Arg → AV) (ps : List (Nat × Nat × Arg)) : ∀ cs, Det (partsK gv cs ps) := by
  induction ps with
  | nil => intro cs; exact Det.pure cs
  | cons p r ih =>
    intro cs
    obtain ⟨off, m, x⟩ := p
    exact (det_cellsOf (gv x)).bind fun vs => det_len vs m ((det_put cs off vs).bind fun cs => ih cs)
theorem det_els (gv : Arg → AV) (es : Nat) (ps : List (Nat × Arg)) : ∀ i, Det (elsK gv es i ps) := by
  induction ps with
  | nil => intro i; exact Det.pure []
  | cons p r ih =>
    intro i
    obtain ⟨j, x⟩ := p
    simp only [elsK]
    split
    · exact (det_cellsOf (gv x)).bind fun vs => det_len vs es ((det_pures vs).bind fun ds => (ih (i + 1)).bind fun l => Det.pure (ds :: l))
    · exact Det.no
theorem det_bound (gv : Arg → AV) (x : Option Arg) (dflt : Int) : Det (boundK gv x dflt) := by
  cases x with
  | none => exact Det.pure dflt
  | some a =>
    show Det fun K => boundK gv (some a) dflt K
    simp only [boundK]
    split
    · exact Det.pure _
    · exact Det.no
theorem det_args (gl : Nat → List DV) (env : Env) (xs : List Arg) : Det (argsK gl env xs) := by
  induction xs with
  | nil => exact Det.pure []
  | cons x r ih => exact (det_force _).bind fun v => ih.bind fun l => Det.pure (v :: l)
theorem det_app {α : Type} (xs ys : List α) : Det (appK xs ys) := by
  induction xs with
  | nil => exact Det.pure ys
  | cons x r ih => exact ih.bind fun l => Det.pure (x :: l)
theorem det_withCells (ag : Bool) (cs : List AV) : Det (withCells ag cs) := by
  cases ag with
  | true => exact Det.pure _
  | false =>
    show Det fun K => withCells false cs K
    simp only [withCells]
    split
    · exact det_force _
    · exact Det.no
theorem det_kind {β : Type} (a b : IntKind) {G : (β → Prop) → Prop} (hG : Det G) : Det fun K => kindK a b (G K) := by
  cases a <;> cases b <;> first | exact hG | exact Det.no
theorem det_intop (k : IntKind) (op : BOp) (a b : Int) : Det (intop k op a b) := by
  cases op <;> first | exact Det.pure _ | exact Det.need (Det.pure _) | exact Det.no
theorem det_strop (op : BOp) (a b : List UInt8) : Det (strop op a b) := by
  cases op <;> first | exact Det.pure _ | exact Det.need (Det.pure _) | exact Det.no
theorem det_selArg {β : Type} (c : Arg) (t : Bool) (env : Env) {A B : Env → (β → Prop) → Prop} (hA : ∀ e, Det (A e)) (hB : ∀ e, Det (B e)) : Det fun K => selArg c t env (fun e => A e K) (fun e => B e K) := by
  cases c <;> exact Det.sel (hA _) (hB _)
section
variable (gl : Nat → List DV) (CK : Nat → List AV → Nat → List Bx → List (Nat × Nat) → (AV → Nat → List Bx → List (Nat × Nat) → Prop) → Prop)
theorem det_quiet (o : AOp) (ho : quietOp o = true) (env : Env) (nb : Nat) (bx : List Bx) (rl : List (Nat × Nat)) : Det fun K : AV → Prop => evOp gl CK o ⟨env, nb, bx, rl⟩ fun v _ => K v := by
  cases o <;> first | (simp [quietOp] at ho; done) | skip
  all_goals simp only [evOp]
  case mov x => exact det_force _
  case pick c a b =>
    split
    · exact det_selArg _ _ _ (fun e => det_force _) (fun e => det_force _)
    · exact Det.no
  case build z ps => exact (det_zAVs z).bind fun cs => (det_parts _ ps cs).bind fun cs => Det.pure (AV.agg cs)
  case bslice es z n ps => exact det_len ps n ((det_els _ es ps 0).bind fun xs => Det.pure _)
  case nilchk x => split <;> first | exact Det.pure _ | exact Det.no
  case bini k op x y => split <;> first | exact det_kind _ _ ((det_intop _ _ _ _).bind fun v => Det.pure _) | exact Det.no
  case bins op x y => split <;> first | exact ((det_strop _ _ _).bind fun v => Det.pure _) | exact Det.no
  case binb ne x y => split <;> first | (split <;> exact Det.pure _) | exact Det.no
  case binp ne x y => split <;> first | exact Det.pure _ | exact Det.no
  case not x => split <;> first | (split <;> first | exact Det.sel (Det.pure _) (Det.pure _) | exact Det.pure _) | exact Det.no
  case neg x => split <;> first | exact Det.pure _ | exact Det.no
  case conv k x => split <;> first | exact Det.pure _ | exact Det.no
  case b2s x => exact (det_elems _).bind fun xs => Det.need (Det.pure _)
  case same x => split <;> first | exact Det.pure _ | exact Det.no
  case mkfn f cs => exact (det_args gl env cs).bind fun vs => Det.pure _
  case cutS x lo hi => split <;> first | exact (det_bound _ _ _).bind fun l => (det_bound _ _ _).bind fun h => Det.need (Det.pure _) | exact Det.no
  case cutL es x lo hi => exact (det_elems _).bind fun xs => (det_bound _ _ _).bind fun l => (det_bound _ _ _).bind fun h => Det.need (Det.pure _)
  case cutA es n x lo hi => split <;> first | exact Det.need (Det.pure _) | exact Det.no
  case faddr off x => split <;> first | exact Det.pure _ | exact (det_drop _ _).bind fun cs => Det.pure _ | exact Det.no
  case fld off m ag x => split <;> first | exact (det_cells _ _ _).bind fun cs => det_withCells _ _ | exact Det.no
  case iaddrL es x i => split <;> first | exact Det.idx fun c => Det.need (Det.pure _) | exact Det.need (Det.pure _) | exact Det.no
  case iaddrA es n x i => split <;> first | exact Det.need (Det.idx fun c => Det.pure _) | exact Det.no
  case idxS x i => split <;> first | exact Det.idx fun c => Det.pure _ | exact Det.no
  case idxA es n ag x i =>
    split
    · split
      · split
        · exact det_len _ _ (Det.idx fun c => Det.pure _)
        · exact Det.no
      · exact Det.no
    · exact Det.no
  case ext x i =>
    split
    · split
      · exact det_force _
      · exact Det.no
    · exact Det.no
  case mkif t x => exact (det_force _).bind fun v => Det.pure _
theorem quiet_state (o : AOp) (ho : quietOp o = true) (env : Env) (nb : Nat) (bx : List Bx) (rl : List (Nat × Nat)) (K : AV → St → Prop) :
    evOp gl CK o ⟨env, nb, bx, rl⟩ K = evOp gl CK o ⟨env, 0, [], []⟩ fun v σ => K v ⟨σ.env, nb, bx, rl⟩ := by
  cases o <;> first | (simp [quietOp] at ho; done) | rfl
end
end Go.Ab
namespace Go.Ab
open Go
structure S3 where
  nb : Nat
  bx : List Bx
  rl : List (Nat × Nat)
def nxtV (d : Option Nat) (v x : AV) (s : Nat) : AV :=
  match d with
  | some d => if d = s then v else x
  | none => x
section
variable (gl : Nat → List DV) (CQ : Nat → List AV → (AV → Prop) → Prop) (CK : Nat → List AV → Nat → List Bx → List (Nat × Nat) → (AV → Nat → List Bx → List (Nat × Nat) → Prop) → Prop)
inductive RunF (ms : List Nat) (inc : List (Nat × Nat)) (i0 N : Nat) (hs : List (Nat × List Bx)) (k : Nat) (o : AOp) (C : Nat → S3) (v : AV) (e : Env) : Prop where
  | quiet (h0 : memN ms k = false) (h1 : C (k + 1) = C k) (h2 : quietOp o = true) (h : evOp gl CK o ⟨e, 0, [], []⟩ fun v' _ => v' = v)
  | elt (h0 : memN ms k = false) (h1 : C (k + 1) = C k) (n : Nat) (ag : Bool) (x : Arg) (cs : List DV) (h2 : o = .load n ag x) (h3 : argV gl e x = .elt cs)
      (h4 : cellsK cs 0 n fun cs => toAVsK cs fun cs => withCells ag cs fun v' => v' = v)
  | lenS (h0 : memN ms k = false) (h1 : C (k + 1) = C k) (x : Arg) (h2 : o = .lenS x) (s : List UInt8) (h3 : argV gl e x = .d (.str s)) (h4 : v = .d (.int .i64 s.length))
  | lenL (h0 : memN ms k = false) (h1 : C (k + 1) = C k) (x : Arg) (h2 : o = .lenL x) (xs : List (List DV)) (h3 : argV gl e x = .d (.sl xs) ∨ ∃ t, argV gl e x = .rsl xs t) (h4 : v = .d (.int .i64 xs.length))
  | call (h0 : memN ms k = false) (h1 : C (k + 1) = C k) (f : Nat) (xs : List Arg) (h2 : o = .call f xs) (h : argsK gl e xs fun as => CQ f as fun v' => v' = v)
  | callv (h0 : memN ms k = false) (h1 : C (k + 1) = C k) (x : Arg) (xs : List Arg) (f : Nat) (caps : List AV) (h2 : o = .callv x xs) (h3 : argV gl e x = .fn f caps)
      (h : argsK gl e xs fun as => appK as caps fun as => CQ f as fun v' => v' = v)
  | read (h0 : memN ms k = false) (h1 : C (k + 1) = C k) (n : Nat) (ag : Bool) (x : Arg) (b j : Nat) (cs : List AV) (h2 : o = .load n ag x) (h3 : argV gl e x = .ptr b j)
      (h4 : cellsAt (C k).bx b j n cs) (h5 : withCells ag cs fun v' => v' = v) (h6 : ∀ p, p ∈ hs → memP inc k p.1 = true → cellsAt p.2 b j n cs)
      (h7 : ∀ m, i0 ≤ m → m < k → memN ms m = true → memP inc k m = true → cellsAt (C m).bx b j n cs)
      (h8 : ∀ m, k < m → m < N → memN ms m = true → memP inc k m = true → cellsAt (C (m + 1)).bx b j n cs)
  | turn (h0 : memN ms k = true) (h : evOp gl CK o ⟨e, (C k).nb, (C k).bx, (C k).rl⟩ fun v' σ => v' = v ∧ S3.mk σ.nb σ.bx σ.rl = C (k + 1))
structure Fact (ms : List Nat) (inc : List (Nat × Nat)) (i0 N : Nat) (hs : List (Nat × List Bx)) (k : Nat) (ai : AI) (E : Nat → Nat → AV) (C : Nat → S3) (V : Nat → AV) : Prop where
  next : ∀ s, E (k + 1) s = nxtV ai.d (V k) (E k s) s
  run : (∃ s w, ai.g = some (s, w) ∧ (E k s = .d (.bool (!w)) ∨ E k s = und) ∧ V k = und ∧ C (k + 1) = C k) ∨
    ((ai.g = none ∨ ∃ s w, ai.g = some (s, w) ∧ E k s = .d (.bool w)) ∧ ∃ e, (∀ s, look e s = .junk ∨ (Arg.t s ∈ opArgs ai.o ∧ look e s = E k s)) ∧ RunF gl CQ CK ms inc i0 N hs k ai.o C (V k) e)
theorem cutEnv_eq (env : Env) (xs : List Arg) (K : Env → Prop) (h : cutEnv env xs K) : ∃ e, K e ∧ ∀ s, look e s = .junk ∨ (Arg.t s ∈ xs ∧ look e s = look env s) := by
  induction xs generalizing K with
  | nil => exact ⟨[], h, fun s => .inl rfl⟩
  | cons x r ih =>
    cases x with
    | t i =>
      simp only [cutEnv, force_eq] at h
      obtain ⟨e, h1, h2⟩ := ih _ h
      refine ⟨_, h1, fun s => ?_⟩
      rw [look_cons]
      split
      · rename_i hs; subst hs; exact .inr ⟨List.mem_cons_self .., rfl⟩
      · rcases h2 s with h3 | ⟨h3, h4⟩
        · exact .inl h3
        · exact .inr ⟨List.mem_cons_of_mem _ h3, h4⟩
    | _ =>
      obtain ⟨e, h1, h2⟩ := ih _ h
      refine ⟨e, h1, fun s => ?_⟩
      rcases h2 s with h3 | ⟨h3, h4⟩
      · exact .inl h3
      · exact .inr ⟨List.mem_cons_of_mem _ h3, h4⟩
theorem look_know (env : Env) (s : Nat) (t : Bool) (h : look env s = .d (.bool t)) : look ((s, .d (.bool t)) :: env) = look env := by
  funext x
  rw [look_cons]
  split
  · rename_i e; subst e; exact h.symm
  · rfl
theorem guardK_eq {g : Option (Nat × Bool)} {env : Env} {A B : Env → Prop} (h : guardK g env A B) :
    (∃ e s w, g = some (s, w) ∧ (look env s = .d (.bool (!w)) ∨ look env s = und) ∧ look e = look env ∧ B e) ∨ ((g = none ∨ ∃ s w, g = some (s, w) ∧ look env s = .d (.bool w)) ∧ ∃ e, look e = look env ∧ A e) := by
  unfold guardK at h
  split at h
  · exact .inr ⟨.inl rfl, env, rfl, h⟩
  · rename_i s w
    split at h
    · rename_i t ht
      cases w <;> cases t <;> simp only [sel] at h
      · exact .inr ⟨.inr ⟨s, false, rfl, ht⟩, _, look_know env s _ ht, h⟩
      · exact .inl ⟨_, s, false, rfl, .inl ht, look_know env s _ ht, h⟩
      · exact .inl ⟨_, s, true, rfl, .inl ht, look_know env s _ ht, h⟩
      · exact .inr ⟨.inr ⟨s, true, rfl, ht⟩, _, look_know env s _ ht, h⟩
    · rename_i vs ht
      split at h
      · exact .inl ⟨env, s, w, rfl, .inr ht, rfl, h⟩
      · exact h.elim
    · exact h.elim
theorem chkR_eq {inc : List (Nat × Nat)} {m : Nat} {bx : List Bx} {rs : List Rd} {K : Prop} (h : chkR inc m bx rs K) : K ∧ ∀ r, r ∈ rs → memP inc r.i m = true → cellsAt bx r.b r.j r.n r.cs := by
  induction rs with
  | nil => exact ⟨h, fun r hr => by cases hr⟩
  | cons r rs ih =>
    obtain ⟨i, b, j, n, cs⟩ := r
    simp only [chkR] at h
    split at h
    · obtain ⟨h1, h2⟩ := h
      obtain ⟨h3, h4⟩ := ih h2
      exact ⟨h3, fun r hr hm => by cases hr with | head => exact h1 | tail _ hr => exact h4 r hr hm⟩
    · rename_i hf
      obtain ⟨h3, h4⟩ := ih h
      exact ⟨h3, fun r hr hm => by cases hr with | head => exact absurd hm (by simp [hf]) | tail _ hr => exact h4 r hr hm⟩
theorem chkH_eq {inc : List (Nat × Nat)} {i b j n : Nat} {cs : List AV} {hs : List (Nat × List Bx)} {K : Prop} (h : chkH inc i b j n cs hs K) : K ∧ ∀ p, p ∈ hs → memP inc i p.1 = true → cellsAt p.2 b j n cs := by
  induction hs with
  | nil => exact ⟨h, fun r hr => by cases hr⟩
  | cons r rs ih =>
    obtain ⟨m, bx⟩ := r
    simp only [chkH] at h
    split at h
    · obtain ⟨h1, h2⟩ := h
      obtain ⟨h3, h4⟩ := ih h2
      exact ⟨h3, fun r hr hm => by cases hr with | head => exact h1 | tail _ hr => exact h4 r hr hm⟩
    · rename_i hf
      obtain ⟨h3, h4⟩ := ih h
      exact ⟨h3, fun r hr hm => by cases hr with | head => exact absurd hm (by simp [hf]) | tail _ hr => exact h4 r hr hm⟩
theorem nxt_eq {d : Option Nat} {v : AV} {env : Env} {K : Env → Prop} (h : nxt d v env K) : ∃ e, K e ∧ ∀ s, look e s = nxtV d v (look env s) s := by
  cases d with
  | none => exact ⟨env, h, fun s => rfl⟩
  | some d => exact ⟨_, h, fun s => look_cons d v env s⟩
end
section
variable {L : Lk}
theorem det_callS {nb : Nat} {bx : List Bx} {rl : List (Nat × Nat)} {env : Env} (f : Nat) (as : List AV) : Det fun K : AV × St → Prop => CKs L f as nb bx rl fun v nb bx rl => K (v, ⟨env, nb, bx, rl⟩) :=
  fun _ ⟨v, nb', bx', rl', h, hk⟩ => ⟨_, hk, fun _ hk' => ⟨v, nb', bx', rl', h, hk'⟩⟩
theorem det_set {α : Type} {xs : List α} {i : Nat} {v : α} : Det (setK xs i v) := by
  induction xs generalizing i with
  | nil => exact Det.no
  | cons x r ih => cases i with
    | zero => exact Det.pure _
    | succ i => exact (ih (i := i)).bind fun l => Det.pure (x :: l)
theorem det_snoc {α : Type} {xs : List α} {v : α} : Det (snocK xs v) := by
  induction xs with
  | nil => exact Det.pure _
  | cons x r ih => exact ih.bind fun l => Det.pure (x :: l)
theorem det_appRow (es bytes key : Nat) (v : AV) (ys : List (List DV)) (rl : List (Nat × Nat)) : Det fun K : AV × List (Nat × Nat) → Prop => appRow es bytes key v ys rl fun v rl => K (v, rl) := by
  unfold appRow
  split
  · refine Det.need ?_
    split
    · exact det_snoc.bind fun rl => Det.pure _
    · split
      · exact Det.need (det_snoc.bind fun rl => Det.pure _)
      · exact Det.pure _
    · split
      · exact Det.need (det_set.bind fun rl => Det.pure _)
      · exact Det.no
  · exact Det.no
def mutOp : AOp → Bool
  | .call .. | .callv .. | .store .. | .app .. | .appS .. | .alloc .. | .box _ | .mkslice .. | .sdata _ | .ustr .. => true
  | _ => false
theorem det_mut (o : AOp) (ho : mutOp o = true) (env : Env) (nb : Nat) (bx : List Bx) (rl : List (Nat × Nat)) : Det fun K : AV × St → Prop => evOp L.gl (CKs L) o ⟨env, nb, bx, rl⟩ fun v σ => K (v, σ) := by
  cases o <;> first | (simp [mutOp] at ho; done) | skip
  all_goals simp only [evOp]
  case call f xs => exact (det_args _ env xs).bind fun as => det_callS f as
  case callv x xs =>
    split
    · exact (det_args _ env xs).bind fun as => (det_app _ _).bind fun as => det_callS _ as
    · exact Det.no
  case alloc ty z => exact (det_zAVs z).bind fun cs => det_snoc.bind fun bx => Det.pure _
  case box x => exact (det_cellsOf _).bind fun cs => det_snoc.bind fun bx => Det.pure _
  case mkslice es bytes z a b => split <;> first | exact Det.need (det_snoc.bind fun bx => Det.pure _) | exact Det.no
  case store m x v =>
    split
    · split
      · exact (det_cellsOf _).bind fun vs => det_len _ _ ((det_put _ _ _).bind fun cs => det_set.bind fun bx => Det.pure _)
      · exact Det.no
    · split
      · exact (det_cellsOf _).bind fun vs => det_len _ _ ((det_pures _).bind fun ds => Det.need (det_set.bind fun bx => Det.pure _))
      · exact Det.no
    · exact Det.no
  case app es bytes z x y =>
    exact (det_elems _).bind fun ys => (det_appRow es bytes _ _ ys rl).bind fun p => Det.pure (p.1, (⟨env, nb, bx, p.2⟩ : St))
  case sdata x =>
    split
    · exact Det.pure _
    · split
      · exact Det.need (Det.pure _)
      · exact Det.no
    · exact Det.no
  case ustr p m =>
    split
    · exact Det.need (Det.pure _)
    · split
      · exact Det.need (Det.pure _)
      · exact Det.no
    · exact Det.no
  case appS x y =>
    split
    · exact (det_appRow 1 1 _ _ _ rl).bind fun p => Det.pure (p.1, (⟨env, nb, bx, p.2⟩ : St))
    · exact Det.no
theorem evQ_run (o : AOp) (e : Env) (K : AV → Prop) (h : evQ L.gl (CQs L) (CKs L) o e K) : ∃ v, K v ∧ ∀ (ms : List Nat) (inc : List (Nat × Nat)) (i0 N : Nat) (hs : List (Nat × List Bx)) (k : Nat) (C : Nat → S3),
    memN ms k = false → C (k + 1) = C k → RunF L.gl (CQs L) (CKs L) ms inc i0 N hs k o C v e := by
  have det : ∀ (f : Nat) (as : List AV), Det fun K : AV → Prop => CQs L f as K := fun f as K ⟨v, hv, hk⟩ => ⟨v, hk, fun K' hk' => ⟨v, hv, hk'⟩⟩
  unfold evQ at h
  split at h
  · rename_i n ag x
    split at h
    · rename_i cs hx
      obtain ⟨v, h1, h2⟩ := ((det_cells cs 0 n).bind fun cs => (det_toAVs cs).bind fun cs => det_withCells ag cs) _ h
      exact ⟨v, h1, fun ms inc i0 N hs k C hm hC => .elt hm hC n ag x cs rfl hx (h2 _ rfl)⟩
    · exact h.elim
  · rename_i x
    split at h
    · rename_i s hx
      exact ⟨_, h.2, fun ms inc i0 N hs k C hm hC => .lenS hm hC x rfl s hx rfl⟩
    · exact h.elim
  · rename_i x
    split at h
    · rename_i xs hx
      exact ⟨_, h.2, fun ms inc i0 N hs k C hm hC => .lenL hm hC x rfl xs (.inl hx) rfl⟩
    · rename_i xs t hx
      exact ⟨_, h.2, fun ms inc i0 N hs k C hm hC => .lenL hm hC x rfl xs (.inr ⟨t, hx⟩) rfl⟩
    · exact h.elim
  · rename_i f xs
    obtain ⟨v, h1, h2⟩ := ((det_args L.gl e xs).bind fun as => det f as) _ h
    exact ⟨v, h1, fun ms inc i0 N hs k C hm hC => .call hm hC f xs rfl (h2 _ rfl)⟩
  · rename_i x xs
    split at h
    · rename_i f caps hx
      obtain ⟨v, h1, h2⟩ := ((det_args L.gl e xs).bind fun as => (det_app as caps).bind fun as => det f as) _ h
      exact ⟨v, h1, fun ms inc i0 N hs k C hm hC => .callv hm hC x xs f caps rfl hx (h2 _ rfl)⟩
    · exact h.elim
  · split at h
    · rename_i hq
      obtain ⟨v, h1, h2⟩ := det_quiet L.gl (CKs L) o hq e 0 [] [] _ h
      exact ⟨v, h1, fun ms inc i0 N hs k C hm hC => .quiet hm hC hq (h2 _ rfl)⟩
    · exact h.elim
def Facts (L : Lk) (ms : List Nat) (inc : List (Nat × Nat)) (i N : Nat) (ais : List AI) (env : Env) (nb : Nat) (bx : List Bx) (rl : List (Nat × Nat)) (hs : List (Nat × List Bx)) (rs : List Rd) (K : St → Prop) : Prop :=
  ∃ (E : Nat → Nat → AV) (C : Nat → S3) (V : Nat → AV) (σ : St), K σ ∧ E i = look env ∧ C i = ⟨nb, bx, rl⟩ ∧ look σ.env = E N ∧ S3.mk σ.nb σ.bx σ.rl = C N ∧
    (∀ k ai, ais[k]? = some ai → Fact L.gl (CQs L) (CKs L) ms inc i N hs (i + k) ai E C V) ∧
    (∀ m, i ≤ m → m < N → memN ms m = true → ∀ r, r ∈ rs → memP inc r.i m = true → cellsAt (C (m + 1)).bx r.b r.j r.n r.cs)
theorem evD_facts (ms : List Nat) (inc : List (Nat × Nat)) (ais : List AI) : ∀ (i : Nat) (env : Env) (nb : Nat) (bx : List Bx) (rl : List (Nat × Nat)) (hs : List (Nat × List Bx)) (rs : List Rd) (K : St → Prop),
    (∀ k ai, ais[k]? = some ai → memN ms (i + k) = true → mutOp ai.o = true) → evD L.gl (CQs L) (CKs L) ms inc i ais ⟨env, nb, bx, rl⟩ hs rs K →
    Facts L ms inc i (i + ais.length) ais env nb bx rl hs rs K := by
  induction ais with
  | nil =>
    intro i env nb bx rl hs rs K _ h
    exact ⟨fun _ => look env, fun _ => ⟨nb, bx, rl⟩, fun _ => .junk, ⟨env, nb, bx, rl⟩, h, rfl, rfl, rfl, rfl, fun k ai hk => by simp at hk, fun m h1 h2 => by simp at h2; omega⟩
  | cons ai r ih =>
    intro i env nb bx rl hs rs K hmut h
    obtain ⟨d, gd, o⟩ := ai
    have hrm : ∀ k ai, r[k]? = some ai → memN ms (i + 1 + k) = true → mutOp ai.o = true := fun k ai hk hm => hmut (k + 1) ai (by simpa using hk) (by rw [show i + (k + 1) = i + 1 + k by omega]; exact hm)
    have hN : i + (⟨d, gd, o⟩ :: r : List AI).length = i + 1 + r.length := by simp; omega
    have join : ∀ (v : AV) (env' : Env) (nb' : Nat) (bx' : List Bx) (rl' : List (Nat × Nat)) (hs' : List (Nat × List Bx)) (rs' : List Rd),
        (∀ s, look env' s = nxtV d v (look env s) s) →
        (memN ms i = false ∧ hs' = hs ∨ memN ms i = true ∧ hs' = (i, bx) :: hs) → (∀ p, p ∈ rs → p ∈ rs') →
        (memN ms i = true → ∀ r, r ∈ rs → memP inc r.i i = true → cellsAt bx' r.b r.j r.n r.cs) →
        evD L.gl (CQs L) (CKs L) ms inc (i + 1) r ⟨env', nb', bx', rl'⟩ hs' rs' K →
        (∀ (C : Nat → S3), C i = ⟨nb, bx, rl⟩ → C (i + 1) = ⟨nb', bx', rl'⟩ → (∀ m, i < m → m < i + 1 + r.length → memN ms m = true → ∀ r, r ∈ rs' → memP inc r.i m = true → cellsAt (C (m + 1)).bx r.b r.j r.n r.cs) →
          (∃ s w, gd = some (s, w) ∧ (look env s = .d (.bool (!w)) ∨ look env s = und) ∧ v = und ∧ C (i + 1) = C i) ∨
          ((gd = none ∨ ∃ s w, gd = some (s, w) ∧ look env s = .d (.bool w)) ∧ ∃ e, (∀ s, look e s = .junk ∨ (Arg.t s ∈ opArgs o ∧ look e s = look env s)) ∧ RunF L.gl (CQs L) (CKs L) ms inc i (i + 1 + r.length) hs i o C v e)) →
        Facts L ms inc i (i + 1 + r.length) (⟨d, gd, o⟩ :: r) env nb bx rl hs rs K := by
      intro v env' nb' bx' rl' hs' rs' henv hhs hrs hchk hev hrun
      obtain ⟨E, C, V, σ, h1, h2, h3, h4, h5, h6, h7⟩ := ih (i + 1) env' nb' bx' rl' hs' rs' K hrm hev
      let E' : Nat → Nat → AV := fun k => if k ≤ i then look env else E k
      let C' : Nat → S3 := fun k => if k ≤ i then ⟨nb, bx, rl⟩ else C k
      let V' : Nat → AV := fun k => if k ≤ i then v else V k
      have eE : ∀ k, i < k → E' k = E k := fun k hk => if_neg (by omega)
      have eC : ∀ k, i < k → C' k = C k := fun k hk => if_neg (by omega)
      have eV : ∀ k, i < k → V' k = V k := fun k hk => if_neg (by omega)
      have e0 : E' i = look env := if_pos (Nat.le_refl _)
      have c0 : C' i = ⟨nb, bx, rl⟩ := if_pos (Nat.le_refl _)
      have v0 : V' i = v := if_pos (Nat.le_refl _)
      have c1 : C' (i + 1) = ⟨nb', bx', rl'⟩ := by rw [eC _ (by omega)]; exact h3
      refine ⟨E', C', V', σ, h1, e0, c0, by rw [eE _ (by omega)]; exact h4, by rw [eC _ (by omega)]; exact h5, ?_, ?_⟩
      · intro k ai hk
        cases k with
        | zero =>
          simp at hk
          subst hk
          refine ⟨fun s => ?_, ?_⟩
          · show E' (i + 1) s = nxtV d (V' i) (E' i s) s
            rw [eE _ (by omega), h2, v0, e0]; exact henv s
          · show (∃ s w, gd = some (s, w) ∧ (E' i s = .d (.bool (!w)) ∨ E' i s = und) ∧ V' i = und ∧ C' (i + 1) = C' i) ∨
              ((gd = none ∨ ∃ s w, gd = some (s, w) ∧ E' i s = .d (.bool w)) ∧ ∃ e, (∀ s, look e s = .junk ∨ (Arg.t s ∈ opArgs o ∧ look e s = E' i s)) ∧ RunF L.gl (CQs L) (CKs L) ms inc i (i + 1 + r.length) hs i o C' (V' i) e)
            rw [e0, v0]
            exact hrun C' c0 c1 fun m hm1 hm2 hm3 r hr hm4 => by rw [eC _ (by omega)]; exact h7 m (by omega) (by omega) hm3 r hr hm4
        | succ k =>
          have hf := h6 k ai (by simpa using hk)
          rw [show i + (k + 1) = i + 1 + k by omega]
          obtain ⟨f1, f2⟩ := hf
          refine ⟨fun s => by rw [eE _ (by omega), eE _ (by omega), eV _ (by omega)]; exact f1 s, ?_⟩
          rw [eE _ (by omega), eV _ (by omega), eC _ (by omega), eC _ (by omega)]
          rcases f2 with f2 | ⟨f2, e, f3, f4⟩
          · exact .inl f2
          · refine .inr ⟨f2, e, f3, ?_⟩
            have q : C' (i + 1 + k) = C (i + 1 + k) := eC _ (by omega)
            have q1 : C' (i + 1 + k + 1) = C (i + 1 + k + 1) := eC _ (by omega)
            cases f4 with
            | quiet g0 g1 g2 g3 => exact .quiet g0 (by rw [q, q1]; exact g1) g2 g3
            | elt g0 g1 n ag x cs g2 g3 g4 => exact .elt g0 (by rw [q, q1]; exact g1) n ag x cs g2 g3 g4
            | lenS g0 g1 x g2 s g3 g4 => exact .lenS g0 (by rw [q, q1]; exact g1) x g2 s g3 g4
            | lenL g0 g1 x g2 xs g3 g4 => exact .lenL g0 (by rw [q, q1]; exact g1) x g2 xs g3 g4
            | call g0 g1 f xs g2 g3 => exact .call g0 (by rw [q, q1]; exact g1) f xs g2 g3
            | callv g0 g1 x xs f caps g2 g3 g4 => exact .callv g0 (by rw [q, q1]; exact g1) x xs f caps g2 g3 g4
            | turn g0 g1 => exact .turn g0 (by rw [q, q1]; exact g1)
            | read g0 g1 n ag x b j cs g2 g3 g4 g5 g6 g7 g8 =>
              refine .read g0 (by rw [q, q1]; exact g1) n ag x b j cs g2 g3 (by rw [q]; exact g4) g5 ?_ ?_ ?_
              · intro p hp hm
                rcases hhs with ⟨_, hh⟩ | ⟨_, hh⟩
                · exact g6 p (by rw [hh]; exact hp) hm
                · exact g6 p (by rw [hh]; exact List.mem_cons_of_mem _ hp) hm
              · intro m hm1 hm2 hm3 hm4
                by_cases hmi : m = i
                · subst hmi
                  rw [c0]
                  rcases hhs with ⟨hf, _⟩ | ⟨_, hh⟩
                  · exact absurd hm3 (by simp [hf])
                  · exact g6 (m, bx) (by rw [hh]; exact List.mem_cons_self ..) hm4
                · rw [eC _ (by omega)]; exact g7 m (by omega) hm2 hm3 hm4
              · intro m hm1 hm2 hm3 hm4
                rw [eC _ (by omega)]; exact g8 m hm1 hm2 hm3 hm4
      · intro m hm1 hm2 hm3 r' hr hm4
        by_cases hmi : m = i
        · subst hmi; rw [c1]; exact hchk hm3 r' hr hm4
        · rw [eC _ (by omega)]; exact h7 m (by omega) hm2 hm3 r' (hrs r' hr) hm4
    rw [hN]
    simp only [evD] at h
    rcases guardK_eq h with ⟨e0, s, w, hg, hl, he0, h⟩ | ⟨hg, e0, he0, h⟩
    ·
      have tail : ∀ hs', (memN ms i = false ∧ hs' = hs ∨ memN ms i = true ∧ hs' = (i, bx) :: hs) → (memN ms i = true → ∀ r, r ∈ rs → memP inc r.i i = true → cellsAt bx r.b r.j r.n r.cs) →
          (nxt d und e0 fun env => evD L.gl (CQs L) (CKs L) ms inc (i + 1) r ⟨env, nb, bx, rl⟩ hs' rs K) → Facts L ms inc i (i + 1 + r.length) (⟨d, gd, o⟩ :: r) env nb bx rl hs rs K := fun hs' hhs hchk h => by
        obtain ⟨e1, h1, h2⟩ := nxt_eq h
        rw [he0] at h2
        exact join und e1 nb bx rl hs' rs h2 hhs (fun p hp => hp) hchk h1 (fun C c0 c1 _ => .inl ⟨s, w, hg, hl, rfl, by rw [c0, c1]⟩)
      split at h
      · rename_i hm
        obtain ⟨h1, h2⟩ := chkR_eq h
        exact tail _ (.inr ⟨hm, rfl⟩) (fun _ => h2) h1
      · rename_i hm
        exact tail _ (.inl ⟨hm, rfl⟩) (fun hm' => absurd hm' (by simp [hm])) h
    · split at h
      · rename_i hm
        obtain ⟨e, h, he⟩ := cutEnv_eq _ _ _ h
        rw [he0] at he
        obtain ⟨⟨v, σ⟩, h1, h2⟩ := det_mut (L := L) o (hmut 0 _ rfl hm) e nb bx rl (fun p => match p.2 with
          | ⟨_, nb', bx', rl'⟩ => chkR inc i bx' rs (nxt d p.1 e0 fun env => evD L.gl (CQs L) (CKs L) ms inc (i + 1) r ⟨env, nb', bx', rl'⟩ ((i, bx) :: hs) rs K)) h
        obtain ⟨env3, nb3, bx3, rl3⟩ := σ
        obtain ⟨h3, h4⟩ := chkR_eq h1
        obtain ⟨e1, h5, h6⟩ := nxt_eq h3
        rw [he0] at h6
        refine join v e1 nb3 bx3 rl3 _ rs h6 (.inr ⟨hm, rfl⟩) (fun p hp => hp) (fun _ => h4) h5 (fun C c0 c1 _ => .inr ⟨hg, e, he, .turn hm ?_⟩)
        rw [c0]
        exact h2 (fun p => p.1 = v ∧ S3.mk p.2.nb p.2.bx p.2.rl = C (i + 1)) ⟨rfl, c1.symm⟩
      · rename_i hm
        have no : memN ms i = true → ∀ r, r ∈ rs → memP inc r.i i = true → cellsAt bx r.b r.j r.n r.cs := fun hm' => absurd hm' (by simp [hm])
        have quiet : (cutEnv e0 (opArgs o) fun e => evQ L.gl (CQs L) (CKs L) o e fun v => nxt d v e0 fun env => evD L.gl (CQs L) (CKs L) ms inc (i + 1) r ⟨env, nb, bx, rl⟩ hs rs K) → Facts L ms inc i (i + 1 + r.length) (⟨d, gd, o⟩ :: r) env nb bx rl hs rs K := fun h => by
          obtain ⟨e, h, he⟩ := cutEnv_eq _ _ _ h
          rw [he0] at he
          have fin : ∀ v, (nxt d v e0 fun env => evD L.gl (CQs L) (CKs L) ms inc (i + 1) r ⟨env, nb, bx, rl⟩ hs rs K) →
              (∀ C : Nat → S3, C (i + 1) = C i → RunF L.gl (CQs L) (CKs L) ms inc i (i + 1 + r.length) hs i o C v e) → Facts L ms inc i (i + 1 + r.length) (⟨d, gd, o⟩ :: r) env nb bx rl hs rs K := fun v h hr => by
            obtain ⟨e1, h5, h6⟩ := nxt_eq h
            rw [he0] at h6
            exact join v e1 nb bx rl hs rs h6 (.inl ⟨hm, rfl⟩) (fun p hp => hp) no h5 (fun C c0 c1 _ => .inr ⟨hg, e, he, hr C (by rw [c0, c1])⟩)
          obtain ⟨v, h1, h2⟩ := evQ_run o e _ h
          exact fin v h1 fun C hC => h2 _ _ _ _ _ _ C hm hC
        split at h
        · rename_i n ag x _
          split at h
          · rename_i b j hx
            split at h
            · rename_i cs hb
              obtain ⟨l, h1, h2⟩ := det_cells cs j n _ h
              obtain ⟨h3, h4⟩ := chkH_eq h1
              obtain ⟨v, h5, h6⟩ := det_withCells ag l _ h3
              obtain ⟨e1, h7, h8⟩ := nxt_eq h5
              rw [he0] at h8
              have hat : cellsAt bx b j n l := by unfold cellsAt; rw [hb]; exact h2 _ rfl
              have hxt : ∃ s, x = .t s := by
                cases x with
                | t s => exact ⟨s, rfl⟩
                | k v => exfalso; simp only [argV, zAV] at hx; split at hx <;> cases hx
                | ka v => cases hx
                | g s => cases hx
                | f s => cases hx
              obtain ⟨s, rfl⟩ := hxt
              have hx' : look env s = .ptr b j := by rw [← he0]; exact hx
              refine join v e1 nb bx rl hs _ h8 (.inl ⟨hm, rfl⟩) (fun p hp => List.mem_cons_of_mem _ hp) no h7 (fun C c0 c1 hl => .inr ⟨hg, [(s, .ptr b j)], fun s' => ?_, ?_⟩)
              · rw [look_cons]
                split
                · rename_i e; subst e; exact .inr ⟨List.mem_cons_self .., hx'.symm⟩
                · exact .inl rfl
              · refine .read hm (by rw [c0, c1]) n ag (.t s) b j l rfl ?_ (by rw [c0]; exact hat) (h6 _ rfl) h4 ?_ ?_
                · show look _ s = _
                  rw [look_cons, if_pos rfl]
                · intro m hm1 hm2; omega
                · intro m hm1 hm2 hm3 hm4
                  exact hl m hm1 hm2 hm3 ⟨i, b, j, n, l⟩ (List.mem_cons_self ..) hm4
            · exact h.elim
          · exact quiet h
        · exact quiet h
end
end Go.Ab
