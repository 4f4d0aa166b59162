import Derived.Test.YtkablfpnjfbhfaaGreatDoorX0
import Derived.Laws.Build
import Derived.IntWalk
import Derived.Laws.Strings
namespace Go.Ab
open Go
def CT (L : Lk) (f : Nat) (args : List AV) (nb : Nat) (bx : List Bx) (rl : List (Nat × Nat)) (v : AV) (nb' : Nat) (bx' : List Bx) (rl' : List (Nat × Nat)) : Prop :=
  ∀ (g : Gh) (w : World) (cargs : Array Value), RelSh L g nb bx rl w → cargs.size = args.length →
    (∀ (j : Nat) (x : AV) (y : Value), args[j]? = some x → cargs[j]? = some y → VR L g rl w x y) →
    Calls L.P (L.fn f) cargs w fun e w' => ∃ cv g', e = .returned cv ∧ Step g rl w g' rl' w' ∧ RelSh L g' nb' bx' rl' w' ∧ VR L g' rl' w' v cv
def CKs (L : Lk) (f : Nat) (args : List AV) (nb : Nat) (bx : List Bx) (rl : List (Nat × Nat)) (K : AV → Nat → List Bx → List (Nat × Nat) → Prop) : Prop :=
  ∃ v nb' bx' rl', CT L f args nb bx rl v nb' bx' rl' ∧ K v nb' bx' rl'
def CP (L : Lk) (f : Nat) (args : List AV) (v : AV) : Prop := ∀ nb bx rl, CT L f args nb bx rl v nb bx rl
def CQs (L : Lk) (f : Nat) (args : List AV) (K : AV → Prop) : Prop := ∃ v, CP L f args v ∧ K v
def OpS (L : Lk) (n : Nat) (o : Oper) (ao : AOp) : Prop :=
  ∀ (σ : St) (K : AV → St → Prop) (g : Gh) (a : Act) (w : World) (next : Act → World → Prop) (Q : Exit → Act → World → Prop),
    RelSt L n g σ a w → evOp L.gl (CKs L) ao σ K →
    (∀ (av : AV) (σ' : St) (g' : Gh) (v' : Value) (w' : World), Step g σ.rl w g' σ'.rl w' → RelSt L n g' σ' a w' → VR L g' σ'.rl w' av v' → K av σ' → next (a.put o.dst v') w') →
    o.wp L.P a w next Q
theorem wp_value {P : Program} {o : Oper} {a : Act} {w w' : World} {v : Value} {next : Act → World → Prop} {Q : Exit → Act → World → Prop}
    (h : (execOp a.eval o).run P w = .ok (.value v) w') (k : next (a.put o.dst v) w') : o.wp P a w next Q := by
  unfold Oper.wp; rw [h]; exact k
theorem wp_skipped {P : Program} {o : Oper} {a : Act} {w w' : World} {next : Act → World → Prop} {Q : Exit → Act → World → Prop}
    (h : (execOp a.eval o).run P w = .ok .skip w') (k : next (a.put o.dst undef) w') : o.wp P a w next Q := by
  unfold Oper.wp; rw [h]; exact k
theorem VR.und {L : Lk} {g : Gh} {rl : List (Nat × Nat)} {w : World} : VR L g rl w Go.Ab.und undef := .tup [] #[] rfl fun j x y h => by simp at h
theorem VR.und_inv {L : Lk} {g : Gh} {rl : List (Nat × Nat)} {w : World} {c : Value} (h : VR L g rl w Go.Ab.und c) : c = .tuple #[] := by
  unfold Go.Ab.und at h
  cases h with | tup _ vs hn _ => rw [Array.eq_empty_of_size_eq_zero hn]
theorem VR.bool_inv {L : Lk} {g : Gh} {rl : List (Nat × Nat)} {w : World} {t : Bool} {c : Value} (h : VR L g rl w (.d (.bool t)) c) : c = .bool t := by
  cases h with | d _ _ h => cases h; rfl
theorem VR.int_inv {L : Lk} {g : Gh} {rl : List (Nat × Nat)} {w : World} {k : IntKind} {m : Int} {c : Value} (h : VR L g rl w (.d (.int k m)) c) : c = .int k m ∧ inR k m := by
  cases h with | d _ _ h => cases h; exact ⟨rfl, by assumption⟩
theorem VR.str_inv {L : Lk} {g : Gh} {rl : List (Nat × Nat)} {w : World} {s : List UInt8} {c : Value} (h : VR L g rl w (.d (.str s)) c) : c = .string ⟨s.toArray⟩ ∧ s.length ≤ big := by
  cases h with | d _ _ h => cases h; exact ⟨rfl, by assumption⟩
theorem VR.ptr_inv {L : Lk} {g : Gh} {rl : List (Nat × Nat)} {w : World} {b j : Nat} {c : Value} (h : VR L g rl w (.ptr b j) c) : ∃ blk, c = .pointer (some ⟨blk, j, none⟩) ∧ g.bk[b]? = some blk := by
  cases h with | ptr _ _ blk h => exact ⟨blk, rfl, h⟩
theorem VR.rptr_inv {L : Lk} {g : Gh} {rl : List (Nat × Nat)} {w : World} {b es i j : Nat} {c : Value} (h : VR L g rl w (.rptr b es i j) c) : ∃ blk, c = .pointer (some ⟨blk, i * es + j, none⟩) ∧ g.bk[b]? = some blk := by
  cases h with | rptr _ _ _ _ blk h => exact ⟨blk, rfl, h⟩
theorem VR.vbool {L : Lk} {g : Gh} {rl : List (Nat × Nat)} {w : World} (t : Bool) : VR L g rl w (.d (.bool t)) (.bool t) := .d _ _ (.bool t)
section
variable {L : Lk} {n : Nat}
theorem snd_mov {o : Oper} {x : Operand} {ax : Arg} (ho : o.op = .move x ∨ o.op = .assign x) (hx : ArgR L x ax) : OpS L n o (.mov ax) := by
  intro σ K g a w next Q h hev k
  simp only [evOp, force_eq] at hev
  have hr : (execOp a.eval o).run L.P w = .ok (.value (a.eval x)) w := by
    rcases ho with ho | ho <;> simp [execOp, ho]
  exact wp_value hr (k _ _ g _ w (Step.refl _ _ _) h (hx.val h) hev)
theorem snd_pick {o : Oper} {c x y : Operand} {ac ax ay : Arg} (ho : o.op = .pick c x y) (hc : ArgR L c ac) (hx : ArgR L x ax) (hy : ArgR L y ay) : OpS L n o (.pick ac ax ay) := by
  intro σ K g a w next Q h hev k
  obtain ⟨env, nb, bx, rl⟩ := σ
  have hcv := hc.val h
  simp only [evOp] at hev
  split at hev
  · rename_i t ht
    rw [ht] at hcv
    have hb := hcv.bool_inv
    have run : ∀ u : Bool, t = u → (execOp a.eval o).run L.P w = .ok (.value (if u then a.eval x else a.eval y)) w := by
      intro u hu
      subst hu
      simp [execOp, ho, hb, asBool]
    simp only [selArg, force_eq] at hev
    split at hev
    · rename_i i
      have hi : a.tmps.getD i undef = .bool t := by cases hc; exact hb
      cases ht' : t with
      | true =>
        rw [ht'] at hev hi
        have h2 := h.know i (.d (.bool true)) (by rw [hi]; exact VR.vbool true)
        exact wp_value (run true ht') (k _ _ g _ w (Step.refl g rl w) h2 (hx.val h2) hev)
      | false =>
        rw [ht'] at hev hi
        have h2 := h.know i (.d (.bool false)) (by rw [hi]; exact VR.vbool false)
        exact wp_value (run false ht') (k _ _ g _ w (Step.refl g rl w) h2 (hy.val h2) hev)
    · cases ht' : t with
      | true => rw [ht'] at hev; exact wp_value (run true ht') (k _ _ g _ w (Step.refl _ _ _) h (hx.val h) hev)
      | false => rw [ht'] at hev; exact wp_value (run false ht') (k _ _ g _ w (Step.refl _ _ _) h (hy.val h) hev)
  · exact hev.elim
def ZR (z : List DV) (v : Value) : Prop := v.cells.size = z.length ∧ ∀ (j : Nat) (x : DV) (y : Value), z[j]? = some x → v.cells[j]? = some y → KR y x ∧ (x = .sl [] → y = .slice none 0 0)
theorem snd_alloc {o : Oper} {t : TypeId} {i : TypeInfo} {zv : Value} {ty : Nat} {z : List DV} (ho : o.op = .alloc t) (hi : L.P.info? t = some i) (hz : i.zero = some zv) (hzr : ZR z zv) (hty : ty = 0 ∨ t = L.tn ty) : OpS L n o (.alloc ty z) := by
  intro σ K g a w next Q h hev k
  obtain ⟨env, nb, bx, rl⟩ := σ
  simp only [evOp] at hev
  have hev := snocK_eq _ _ _ (zAVsK_eq _ _ hev)
  have hr : (execOp a.eval o).run L.P w = .ok (.value (.pointer (some ⟨w.heap.size, 0, none⟩))) (w.alloc (.cells zv.cells t)) := by
    simp [execOp, ho, Instr.alloc, zeroValue, typeInfo, hi, hz, newVar, newRow]
  have s := Step.box g rl w (.cells zv.cells t) h.sh.fresh
  have hsh := h.sh.box' (.cells zv.cells t) (.var ty (z.map zAV)) ⟨zv.cells, t, heap_alloc_new w _, by simp [hzr.1], fun j x y hx hy => by
    rw [List.getElem?_map] at hx
    cases hj : z[j]? with
    | none => rw [hj] at hx; cases hx
    | some d => rw [hj] at hx; cases hx; exact zAV_ok ((hzr.2 j d y hj hy).1 _ _) (hzr.2 j d y hj hy).2, hty⟩
  refine wp_value hr (k _ _ _ _ _ s (h.keep s hsh) (.ptr nb 0 w.heap.size ?_) hev)
  have hnb : nb = bx.length := h.sh.nb
  rw [hnb, ← h.sh.bkl]
  simp [Gh.box]
theorem snd_box {o : Oper} {t : TypeId} {x : Operand} {ax : Arg} (ho : o.op = .box t x) (hx : ArgR L x ax) : OpS L n o (.box ax) := by
  intro σ K g a w next Q h hev k
  obtain ⟨env, nb, bx, rl⟩ := σ
  simp only [evOp] at hev
  obtain ⟨cs, hk, hn, hh, _⟩ := cellsOf_eq (hx.val h) _ hev
  have hev := snocK_eq _ _ _ hk
  have hr : (execOp a.eval o).run L.P w = .ok (.value (.pointer (some ⟨w.heap.size, 0, none⟩))) (w.alloc (.cells (a.eval x).cells t)) := by
    simp [execOp, ho, Instr.box, newVar, newRow]
  have s := Step.box g rl w (.cells (a.eval x).cells t) h.sh.fresh
  have hsh := h.sh.box' (.cells (a.eval x).cells t) (.var 0 cs) ⟨_, t, heap_alloc_new w _, hn, fun j x y hx hy => (hh j x y hx hy).keep s, .inl rfl⟩
  refine wp_value hr (k _ _ _ _ _ s (h.keep s hsh) (.ptr nb 0 w.heap.size ?_) hev)
  have hnb : nb = bx.length := h.sh.nb
  rw [hnb, ← h.sh.bkl]
  simp [Gh.box]
theorem nth_eq {α : Type} (xs : List α) (i : Nat) : nth xs i = xs[i]? := by
  induction xs generalizing i with
  | nil => rfl
  | cons x r ih => cases i with
    | zero => rfl
    | succ i => simp only [nth, List.getElem?_cons_succ]; exact ih i
theorem run_loadVar_of (P : Program) (w : World) (t : TypeId) (m : Nat) (ag : Bool) (i : TypeInfo) (d : TypeDesc) (hi : P.info? t = some i) (hm : i.size = m) (hd : P.underlying t = some d)
    (ha : aggD d = ag) (hag : ag = false → m = 1) (blk off : Nat) (f : Nat → Value) (h : ∀ j, j < m → w.cell? ⟨blk, off + j, none⟩ = some (f j)) :
    (loadVar t ⟨blk, off, none⟩).run P w = .ok (if ag then .agg ((List.range m).map f).toArray else f 0) w := by
  have hl := run_loadCells (P := P) w ⟨blk, off, none⟩ m f (fun j hj => by rw [Addr.add_lit]; exact h j hj)
  cases ag with
  | true =>
    have : (isAgg t).run P w = .ok true w := by
      unfold isAgg underlying
      simp only [Sem.run_bind, run_program, Result.andThen_ok, hd]
      cases d <;> simp [aggD] at ha <;> rfl
    simp [loadVar, this, sizeOf, typeInfo, hi, hm, hl]
  | false =>
    have h1 := hag rfl
    subst h1
    have : (isAgg t).run P w = .ok false w := by
      unfold isAgg underlying
      simp only [Sem.run_bind, run_program, Result.andThen_ok, hd]
      cases d <;> simp [aggD] at ha <;> rfl
    have h0 := h 0 (by omega)
    simp only [Nat.add_zero] at h0
    simp [loadVar, this, run_load, h0]
theorem withCells_eq {g : Gh} {rl : List (Nat × Nat)} {w : World} {m : Nat} {ag : Bool} (hag : ag = false → m = 1) (cs : List AV) (f : Nat → Value) (hm : cs.length = m) (hv : ∀ j x, cs[j]? = some x → VR L g rl w x (f j)) (K : AV → Prop)
    (h : withCells ag cs K) : ∃ v, K v ∧ VR L g rl w v (if ag then .agg ((List.range m).map f).toArray else f 0) := by
  cases ag with
  | true =>
    refine ⟨_, h, .agg cs _ (by simp [hm]) fun j x y hx hy => ?_⟩
    have hj : j < m := by rw [← hm]; exact (List.getElem?_eq_some_iff.1 hx).1
    simp [hj] at hy
    subst hy
    exact hv j x hx
  | false =>
    have := hag rfl
    subst this
    match cs, hm with
    | [v], _ => simp only [withCells, force_eq] at h; exact ⟨v, h, hv 0 v rfl⟩
theorem snd_load {o : Oper} {t : TypeId} {m : Nat} {ag : Bool} {x : Operand} {ax : Arg} (ho : o.op = .load t x) (ht : TyR L t m ag) (hx : ArgR L x ax) : OpS L n o (.load m ag ax) := by
  intro σ K g a w next Q h hev k
  obtain ⟨env, nb, bx, rl⟩ := σ
  obtain ⟨⟨i, hi, hm⟩, ⟨d, hd, ha⟩, hag⟩ := ht
  have hxv := hx.val h
  have fin : ∀ blk off (f : Nat → Value), a.eval x = .pointer (some ⟨blk, off, none⟩) → (∀ j, j < m → w.cell? ⟨blk, off + j, none⟩ = some (f j)) →
      (execOp a.eval o).run L.P w = .ok (.value (if ag then .agg ((List.range m).map f).toArray else f 0)) w := by
    intro blk off f he hf
    have hl := run_loadVar_of L.P w t m ag i d hi hm hd ha hag blk off f hf
    simp [execOp, ho, he, Instr.loadAt, Instr.sureAddr, hl]
  simp only [evOp] at hev
  split at hev
  · rename_i cs hcs
    rw [hcs] at hxv
    generalize hev' : a.eval x = xv at hxv
    cases hxv with
    | elt _ blk off c hmk hc hv =>
      obtain ⟨h1, ys, h2, h3, h4⟩ := cellsK_eq _ _ _ _ hev
      have h4 := toAVsK_eq _ _ h4
      have hlen : ∀ j, j < m → j < cs.length := fun j hj => by rcases h1 with h1 | h1 <;> omega
      obtain ⟨v, hk, hv'⟩ := withCells_eq (L := L) (g := g) (rl := rl) (w := w) hag (ys.map .d) c (by simp [h2]) (fun j x hx => by
        rw [List.getElem?_map] at hx
        cases hj : ys[j]? with
        | none => rw [hj] at hx; cases hx
        | some y =>
          rw [hj] at hx; cases hx
          have hjm : j < m := by rw [← h2]; exact (List.getElem?_eq_some_iff.1 hj).1
          have := h3 j hjm
          rw [hj, Nat.zero_add] at this
          exact .d _ _ (hv j y this.symm)) _ h4
      exact wp_value (fin blk off c hev' (fun j hj => hc j (hlen j hj))) (k _ _ g _ w (Step.refl _ _ _) h hv' hk)
  · rename_i b j hcs
    rw [hcs] at hxv
    obtain ⟨blk, he, hb⟩ := hxv.ptr_inv
    split at hev
    · rename_i cs hb2
      rw [nth_eq] at hb2
      obtain ⟨_, arr, ta, hh, hsz, hcell, _⟩ := h.sh.box b _ blk hb2 hb
      obtain ⟨h1, ys, h2, h3, h4⟩ := cellsK_eq _ _ _ _ hev
      have hlen : ∀ q, q < m → j + q < arr.size := fun q hq => by rw [hsz]; rcases h1 with h1 | h1 <;> omega
      obtain ⟨v, hk, hv'⟩ := withCells_eq (L := L) (g := g) (rl := rl) (w := w) hag ys (fun q => arr.getD (j + q) undef) h2 (fun q x hx => by
        have hq : q < m := by rw [← h2]; exact (List.getElem?_eq_some_iff.1 hx).1
        have h5 := h3 q hq
        rw [hx] at h5
        refine hcell (j + q) x _ h5.symm ?_
        simp [Array.getD_eq_getD_getElem?, hlen q hq]) _ h4
      refine wp_value (fin blk j _ he fun q hq => ?_) (k _ _ g _ w (Step.refl _ _ _) h hv' hk)
      rw [cell_of_row w blk (j + q) arr ta (0, 0) hh]
      simp [Array.getD_eq_getD_getElem?, hlen q hq]
    · exact hev.elim
  · exact hev.elim
theorem snd_store {o : Oper} {t : TypeId} {i : TypeInfo} {m : Nat} {x v : Operand} {ax av : Arg} (ho : o.op = .store t x v) (hi : L.P.info? t = some i) (hm : i.size = m) (hx : ArgR L x ax) (hv : ArgR L v av) : OpS L n o (.store m ax av) := by
  intro σ K g a w next Q h hev k
  obtain ⟨env, nb, bx, rl⟩ := σ
  have hxv := hx.val h
  have hvv := hv.val h
  simp only [evOp] at hev
  split at hev
  · rename_i b j hcs
    rw [hcs] at hxv
    obtain ⟨blk, he, hb⟩ := hxv.ptr_inv
    split at hev
    · rename_i ty cs hb2
      rw [nth_eq] at hb2
      obtain ⟨hmrk, arr, ta, hh, hsz, hcell, hty⟩ := h.sh.box b _ blk hb2 hb
      have hmrk := hmrk (by simp)
      obtain ⟨vs, hk, hn, hvs, hone⟩ := cellsOf_eq hvv _ hev
      obtain ⟨hvm, hk⟩ := lenK_eq _ _ _ hk
      obtain ⟨hlen, hk⟩ := putK_eq _ _ _ _ hk
      obtain ⟨_, hk⟩ := setK_eq _ _ _ _ hk
      have hfit : j + 0 + (a.eval v).cells.toList.length ≤ arr.size ∨ vs = [] := by
        rcases hlen with hlen | hlen
        · exact .inr hlen
        · left; simp [hn, hsz]; omega
      rcases hfit with hfit | hvs0
      · have hst := run_storeCells_at L.P blk j ta (a.eval v).cells.toList 0 arr w hh hfit hone
        simp only [Nat.add_zero] at hst
        have hr : (execOp a.eval o).run L.P w = .ok .skip (w.setRow blk (arr.toList.take j ++ (a.eval v).cells.toList ++ arr.toList.drop (j + (a.eval v).cells.toList.length)).toArray) := by
          have hsz' : (a.eval v).cells.size = i.size := by rw [hn, hvm, hm]
          generalize (w.setRow blk (arr.toList.take j ++ (a.eval v).cells.toList ++ arr.toList.drop (j + (a.eval v).cells.toList.length)).toArray) = W' at hst ⊢
          simp [execOp, ho, he, Instr.storeAt, Instr.sureAddr, storeVar, sizeOf, typeInfo, hi, hsz', hst]
        have hsize : (arr.toList.take j ++ (a.eval v).cells.toList ++ arr.toList.drop (j + (a.eval v).cells.toList.length)).toArray.size = arr.size := by
          simp at hfit ⊢; omega
        have hmem : blk ∈ g.bk := List.mem_iff_getElem?.2 ⟨b, hb⟩
        have s := Step.setBox (rl := rl) hmem hmrk arr _ ta (0, 0) hh hsize
        have hsh := h.sh.setBox hb arr _ ta (0, 0) hh hsize hmrk (.var ty (cs.take j ++ vs ++ cs.drop (j + vs.length)))
          ⟨_, ta, setRow_heap w blk arr _ ta (0, 0) hh, by rw [hsize, hsz]; simp at hfit ⊢; omega, fun q x y hx hy => by
            have hlv : (a.eval v).cells.toList.length = vs.length := by simp [hn]
            rw [List.getElem?_toArray] at hy
            rw [hlv] at hy
            rw [List.append_assoc] at hx hy
            rw [List.getElem?_append] at hx hy
            simp only [List.length_take] at hx hy
            have hjl : j ≤ cs.length := by simp at hfit; omega
            have e1 : min j cs.length = j := by omega
            have e2 : min j arr.toList.length = j := by simp; omega
            rw [e1] at hx
            rw [e2] at hy
            split at hx
            · rename_i hq
              rw [if_pos hq] at hy
              rw [List.getElem?_take_of_lt hq] at hx hy
              exact (hcell q x y hx (by simpa using hy)).keep s
            · rename_i hq
              rw [if_neg hq] at hy
              rw [List.getElem?_append] at hx hy
              rw [hlv] at hy
              split at hx
              · rename_i hq2
                rw [if_pos hq2] at hy
                exact (hvs (q - j) x y hx (by simpa using hy)).keep s
              · rename_i hq2
                rw [if_neg hq2] at hy
                rw [List.getElem?_drop] at hx hy
                exact (hcell _ x y hx (by simpa using hy)).keep s, hty⟩
        exact wp_skipped hr (k _ _ g _ _ s (h.keep s hsh) (.junk _) hk)
      · subst hvs0
        have hc0 : (a.eval v).cells = #[] := Array.eq_empty_of_size_eq_zero (by simpa using hn)
        have hr : (execOp a.eval o).run L.P w = .ok .skip w := by
          have hsz' : (a.eval v).cells.size = i.size := by rw [hn, hvm, hm]
          simp [execOp, ho, he, Instr.storeAt, Instr.sureAddr, storeVar, sizeOf, typeInfo, hi, hsz']
          simp [hc0, storeCells]
        have e : bx.set b (.var ty (cs.take j ++ [] ++ cs.drop (j + ([] : List AV).length))) = bx := by
          simp only [List.append_nil, List.length_nil, Nat.add_zero, List.take_append_drop]
          apply List.ext_getElem?
          intro q
          by_cases hq : b = q
          · subst hq; rw [List.getElem?_set_self (List.getElem?_eq_some_iff.1 hb2).1, hb2]
          · rw [List.getElem?_set_ne hq]
        rw [e] at hk
        exact wp_skipped hr (k _ _ g _ _ (Step.refl _ _ _) h (.junk _) hk)
    · exact hev.elim
  · rename_i b es ix j hcs
    rw [hcs] at hxv
    obtain ⟨blk, he, hb⟩ := hxv.rptr_inv
    split at hev
    · rename_i e xs hb2
      rw [nth_eq] at hb2
      obtain ⟨hmrk, arr, ta, hh, hsz, hes, hbig, hcell⟩ := h.sh.box b _ blk hb2 hb
      have hmrk := hmrk (by simp)
      obtain ⟨vs, hk1, hn, hvs, hone⟩ := cellsOf_eq hvv _ hev
      obtain ⟨hvm, hk2⟩ := lenK_eq _ _ _ hk1
      obtain ⟨ds, hk3, hdl, hds⟩ := puresK_eq (L := L) (g := g) (rl := rl) (w := w) vs (fun j => (a.eval v).cells.getD j undef) (fun j x hx => hvs j x _ hx (by
        have hj : j < (a.eval v).cells.size := by rw [hn]; exact (List.getElem?_eq_some_iff.1 hx).1
        simp [Array.getD_eq_getD_getElem?, hj])) _ hk2
      obtain ⟨⟨rfl, hme, rfl, hix⟩, hk4⟩ := hk3
      obtain ⟨_, hk⟩ := setK_eq _ _ _ _ hk4
      have hlv : (a.eval v).cells.toList.length = e := by simp [hn, hvm, hme]
      have hmul : ix * e + e ≤ xs.length * e := by
        have := Nat.mul_le_mul_right e (Nat.succ_le_of_lt hix); rw [Nat.succ_mul] at this; exact this
      have hfit : ix * e + 0 + 0 + (a.eval v).cells.toList.length ≤ arr.size := by rw [hlv, hsz]; omega
      have hst := run_storeCells_at L.P blk (ix * e + 0) ta (a.eval v).cells.toList 0 arr w hh hfit hone
      simp only [Nat.add_zero] at hst
      simp only [Nat.add_zero] at he
      have hr : (execOp a.eval o).run L.P w = .ok .skip (w.setRow blk (arr.toList.take (ix * e) ++ (a.eval v).cells.toList ++ arr.toList.drop (ix * e + (a.eval v).cells.toList.length)).toArray) := by
        have hsz' : (a.eval v).cells.size = i.size := by rw [hn, hvm, hm]
        generalize (w.setRow blk (arr.toList.take (ix * e) ++ (a.eval v).cells.toList ++ arr.toList.drop (ix * e + (a.eval v).cells.toList.length)).toArray) = W' at hst ⊢
        simp [execOp, ho, he, Instr.storeAt, Instr.sureAddr, storeVar, sizeOf, typeInfo, hi, hsz', hst]
      have hsize : (arr.toList.take (ix * e) ++ (a.eval v).cells.toList ++ arr.toList.drop (ix * e + (a.eval v).cells.toList.length)).toArray.size = arr.size := by
        simp at hfit ⊢; omega
      have hmem : blk ∈ g.bk := List.mem_iff_getElem?.2 ⟨b, hb⟩
      have s := Step.setBox (rl := rl) hmem hmrk arr _ ta (0, 0) hh hsize
      have hsh := h.sh.setBox hb arr _ ta (0, 0) hh hsize hmrk (.row e (xs.set ix ds))
        ⟨_, ta, setRow_heap w blk arr _ ta (0, 0) hh, by rw [hsize, hsz]; simp, fun x hx => by
          obtain ⟨q, hq⟩ := List.mem_iff_getElem?.1 hx
          by_cases hqi : ix = q
          · subst hqi; rw [List.getElem?_set_self hix] at hq; cases hq; rw [hdl, hvm, hme]
          · rw [List.getElem?_set_ne hqi] at hq; exact hes x (List.mem_iff_getElem?.2 ⟨q, hq⟩), by simpa using hbig, fun p q x y u hx hy hu => by
          rw [List.getElem?_toArray, hlv, List.append_assoc, List.getElem?_append, List.getElem?_append] at hu
          simp only [List.length_take, hlv] at hu
          have e1 : min (ix * e) arr.toList.length = ix * e := by simp; omega
          rw [e1] at hu
          have hpx : p < xs.length := by have := (List.getElem?_eq_some_iff.1 hx).1; simpa using this
          have hqe : q < e := by
            by_cases hqi : ix = p
            · subst hqi; rw [List.getElem?_set_self hix] at hx; cases hx; have := (List.getElem?_eq_some_iff.1 hy).1; omega
            · rw [List.getElem?_set_ne hqi] at hx; have := (List.getElem?_eq_some_iff.1 hy).1; rw [hes x (List.mem_iff_getElem?.2 ⟨p, hx⟩)] at this; exact this
          have mul_lt : ∀ r t : Nat, r < t → r * e + e ≤ t * e := fun r t hrt => by
            have := Nat.mul_le_mul_right e (Nat.succ_le_of_lt hrt); rw [Nat.succ_mul] at this; exact this
          rcases Nat.lt_trichotomy p ix with hlt | heq | hgt
          · rw [List.getElem?_set_ne (by omega)] at hx
            have := mul_lt p ix hlt
            rw [if_pos (by omega), List.getElem?_take_of_lt (by omega)] at hu
            exact (hcell p q x y u hx hy (by simpa using hu)).keep s.mrk s.cell
          · subst heq
            rw [List.getElem?_set_self hix] at hx
            cases hx
            rw [if_neg (by omega), if_pos (by omega)] at hu
            have := hds q y hy
            have hu' : (a.eval v).cells[q]? = some u := by
              have e2 : p * e + q - p * e = q := by omega
              rw [e2] at hu; simpa using hu
            simp only [Array.getD_eq_getD_getElem?, hu', Option.getD_some] at this
            exact this.keep s.mrk s.cell
          · rw [List.getElem?_set_ne (by omega)] at hx
            have := mul_lt ix p hgt
            rw [if_neg (by omega), if_neg (by omega), List.getElem?_drop] at hu
            have e2 : ix * e + e + (p * e + q - ix * e - e) = p * e + q := by omega
            rw [e2] at hu
            exact (hcell p q x y u hx hy (by simpa using hu)).keep s.mrk s.cell⟩
      exact wp_skipped hr (k _ _ g _ _ s (h.keep s hsh) (.junk _) hk)
    · exact hev.elim
  · exact hev.elim
end
end Go.Ab
namespace Go.Ab
open Go
theorem inR_wrap (k : IntKind) (m : Int) : inR k (k.wrap m) := by
  cases k <;> simp [inR, IntKind.wrap, IntKind.bits, IntKind.signed] <;> (try split) <;> omega
theorem kindK_eq {a b : IntKind} {K : Prop} (h : kindK a b K) : a = b ∧ K := by
  cases a <;> cases b <;> first | exact ⟨rfl, h⟩ | exact h.elim
theorem inR_tmod {k : IntKind} {a b : Int} (hb : inR k b) (ha : inR k a) (h0 : b ≠ 0) : inR k (Int.tmod a b) := by
  have key : ∀ a b : Int, b ≠ 0 → (0 ≤ a → 0 ≤ a.tmod b ∧ a.tmod b ≤ a) ∧ (a ≤ 0 → a ≤ a.tmod b ∧ a.tmod b ≤ 0) := by
    intro a b h
    have pos : ∀ a : Int, 0 ≤ a → 0 ≤ a.tmod b ∧ a.tmod b ≤ a := by
      intro a h0
      refine ⟨Int.tmod_nonneg _ h0, ?_⟩
      rw [← Int.natAbs_of_nonneg (Int.tmod_nonneg b h0), ← Int.natAbs_of_nonneg h0, Int.natAbs_tmod]
      exact Int.ofNat_le.2 (by simpa using Nat.mod_le _ _)
    refine ⟨pos a, fun h0 => ?_⟩
    have := pos (-a) (by omega)
    rw [Int.neg_tmod] at this
    omega
  have := key a b h0
  cases k <;> simp only [inR] at * <;> omega
theorem toList_mk (s : List UInt8) : (ByteArray.mk s.toArray).toList = s := by rw [ByteArray.toList_eq]
section
variable {L : Lk} {n : Nat}
theorem snd_nilchk {o : Oper} {x : Operand} {ax : Arg} (ho : o.op = .nilCheck x) (hx : ArgR L x ax) : OpS L n o (.nilchk ax) := by
  intro σ K g a w next Q h hev k
  obtain ⟨env, nb, bx, rl⟩ := σ
  have hxv := hx.val h
  simp only [evOp] at hev
  split at hev
  · rename_i b j hcs
    rw [hcs] at hxv
    obtain ⟨blk, he, hb⟩ := hxv.ptr_inv
    exact wp_value (v := a.eval x) (by simp [execOp, ho, he]) (k _ _ g _ w (Step.refl g rl w) h hxv hev)
  · rename_i cs hcs
    rw [hcs] at hxv
    have : ∃ a', a.eval x = .pointer (some a') := by generalize a.eval x = v at hxv; cases hxv; exact ⟨_, rfl⟩
    obtain ⟨a', he⟩ := this
    exact wp_value (v := a.eval x) (by simp [execOp, ho, he]) (k _ _ g _ w (Step.refl g rl w) h hxv hev)
  · rename_i f c hcs
    rw [hcs] at hxv
    have : ∃ vs, a.eval x = .func (.func (L.fn f)) #[] vs := by generalize a.eval x = v at hxv; cases hxv; exact ⟨_, rfl⟩
    obtain ⟨vs, he⟩ := this
    exact wp_value (v := a.eval x) (by simp [execOp, ho, he]) (k _ _ g _ w (Step.refl g rl w) h hxv hev)
  · exact hev.elim
def BopR : BinOp → BOp → Prop
  | .add, .add | .sub, .sub | .mul, .mul | .quo, .quo | .rem, .rem | .eql, .eql | .neq, .neq | .lss, .lss | .leq, .leq | .gtr, .gtr | .geq, .geq => True
  | _, _ => False
theorem eqGuard_int (P : Program) (w : World) (op : BinOp) (t : TypeId) (x y : Operand) (k k' : IntKind) (a b : Int) : (eqGuard op t x y (.int k a) (.int k' b)).run P w = .ok () w := by
  unfold eqGuard; split <;> simp
theorem eqGuard_str (P : Program) (w : World) (op : BinOp) (t : TypeId) (x y : Operand) (a b : ByteArray) : (eqGuard op t x y (.string a) (.string b)).run P w = .ok () w := by
  unfold eqGuard; split <;> simp
theorem eqGuard_bool (P : Program) (w : World) (op : BinOp) (t : TypeId) (x y : Operand) (a b : Bool) : (eqGuard op t x y (.bool a) (.bool b)).run P w = .ok () w := by
  unfold eqGuard; split <;> simp
theorem snd_bini {o : Oper} {op : BinOp} {bop : BOp} {t t' : TypeId} {kk : IntKind} {x y : Operand} {ax ay : Arg} (ho : o.op = .binOp op t x y t') (hop : BopR op bop) (hx : ArgR L x ax) (hy : ArgR L y ay) : OpS L n o (.bini kk bop ax ay) := by
  intro σ K g a w next Q h hev k
  obtain ⟨env, nb, bx, rl⟩ := σ
  have hxv := hx.val h
  have hyv := hy.val h
  simp only [evOp] at hev
  split at hev
  · rename_i k1 p k2 q h1 h2
    rw [h1] at hxv
    rw [h2] at hyv
    obtain ⟨ex, hp⟩ := hxv.int_inv
    obtain ⟨ey, hq⟩ := hyv.int_inv
    obtain ⟨rfl, hev2⟩ := kindK_eq hev
    · have hg := eqGuard_int L.P w op t x y k1 k1 p q
      have fin : ∀ (v : Value) (d : DV), (binOp op t (.int k1 p) (.int k1 q)).run L.P w = .ok v w → DR g.mrk w d v → K (.d d) ⟨env, nb, bx, rl⟩ → o.wp L.P a w next Q := by
        intro v d hr hd hk
        exact wp_value (by simp [execOp, ho, ex, ey, hg, hr]) (k _ _ g _ w (Step.refl g rl w) h (.d _ _ hd) hk)
      cases op <;> cases bop <;> simp only [BopR] at hop <;> simp only [intop] at hev2
      · exact fin _ _ (by simp [binOp, Op.intArith]) (.int _ _ (inR_wrap _ _)) hev2
      · exact fin _ _ (by simp [binOp, Op.intArith]) (.int _ _ (inR_wrap _ _)) hev2
      · exact fin _ _ (by simp [binOp, Op.intArith]) (.int _ _ (inR_wrap _ _)) hev2
      · exact fin _ _ (by simp [binOp, Op.intDiv, hev2.1]) (.int _ _ (inR_wrap _ _)) hev2.2
      · exact fin _ _ (by simp [binOp, Op.intDiv, hev2.1]) (.int _ _ (inR_tmod hq hp hev2.1)) hev2.2
      · exact fin (.bool (p == q)) _ (by simp [binOp, Op.intCmp]) (.bool _) (by
          have : (p == q) = ieq p q := by simp [ieq, BEq.beq]
          rw [this]; exact hev2)
      · exact fin (.bool (p != q)) _ (by simp [binOp, Op.intCmp]) (.bool _) (by
          have : (p != q) = !ieq p q := by simp [ieq, bne, BEq.beq]
          rw [this]; exact hev2)
      · exact fin (.bool (p < q)) _ (by simp [binOp, Op.intCmp]) (.bool _) hev2
      · exact fin (.bool (p ≤ q)) _ (by simp [binOp, Op.intCmp]) (.bool _) hev2
      · exact fin (.bool (p > q)) _ (by simp [binOp, Op.intCmp]) (.bool _) hev2
      · exact fin (.bool (p ≥ q)) _ (by simp [binOp, Op.intCmp]) (.bool _) hev2
  · exact hev.elim
theorem snd_bins {o : Oper} {op : BinOp} {bop : BOp} {t t' : TypeId} {x y : Operand} {ax ay : Arg} (ho : o.op = .binOp op t x y t') (hop : BopR op bop) (hx : ArgR L x ax) (hy : ArgR L y ay) : OpS L n o (.bins bop ax ay) := by
  intro σ K g a w next Q h hev k
  obtain ⟨env, nb, bx, rl⟩ := σ
  have hxv := hx.val h
  have hyv := hy.val h
  simp only [evOp] at hev
  split at hev
  · rename_i p q h1 h2
    rw [h1] at hxv
    rw [h2] at hyv
    obtain ⟨ex, hp⟩ := hxv.str_inv
    obtain ⟨ey, hq⟩ := hyv.str_inv
    have hg := eqGuard_str L.P w op t x y ⟨p.toArray⟩ ⟨q.toArray⟩
    have fin : ∀ (v : Value) (d : DV), (Op.stringOp op ⟨p.toArray⟩ ⟨q.toArray⟩).run L.P w = .ok v w → DR g.mrk w d v → K (.d d) ⟨env, nb, bx, rl⟩ → o.wp L.P a w next Q := by
      intro v d hr hd hk
      have hb : binOp op t (.string ⟨p.toArray⟩) (.string ⟨q.toArray⟩) = Op.stringOp op ⟨p.toArray⟩ ⟨q.toArray⟩ := by cases op <;> rfl
      exact wp_value (by simp [execOp, ho, ex, ey, hg, hb, hr]) (k _ _ g _ w (Step.refl g rl w) h (.d _ _ hd) hk)
    cases op <;> cases bop <;> simp only [BopR] at hop <;> simp only [strop] at hev
    · refine fin (.string ⟨(p ++ q).toArray⟩) (.str (p ++ q)) ?_ (.str _ (by simpa [big] using hev.1)) hev.2
      have := run_string_add_sum (P := L.P) w ⟨p.toArray⟩ ⟨q.toArray⟩ (by
        have h1 : (ByteArray.mk p.toArray).size = p.length := by simp [ByteArray.size]
        have h2 : (ByteArray.mk q.toArray).size = q.length := by simp [ByteArray.size]
        have := hev.1
        omega)
      rw [this, ByteArray.mk_append_mk]
    all_goals exact fin _ _ (by simp only [Op.stringOp, toList_mk]; rfl) (.bool _) hev
  · exact hev.elim
theorem snd_not {o : Oper} {t : TypeId} {x : Operand} {ax : Arg} (ho : o.op = .unOp .not t x) (hx : ArgR L x ax) : OpS L n o (.not ax) := by
  intro σ K g a w next Q h hev k
  obtain ⟨env, nb, bx, rl⟩ := σ
  have hxv := hx.val h
  simp only [evOp] at hev
  split at hev
  · rename_i t ht
    rw [ht] at hxv
    have hb := hxv.bool_inv
    have run : (execOp a.eval o).run L.P w = .ok (.value (.bool (!t))) w := by simp [execOp, ho, hb, Op.unary]
    split at hev
    · rename_i i
      have hi : a.tmps.getD i undef = .bool t := by cases hx; exact hb
      cases t with
      | true => exact wp_value run (k _ _ g _ w (Step.refl g rl w) (h.know i (.d (.bool true)) (by rw [hi]; exact VR.vbool true)) (VR.vbool _) hev)
      | false => exact wp_value run (k _ _ g _ w (Step.refl g rl w) (h.know i (.d (.bool false)) (by rw [hi]; exact VR.vbool false)) (VR.vbool _) hev)
    · exact wp_value run (k _ _ g _ w (Step.refl g rl w) h (VR.vbool _) hev)
  · exact hev.elim
theorem snd_neg {o : Oper} {t : TypeId} {x : Operand} {ax : Arg} (ho : o.op = .unOp .neg t x) (hx : ArgR L x ax) : OpS L n o (.neg ax) := by
  intro σ K g a w next Q h hev k
  obtain ⟨env, nb, bx, rl⟩ := σ
  have hxv := hx.val h
  simp only [evOp] at hev
  split at hev
  · rename_i kk m ht
    rw [ht] at hxv
    obtain ⟨hb, _⟩ := hxv.int_inv
    exact wp_value (v := .int kk (kk.wrap (0 - m))) (by simp [execOp, ho, hb, Op.unary, Op.intArith]) (k _ _ g _ w (Step.refl g rl w) h (.d _ _ (.int _ _ (inR_wrap _ _))) hev)
  · exact hev.elim
theorem snd_conv {o : Oper} {s t : TypeId} {ss : TypeDesc} {kk : IntKind} {x : Operand} {ax : Arg} (ho : o.op = .convert s t x) (hs : L.P.underlying s = some ss) (ht : L.P.underlying t = some (.int kk)) (hx : ArgR L x ax) : OpS L n o (.conv kk ax) := by
  intro σ K g a w next Q h hev k
  obtain ⟨env, nb, bx, rl⟩ := σ
  have hxv := hx.val h
  simp only [evOp] at hev
  split at hev
  · rename_i k' m hm
    rw [hm] at hxv
    obtain ⟨hb, _⟩ := hxv.int_inv
    exact wp_value (v := .int kk (kk.wrap m)) (by simp [execOp, ho, hb, convert, underlying, hs, ht, Conv.intToInt]) (k _ _ g _ w (Step.refl g rl w) h (.d _ _ (.int _ _ (inR_wrap _ _))) hev)
  · exact hev.elim
theorem snd_faddr {o : Oper} {s : TypeId} {fs : Array Field} {f : Field} {fi : TypeInfo} {i : Nat} {x : Operand} {ax : Arg} (ho : o.op = .fieldAddr s x i) (hs : L.P.underlying s = some (.struct fs))
    (hf : fs[i]? = some f) (hfi : L.P.info? f.type = some fi) (hsz : fi.size ≠ 0) (hx : ArgR L x ax) : OpS L n o (.faddr f.offset ax) := by
  intro σ K g a w next Q h hev k
  obtain ⟨env, nb, bx, rl⟩ := σ
  have hxv := hx.val h
  have run : ∀ b j, a.eval x = .pointer (some ⟨b, j, none⟩) → (execOp a.eval o).run L.P w = .ok (.value (.pointer (some ⟨b, j + f.offset, none⟩))) w := by
    intro b j he
    simp [execOp, ho, he, Instr.fieldAt, underlying, hs, hf, Instr.sureAddr, fieldPlace, sizeOf, typeInfo, hfi, hsz, Addr.add_lit]
  simp only [evOp] at hev
  split at hev
  · rename_i b j hcs
    rw [hcs] at hxv
    obtain ⟨blk, he, hb⟩ := hxv.ptr_inv
    exact wp_value (run _ _ he) (k _ _ g _ w (Step.refl g rl w) h (.ptr b _ blk hb) hev)
  · rename_i cs hcs
    rw [hcs] at hxv
    generalize hev' : a.eval x = xv at hxv
    cases hxv with
    | elt _ blk off c hmk hc hv =>
      obtain ⟨hle, hev⟩ := dropK_eq _ _ _ hev
      refine wp_value (run _ _ hev') (k _ _ g _ w (Step.refl g rl w) h (.elt _ blk _ (fun j => c (f.offset + j)) (by simp; omega) (fun j hj => ?_) (fun j y hy => ?_)) hev)
      · simp at hj
        rw [Nat.add_assoc]
        exact hc _ (by omega)
      · rw [List.getElem?_drop] at hy
        exact hv _ y hy
  · exact hev.elim
theorem sl_inv {mk : Nat → Nat} {w : World} {xs : List (List DV)} {c : Value} (h : DR mk w (.sl xs) c) :
    (xs = [] ∧ ∃ a, c = .slice a 0 0) ∨ ∃ (blk off cap es : Nat) (f : Nat → Nat → Value), c = .slice (some ⟨blk, off, none⟩) xs.length cap ∧ xs.length ≤ big ∧ xs.length ≤ cap ∧ (∀ x, x ∈ xs → x.length = es) ∧
      off + xs.length * es ≤ mk blk ∧ (∀ i j, i < xs.length → j < es → w.cell? ⟨blk, off + (i * es + j), none⟩ = some (f i j)) ∧ (∀ i j x y, xs[i]? = some x → x[j]? = some y → DR mk w y (f i j)) := by
  cases h with
  | slnil => exact .inl ⟨rfl, none, rfl⟩
  | sle a => exact .inl ⟨rfl, some a, rfl⟩
  | sl _ blk off cap es f h1 h2 h3 h4 h5 h6 => exact .inr ⟨blk, off, cap, es, f, rfl, h1, h2, h3, h4, h5, h6⟩
theorem idx_lt {xs : List (List DV)} {i es : Nat} (hi : i < xs.length) : i * es + es ≤ xs.length * es := by
  have := Nat.mul_le_mul_right es (Nat.succ_le_of_lt hi); rw [Nat.succ_mul] at this; exact this
theorem elt_of_sl {g : Gh} {rl : List (Nat × Nat)} {w : World} {xs : List (List DV)} {c : Value} (h : DR g.mrk w (.sl xs) c) {i : Nat} {x : List DV} (hx : xs[i]? = some x) :
    ∃ blk off cap, c = .slice (some ⟨blk, off, none⟩) xs.length cap ∧ VR L g rl w (.elt x) (.pointer (some ⟨blk, off + i * x.length, none⟩)) := by
  have hi : i < xs.length := (List.getElem?_eq_some_iff.1 hx).1
  rcases sl_inv h with ⟨rfl, _⟩ | ⟨blk, off, cap, es, f, hc, _, _, hes, hmk, hcell, hv⟩
  · simp at hx
  · have hxl : x.length = es := hes x (List.mem_iff_getElem?.2 ⟨i, hx⟩)
    have := idx_lt (es := es) hi
    refine ⟨blk, off, cap, hc, .elt x blk _ (fun j => f i j) (by rw [hxl]; omega) (fun j hj => ?_) (fun j y hy => hv i j x y hx hy)⟩
    rw [hxl, Nat.add_assoc]
    exact hcell i j hi (by omega)
theorem elems_inv {g : Gh} {rl : List (Nat × Nat)} {w : World} {v : AV} {c : Value} (hv : VR L g rl w v c) (K : List (List DV) → Prop) (h : elemsK v K) : ∃ xs, K xs ∧ DR g.mrk w (.sl xs) c := by
  cases hv with
  | d v c hd => cases v <;> first | exact h.elim | exact ⟨_, h, hd⟩
  | rsl xs t v hd ht => exact ⟨xs, h, hd⟩
  | _ => exact h.elim
theorem snd_iaddrL {o : Oper} {t e : TypeId} {ei : TypeInfo} {x i : Operand} {ax ai : Arg} (ho : o.op = .indexAddr t x i) (ht : L.P.underlying t = some (.slice e)) (he : L.P.info? e = some ei) (hx : ArgR L x ax) (hi : ArgR L i ai) : OpS L n o (.iaddrL ei.size ax ai) := by
  intro σ K g a w next Q h hev k
  obtain ⟨env, nb, bx, rl⟩ := σ
  have hxv := hx.val h
  have hiv := hi.val h
  have run : ∀ b off len cap kk m, a.eval x = .slice (some ⟨b, off, none⟩) len cap → a.eval i = .int kk m → 0 ≤ m → m < len → (execOp a.eval o).run L.P w = .ok (.value (.pointer (some ⟨b, off + m.toNat * ei.size, none⟩))) w := by
    intro b off len cap kk m h1 h2 h3 h4
    simp [execOp, ho, h1, h2, Instr.indexAt, asIntOf, underlying, ht, h3, h4, sizeOf, typeInfo, he, Addr.add_lit]
  have data : ∀ (xs : List (List DV)) (kk : IntKind) (m : Int), DR g.mrk w (.sl xs) (a.eval x) → a.eval i = .int kk m → (IdxK xs m fun cs => (∃ y, cs = y) ∧ cs.length = ei.size ∧ K (.elt cs) ⟨env, nb, bx, rl⟩) → o.wp L.P a w next Q := by
    rintro xs kk m hd h2 ⟨y, h3, h4, _, hlen, hk⟩
    obtain ⟨blk, off, cap, hc, hv⟩ := elt_of_sl (L := L) (rl := rl) hd h4
    have hlt := (List.getElem?_eq_some_iff.1 h4).1
    rw [hlen] at hv
    exact wp_value (run _ _ _ _ kk m hc h2 h3 (by omega)) (k _ _ g _ w (Step.refl g rl w) h hv hk)
  simp only [evOp] at hev
  split at hev
  · rename_i xs kk m h1 h2
    rw [h1] at hxv
    rw [h2] at hiv
    cases hxv with | d _ _ hd =>
    obtain ⟨y, h3, h4, h5, h6⟩ := hev
    exact data xs kk m hd hiv.int_inv.1 ⟨y, h3, h4, ⟨y, rfl⟩, h5, h6⟩
  · rename_i xs tg kk m h1 h2
    rw [h1] at hxv
    rw [h2] at hiv
    generalize hev' : a.eval x = xv at hxv
    cases hxv with | rsl _ _ _ hd ht =>
    obtain ⟨y, h3, h4, h5, h6⟩ := hev
    exact data xs kk m (hev' ▸ hd) hiv.int_inv.1 ⟨y, h3, h4, ⟨y, rfl⟩, h5, h6⟩
  · rename_i b len kk m h1 h2
    rw [h1] at hxv
    rw [h2] at hiv
    generalize hev' : a.eval x = xv at hxv
    cases hxv with | bsl _ _ blk hb hbn =>
    obtain ⟨⟨h3, h4⟩, hk⟩ := hev
    have := run _ _ _ _ kk m hev' hiv.int_inv.1 h3 h4
    refine wp_value this (k _ _ g _ w (Step.refl g rl w) h ?_ hk)
    have := VR.rptr (L := L) (g := g) (rl := rl) (w := w) b ei.size m.toNat 0 blk hb
    simpa using this
  · exact hev.elim
end
end Go.Ab
namespace Go.Ab
open Go
section
variable {L : Lk} {n : Nat}
def ArgsR (L : Lk) (xs : Array Operand) (as : List Arg) : Prop :=
  xs.size = as.length ∧ ∀ (j : Nat) (x : Operand) (a : Arg), xs[j]? = some x → as[j]? = some a → ArgR L x a
theorem argsK_eq (gl : Nat → List DV) (env : Env) (as : List Arg) (K : List AV → Prop) (h : argsK gl env as K) : K (as.map (argV gl env)) := by
  induction as generalizing K with
  | nil => exact h
  | cons x r ih => simp only [argsK, force_eq] at h; exact ih _ h
theorem appK_eq {α : Type} (xs ys : List α) (K : List α → Prop) (h : appK xs ys K) : K (xs ++ ys) := by
  induction xs generalizing K with
  | nil => exact h
  | cons x r ih => exact ih _ h
theorem ArgsR.vals {xs : Array Operand} {as : List Arg} (h : ArgsR L xs as) {g : Gh} {σ : St} {a : Act} {w : World} (hs : RelSt L n g σ a w) :
    (xs.map a.eval).size = (as.map (argV L.gl σ.env)).length ∧ ∀ (j : Nat) (x : AV) (y : Value), (as.map (argV L.gl σ.env))[j]? = some x → (xs.map a.eval)[j]? = some y → VR L g σ.rl w x y := by
  refine ⟨by simp [h.1], fun j x y hx hy => ?_⟩
  rw [List.getElem?_map] at hx
  rw [Array.getElem?_map] at hy
  cases hj : as[j]? with
  | none => rw [hj] at hx; cases hx
  | some ax =>
    cases hj2 : xs[j]? with
    | none => rw [hj2] at hy; cases hy
    | some ox =>
      rw [hj] at hx; rw [hj2] at hy; cases hx; cases hy
      exact (h.2 j ox ax hj2 hj).val hs
def CallOk (L : Lk) (f : Nat) : Prop := ∀ args w, (callFunc (L.fn f) args).run L.P w = .ok (.enter (L.fn f) args) w
theorem snd_call {o : Oper} {f : Nat} {xs : Array Operand} {ts : Array TypeId} {as : List Arg} (ho : o.op = .call { callee := .value (.func (L.fn f)), args := xs, argTypes := ts })
    (hf : CallOk L f) (hx : ArgsR L xs as) : OpS L n o (.call f as) := by
  intro σ K g a w next Q h hev k
  obtain ⟨env, nb, bx, rl⟩ := σ
  obtain ⟨v, nb', bx', rl', hct, hk⟩ := argsK_eq _ _ _ _ hev
  obtain ⟨hs, hv⟩ := hx.vals h
  have hr : (execOp a.eval o).run L.P w = .ok (.enter (L.fn f) (xs.map a.eval)) w := by
    simp [execOp, ho, resolve, Deferred.ofValue, Act.eval, invoke]
    exact hf _ w
  unfold Oper.wp
  rw [hr, Oper.upon_enter]
  refine (hct g w _ h.sh hs hv).mono ?_
  rintro e w' ⟨cv, g', rfl, s, hsh, hvr⟩
  exact k _ _ g' _ w' s (h.keep s hsh) hvr hk
theorem snd_callv {o : Oper} {x : Operand} {ax : Arg} {xs : Array Operand} {ts : Array TypeId} {as : List Arg} (ho : o.op = .call { callee := .value x, args := xs, argTypes := ts })
    (hf : ∀ f, CallOk L f) (hx : ArgR L x ax) (hxs : ArgsR L xs as) : OpS L n o (.callv ax as) := by
  intro σ K g a w next Q h hev k
  obtain ⟨env, nb, bx, rl⟩ := σ
  have hxv := hx.val h
  simp only [evOp] at hev
  split at hev
  · rename_i f caps hcs
    rw [hcs] at hxv
    obtain ⟨v, nb', bx', rl', hct, hk⟩ := appK_eq _ _ _ (argsK_eq _ _ _ _ hev)
    obtain ⟨hs, hv⟩ := hxs.vals h
    generalize hev' : a.eval x = xv at hxv
    cases hxv with
    | fn _ _ vs hn hvs =>
    have hr : (execOp a.eval o).run L.P w = .ok (.enter (L.fn f) (xs.map a.eval ++ vs)) w := by
      simp [execOp, ho, resolve, hev', Deferred.ofValue, invoke, hf f (xs.map a.eval ++ vs)]
    unfold Oper.wp
    rw [hr, Oper.upon_enter]
    refine (hct g w _ h.sh (by simp [hs, hn]) (fun j x y h1 h2 => ?_)).mono ?_
    · rw [List.getElem?_append] at h1
      rw [Array.getElem?_append] at h2
      simp only [hs] at h2
      split at h1
      · rename_i hj; rw [if_pos hj] at h2; exact hv j x y h1 h2
      · rename_i hj; rw [if_neg hj] at h2; exact hvs _ x y h1 h2
    · rintro e w' ⟨cv, g', rfl, s, hsh, hvr⟩
      exact k _ _ g' _ w' s (h.keep s hsh) hvr hk
  · exact hev.elim
theorem snd_mkfn {o : Oper} {f : Nat} {cs : Array Operand} {as : List Arg} (ho : o.op = .makeFunc (.func (L.fn f)) #[] cs) (hx : ArgsR L cs as) : OpS L n o (.mkfn f as) := by
  intro σ K g a w next Q h hev k
  obtain ⟨env, nb, bx, rl⟩ := σ
  have hk := argsK_eq _ _ _ _ hev
  obtain ⟨hs, hv⟩ := hx.vals h
  exact wp_value (v := .func (.func (L.fn f)) #[] (cs.map a.eval)) (by simp [execOp, ho, Instr.makeFunc]) (k _ _ g _ w (Step.refl g rl w) h (.fn f _ _ hs hv) hk)
theorem snd_ext {o : Oper} {x : Operand} {ax : Arg} {i : Nat} (ho : o.op = .extract x i) (hx : ArgR L x ax) : OpS L n o (.ext ax i) := by
  intro σ K g a w next Q h hev k
  obtain ⟨env, nb, bx, rl⟩ := σ
  have hxv := hx.val h
  simp only [evOp] at hev
  split at hev
  · rename_i vs hcs
    rw [hcs] at hxv
    generalize hev' : a.eval x = xv at hxv
    cases hxv with
    | tup _ cs hn hvs =>
    split at hev
    · rename_i v hv
      rw [nth_eq] at hv
      rw [force_eq] at hev
      have hi : i < cs.size := by rw [hn]; exact (List.getElem?_eq_some_iff.1 hv).1
      refine wp_value (v := cs[i]) (by simp [execOp, ho, hev', Instr.extract, hi]) (k _ _ g _ w (Step.refl g rl w) h (hvs i v _ hv (Array.getElem?_eq_getElem hi)) hev)
    · exact hev.elim
  · exact hev.elim
theorem run_len {P : Program} {o : Oper} {x : Operand} {t : TypeId} {a : Act} {w : World} (ho : o.op = .call { callee := .builtin .len, args := #[x], argTypes := #[t] }) :
    (execOp a.eval o).run P w = ((Builtin.len_ #[t] o.type #[a.eval x]).run P w).andThen fun v w' => .ok (.value v) w' := by
  unfold execOp
  rw [ho]
  simp only [resolve, Sem.run_bind, Sem.run_pure, Result.andThen_ok, invoke, builtin, List.map_toArray, List.map_cons, List.map_nil]
theorem inR_len {m : Nat} (h : m ≤ big) : inR .i64 (m : Int) := by unfold big at h; simp only [inR]; omega
theorem snd_lenS {o : Oper} {x : Operand} {ax : Arg} {t : TypeId} (ho : o.op = .call { callee := .builtin .len, args := #[x], argTypes := #[t] }) (ht : L.P.underlying t = some .string) (hx : ArgR L x ax) : OpS L n o (.lenS ax) := by
  intro σ K g a w next Q h hev k
  obtain ⟨env, nb, bx, rl⟩ := σ
  have hxv := hx.val h
  simp only [evOp] at hev
  split at hev
  · rename_i s hcs
    rw [hcs] at hxv
    obtain ⟨he, hb⟩ := hxv.str_inv
    refine wp_value (v := .int .i64 s.length) ?_ (k _ _ g _ w (Step.refl g rl w) h (.d _ _ (.int _ _ (inR_len hb))) (hev hb))
    rw [run_len ho]; simp [Builtin.len_, he, underlying, ht, goInt]; simp [ByteArray.size]
  · exact hev.elim
theorem snd_lenL {o : Oper} {x : Operand} {ax : Arg} {t e : TypeId} (ho : o.op = .call { callee := .builtin .len, args := #[x], argTypes := #[t] }) (ht : L.P.underlying t = some (.slice e)) (hx : ArgR L x ax) : OpS L n o (.lenL ax) := by
  intro σ K g a w next Q h hev k
  obtain ⟨env, nb, bx, rl⟩ := σ
  have hxv := hx.val h
  have run : ∀ b m c, a.eval x = .slice b m c → (execOp a.eval o).run L.P w = .ok (.value (.int .i64 m)) w := by
    intro b m c he
    rw [run_len ho]; simp [Builtin.len_, he, underlying, ht, goInt]
  have data : ∀ (xs : List (List DV)), DR g.mrk w (.sl xs) (a.eval x) → (xs.length ≤ 140737488355328 → K (.d (.int .i64 xs.length)) ⟨env, nb, bx, rl⟩) → o.wp L.P a w next Q := by
    intro xs hd hk
    rcases sl_inv hd with ⟨rfl, a0, hc⟩ | ⟨blk, off, cap, es, f, hc, hb, _⟩
    · exact wp_value (run _ _ _ hc) (k _ _ g _ w (Step.refl g rl w) h (.d _ _ (.int _ _ (inR_len (Nat.zero_le _)))) (hk (Nat.zero_le _)))
    · exact wp_value (run _ _ _ hc) (k _ _ g _ w (Step.refl g rl w) h (.d _ _ (.int _ _ (inR_len hb))) (hk hb))
  simp only [evOp] at hev
  split at hev
  · rename_i xs hcs
    rw [hcs] at hxv
    cases hxv with | d _ _ hd => exact data xs hd hev
  · rename_i xs tg hcs
    rw [hcs] at hxv
    generalize hev' : a.eval x = xv at hxv
    cases hxv with | rsl _ _ _ hd ht => exact data xs (hev' ▸ hd) hev
  · rename_i b m hcs
    rw [hcs] at hxv
    generalize hev' : a.eval x = xv at hxv
    cases hxv with | bsl _ _ blk hb hm =>
    exact wp_value (run _ _ _ hev') (k _ _ g _ w (Step.refl g rl w) h (.d _ _ (.int _ _ (inR_len hm))) (hev hm))
  · exact hev.elim
theorem snd_idxS {o : Oper} {x i : Operand} {ax ai : Arg} {t : TypeId} (ho : o.op = .index t x i) (ht : L.P.underlying t = some .string) (hx : ArgR L x ax) (hi : ArgR L i ai) : OpS L n o (.idxS ax ai) := by
  intro σ K g a w next Q h hev k
  obtain ⟨env, nb, bx, rl⟩ := σ
  have hxv := hx.val h
  have hiv := hi.val h
  simp only [evOp] at hev
  split at hev
  · rename_i s kk m h1 h2
    rw [h1] at hxv
    rw [h2] at hiv
    obtain ⟨he, hb⟩ := hxv.str_inv
    obtain ⟨hm, _⟩ := hiv.int_inv
    obtain ⟨b, h3, h4, hk⟩ := hev
    refine wp_value (v := .int .u8 b.toNat) ?_ (k _ _ g _ w (Step.refl g rl w) h (.d _ _ (.int _ _ ?_)) hk)
    · have hlt := (List.getElem?_eq_some_iff.1 h4).1
      have hg : (ByteArray.mk s.toArray)[m.toNat]? = some b := by
        have : m.toNat < (ByteArray.mk s.toArray).size := by simpa [ByteArray.size] using hlt
        rw [getElem?_pos (ByteArray.mk s.toArray) m.toNat this]
        obtain ⟨_, h5⟩ := List.getElem?_eq_some_iff.1 h4
        exact congrArg some h5
      simp [execOp, ho, he, hm, Instr.index, asIntOf, underlying, ht, h3, hg]
    · have := b.toNat_lt
      simp only [inR]; omega
  · exact hev.elim
theorem bound_eq {L : Lk} {n : Nat} {g : Gh} {σ : St} {a : Act} {w : World} (hs : RelSt L n g σ a w) {x : Option Operand} {ax : Option Arg}
    (hx : (x = none ∧ ax = none) ∨ ∃ y ay, x = some y ∧ ax = some ay ∧ ArgR L y ay) (d : Int) (K : Int → Prop) (h : boundK (argV L.gl σ.env) ax d K) :
    ∃ m, K m ∧ ((x = none ∧ m = d) ∨ ∃ y kk, x = some y ∧ a.eval y = .int kk m) := by
  rcases hx with ⟨rfl, rfl⟩ | ⟨y, ay, rfl, rfl, hy⟩
  · exact ⟨d, h, .inl ⟨rfl, rfl⟩⟩
  · have hv := hy.val hs
    simp only [boundK] at h
    split at h
    · rename_i kk m hm
      rw [hm] at hv
      exact ⟨m, h, .inr ⟨y, kk, rfl, hv.int_inv.1⟩⟩
    · exact h.elim
def OptR (L : Lk) (x : Option Operand) (ax : Option Arg) : Prop := (x = none ∧ ax = none) ∨ ∃ y ay, x = some y ∧ ax = some ay ∧ ArgR L y ay
theorem run_bounds {P : Program} {w : World} {ev : Operand → Value} {lo hi : Option Operand} {l h : Int} {len cap : Nat} (isS : Bool)
    (hl : (lo = none ∧ l = 0) ∨ ∃ y kk, lo = some y ∧ ev y = .int kk l) (hh : (hi = none ∧ h = len) ∨ ∃ y kk, hi = some y ∧ ev y = .int kk h)
    (h0 : 0 ≤ l) (h1 : l ≤ h) (h2 : h ≤ cap) : (Instr.sliceBounds isS len cap (lo.map ev) (hi.map ev) none).run P w = .ok (l.toNat, h.toNat, cap) w := by
  have sb : ∀ (kk : IntKind) (m : Int) (y : Nat) (c : BoundsCode), 0 ≤ m → m ≤ y → (Instr.sliceBound (.int kk m) y c).run P w = .ok m.toNat w := by
    intro kk m y c h0 h1
    simp [Instr.sliceBound, asIntOf, h0, h1]
  rcases hl with ⟨rfl, rfl⟩ | ⟨y, kk, rfl, hy⟩ <;> rcases hh with ⟨rfl, rfl⟩ | ⟨z, kz, rfl, hz⟩
  · simp [Instr.sliceBounds]
  · simp [Instr.sliceBounds, hz, sb kz h cap _ (by omega) h2]
  · simp [Instr.sliceBounds, hy, sb kk l len _ h0 (by omega)]
  · simp [Instr.sliceBounds, hy, hz, sb kz h cap _ (by omega) h2, sb kk l h.toNat _ h0 (by omega)]
theorem snd_cutS {o : Oper} {x : Operand} {ax : Arg} {lo hi : Option Operand} {al ah : Option Arg} {t : TypeId} (ho : o.op = .slice t x lo hi none) (ht : L.P.underlying t = some .string)
    (hx : ArgR L x ax) (hlo : OptR L lo al) (hhi : OptR L hi ah) : OpS L n o (.cutS ax al ah) := by
  intro σ K g a w next Q h hev k
  obtain ⟨env, nb, bx, rl⟩ := σ
  have hxv := hx.val h
  simp only [evOp] at hev
  split at hev
  · rename_i s hs
    rw [hs] at hxv
    obtain ⟨he, hb⟩ := hxv.str_inv
    obtain ⟨l, hev, hl⟩ := bound_eq h hlo _ _ hev
    obtain ⟨hh, hev, hhh⟩ := bound_eq h hhi _ _ hev
    obtain ⟨⟨h0, h1, h2⟩, hk⟩ := hev
    have hsz : (ByteArray.mk s.toArray).size = s.length := by simp [ByteArray.size]
    have hrb := run_bounds (P := L.P) (w := w) (ev := a.eval) (len := s.length) (cap := s.length) false hl hhh h0 h1 h2
    refine wp_value (v := .string ⟨((s.take hh.toNat).drop l.toNat).toArray⟩) ?_ (k _ _ g _ w (Step.refl g rl w) h (.d _ _ (.str _ ?_)) hk)
    · have e : (ByteArray.mk s.toArray).extract l.toNat hh.toNat = ⟨((s.take hh.toNat).drop l.toNat).toArray⟩ := by
        apply ByteArray.ext
        simp [List.drop_take]
      simp only [execOp, ho, Instr.sliceAt, underlying, Sem.run_bind, run_program, Result.andThen_ok, ht, Sem.run_pure, he, Instr.slice, Option.map_none, hsz, hrb, e, Option.isSome_none, Bool.false_eq_true, if_false]
    · simp; omega
  · exact hev.elim
end
end Go.Ab
