import Derived.Test.YtkablfpnjfbhfaaGreatDoorX1
import Derived.Laws.BytesString
import Derived.Laws.RangeString
namespace Go.Ab
open Go
theorem DR.one {mk : Nat → Nat} {w : World} {v : DV} {c : Value} (h : DR mk w v c) : c.oneCell' = true := by cases h <;> rfl
theorem flat_of_sl {mk : Nat → Nat} {w : World} {xs : List (List DV)} {c : Value} (h : DR mk w (.sl xs) c) (es : Nat) (hes : ∀ x, x ∈ xs → x.length = es) :
    (xs = [] ∧ ∃ a, c = .slice a 0 0) ∨ ∃ (blk off cap : Nat) (F : List Value), c = .slice (some ⟨blk, off, none⟩) xs.length cap ∧ xs.length ≤ big ∧ xs.length ≤ cap ∧ off + xs.length * es ≤ mk blk ∧
      F.length = xs.length * es ∧ (∀ j u, F[j]? = some u → w.cell? ⟨blk, off + j, none⟩ = some u) ∧ (∀ u, u ∈ F → u.oneCell' = true) ∧
      ∀ i j x y, xs[i]? = some x → x[j]? = some y → ∃ u, F[i * es + j]? = some u ∧ DR mk w y u := by
  rcases sl_inv h with h | ⟨blk, off, cap, es', f, hc, hb, hcap, hes', hmk, hcell, hv⟩
  · exact .inl h
  · refine .inr ⟨blk, off, cap, (List.range (xs.length * es)).map fun q => f (q / es) (q % es), hc, hb, hcap, ?_, by simp, ?_, ?_, ?_⟩
    · cases xs with
      | nil => simpa using hmk
      | cons x r =>
        have h1 := hes x (by simp)
        have h2 := hes' x (by simp)
        rw [← h1, h2]; exact hmk
    all_goals
      have hee : xs ≠ [] → es' = es := by
        intro h0
        cases xs with
        | nil => exact absurd rfl h0
        | cons x r => rw [← hes x (by simp), ← hes' x (by simp)]
    · intro j u hj
      have hlt : j < xs.length * es := by have := (List.getElem?_eq_some_iff.1 hj).1; simpa using this
      have h0 : xs ≠ [] := by rintro rfl; simp at hlt
      have := hee h0
      subst this
      have hpos : 0 < es' := by rcases Nat.eq_zero_or_pos es' with h | h; · subst h; simp at hlt
                                · exact h
      simp [hlt] at hj
      subst hj
      have hq : j / es' < xs.length := Nat.div_lt_of_lt_mul (by rw [Nat.mul_comm]; exact hlt)
      have hr := hcell (j / es') (j % es') hq (Nat.mod_lt _ hpos)
      have e : j / es' * es' + j % es' = j := by rw [Nat.mul_comm]; exact Nat.div_add_mod _ _
      rw [e] at hr
      exact hr
    · intro u hu
      simp only [List.mem_map, List.mem_range] at hu
      obtain ⟨q, hq, rfl⟩ := hu
      have h0 : xs ≠ [] := by rintro rfl; simp at hq
      have := hee h0
      subst this
      have hpos : 0 < es' := by rcases Nat.eq_zero_or_pos es' with h | h; · subst h; simp at hq
                                · exact h
      have hi : q / es' < xs.length := Nat.div_lt_of_lt_mul (by rw [Nat.mul_comm]; exact hq)
      have hm := Nat.mod_lt q hpos
      have hx : xs[q / es']? = some xs[q / es'] := List.getElem?_eq_getElem hi
      have hl := hes' xs[q / es'] (List.getElem_mem hi)
      exact (hv (q / es') (q % es') _ _ hx (List.getElem?_eq_getElem (by rw [hl]; exact hm))).one
    · intro i j x y hx hy
      have hxm : x ∈ xs := List.mem_iff_getElem?.2 ⟨i, hx⟩
      have h0 : xs ≠ [] := List.ne_nil_of_mem hxm
      have := hee h0
      subst this
      have hi := (List.getElem?_eq_some_iff.1 hx).1
      have hj : j < es' := by have := (List.getElem?_eq_some_iff.1 hy).1; rw [hes x hxm] at this; exact this
      have := idx_lt (es := es') hi
      refine ⟨f i j, ?_, hv i j x y hx hy⟩
      have hlt : i * es' + j < xs.length * es' := by omega
      simp [hlt]
      have e1 : (i * es' + j) / es' = i := by
        rw [Nat.mul_comm, Nat.mul_add_div (by omega), Nat.div_eq_of_lt hj]; omega
      rw [e1, Nat.mod_eq_of_lt hj]
theorem sl_of_flat {mk : Nat → Nat} {w : World} {xs : List (List DV)} {blk off cap es : Nat} {F : List Value} (hb : xs.length ≤ big) (hcap : xs.length ≤ cap) (hes : ∀ x, x ∈ xs → x.length = es)
    (hmk : off + xs.length * es ≤ mk blk) (hF : F.length = xs.length * es) (hc : ∀ j u, F[j]? = some u → w.cell? ⟨blk, off + j, none⟩ = some u)
    (hv : ∀ i j x y, xs[i]? = some x → x[j]? = some y → ∃ u, F[i * es + j]? = some u ∧ DR mk w y u) : DR mk w (.sl xs) (.slice (some ⟨blk, off, none⟩) xs.length cap) := by
  refine .sl xs blk off cap es (fun i j => F.getD (i * es + j) undef) hb hcap hes hmk (fun i j hi hj => ?_) (fun i j x y hx hy => ?_)
  · have := idx_lt (es := es) hi
    have hlt : i * es + j < F.length := by rw [hF]; omega
    simp only [List.getD, List.getElem?_eq_getElem hlt, Option.getD_some]
    exact hc _ _ (List.getElem?_eq_getElem hlt)
  · obtain ⟨u, h1, h2⟩ := hv i j x y hx hy
    simp only [List.getD, h1, Option.getD_some]
    exact h2
theorem flat_append {mk mk' : Nat → Nat} {w w' : World} {xs ys : List (List DV)} {es : Nat} {F G : List Value} (hF : F.length = xs.length * es)
    (hx : ∀ i j x y, xs[i]? = some x → x[j]? = some y → ∃ u, F[i * es + j]? = some u ∧ DR mk w y u) (hy : ∀ i j x y, ys[i]? = some x → x[j]? = some y → ∃ u, G[i * es + j]? = some u ∧ DR mk w y u)
    (keep : ∀ y u, DR mk w y u → DR mk' w' y u) :
    ∀ i j x y, (xs ++ ys)[i]? = some x → x[j]? = some y → ∃ u, (F ++ G)[i * es + j]? = some u ∧ DR mk' w' y u := by
  intro i j x y h1 h2
  rw [List.getElem?_append] at h1
  split at h1
  · rename_i hi
    obtain ⟨u, h3, h4⟩ := hx i j x y h1 h2
    have := (List.getElem?_eq_some_iff.1 h3).1
    exact ⟨u, by rw [List.getElem?_append_left this]; exact h3, keep _ _ h4⟩
  · rename_i hi
    obtain ⟨u, h3, h4⟩ := hy _ j x y h1 h2
    have e : i * es = xs.length * es + (i - xs.length) * es := by rw [← Nat.add_mul]; congr 1; omega
    refine ⟨u, ?_, keep _ _ h4⟩
    rw [List.getElem?_append_right (by rw [hF]; omega), hF, show i * es + j - xs.length * es = (i - xs.length) * es + j by omega]
    exact h3
theorem run_storeCells_fr {P : Program} (g o : Nat) (t : TypeId) (fr : Nat × Nat) (hfr : fr.2 ≤ o) : ∀ (vs : List Value) (i : Nat) (cur : Array Value) (w : World), w.heap[g]? = some (.cells cur t fr) → o + i + vs.length ≤ cur.size → (∀ v ∈ vs, v.oneCell' = true) →
    (storeCells ⟨g, o, none⟩ vs i).run P w = .ok () (w.setRow g (cur.toList.take (o + i) ++ vs ++ cur.toList.drop (o + i + vs.length)).toArray)
  | [], i, cur, w, hg, _, _ => by
    simp only [storeCells, List.append_nil, List.length_nil, Nat.add_zero, List.take_append_drop, Array.toArray_toList]
    rw [setRow_self w g cur t fr hg]
    rfl
  | v :: rest, i, cur, w, hg, hl, h1 => by
    have hi : o + i < cur.size := by simp at hl; omega
    have hadd : (⟨g, o, none⟩ : Addr).add i = ⟨g, o + i, none⟩ := by unfold Addr.add; split <;> simp_all
    have hcell : w.cell? ⟨g, o + i, none⟩ = some cur[o + i] := by simp [World.cell?, hg, hi]
    have hfro : w.frozen? ⟨g, o + i, none⟩ = false := by
      simp only [World.frozen?, hg, Bool.and_eq_false_iff, decide_eq_false_iff_not]
      right; omega
    have hst : (store ((⟨g, o, none⟩ : Addr).add i) v).run P w = .ok () (w.setRow g (cur.setIfInBounds (o + i) v)) := by
      rw [hadd, run_store P w _ v _ (h1 v (by simp)), hcell]
      simp [hfro, setCell_eq_setRow w g (o + i) cur t fr v hg]
    have ih := run_storeCells_fr (P := P) g o t fr hfr rest (i + 1) (cur.setIfInBounds (o + i) v) (w.setRow g (cur.setIfInBounds (o + i) v)) (setRow_heap w g cur _ t _ hg) (by simp at hl ⊢; omega) (fun x hx => h1 x (by simp [hx]))
    simp only [storeCells, Sem.run_bind, hst, Result.andThen_ok, ih, setRow_setRow]
    congr 3
    have e := list_seg_step cur.toList (o + i) v rest (by simp at hl ⊢; omega)
    simpa [Array.toList_setIfInBounds, Nat.add_assoc] using e
structure SrcOk (P : Program) (w : World) (u : TypeId) (yv : Value) (sz m : Nat) (G : List Value) : Prop where
  ty : ∃ d, P.underlying u = some d ∧ ∀ k, d ≠ .int k
  len : ∀ w', (Builtin.lenOf yv).run P w' = .ok m w'
  here : (Builtin.firstCells sz m yv).run P w = .ok G.toArray w
  drew : (Builtin.firstCells sz m yv).run P w.drew = .ok G.toArray w.drew
theorem src_zeros {P : Program} {w : World} {d : TypeDesc} (hd : ∀ k, d ≠ .int k) : (match d with | .int _ => true | _ => false) = false := by
  cases d <;> first | rfl | exact absurd rfl (hd _)
theorem run_appG_nil (P : Program) (w : World) (t u ty e : TypeId) (i : TypeInfo) (z : Value) (ht : P.underlying t = some (.slice e)) (hi : P.info? e = some i) (hz : i.zero = some z)
    (yv : Value) (m : Nat) (G : List Value) (src : SrcOk P w u yv i.size m G) (h0 : 0 < m) (h63 : (m : Int) ≤ 9223372036854775807) (h48 : m * i.bytes ≤ 281474976710656) :
    (Builtin.append_ #[t, u] ty #[.slice none 0 0, yv]).run P w =
      .ok (.slice (some ⟨w.heap.size, 0, none⟩) m (grownCap w m 0 e)) (w.drew.alloc (.cells (G.toArray ++ Builtin.zeroCells z.cells (grownCap w m 0 e - m)) e)) := by
  obtain ⟨⟨d, hu, hd⟩, h1, h2, h3⟩ := src
  have hn : m ≠ 0 := by omega
  have h63' : ¬ (9223372036854775807 < (m : Int)) := by omega
  have h48' : ¬ (281474976710656 < Builtin.nextslicecap m 0 * i.bytes) := by rw [nextslicecap_zero h0]; omega
  have hnz := src_zeros (P := P) (w := w) hd
  simp [Builtin.append_, run_underlying ht, run_underlying hu, h1, sizeOf, typeInfo, zeroValue, hi, hz, hn, h63', h48', Question.forced, run_firstCells_none, h3, newRow, grownCap]
theorem run_appG_grow (P : Program) (w : World) (t u ty e : TypeId) (i : TypeInfo) (z : Value) (ht : P.underlying t = some (.slice e)) (hi : P.info? e = some i) (hz : i.zero = some z)
    (b : Addr) (sLen sCap : Nat) (olds : List Value) (hlo : olds.length = sLen * i.size) (holds : ∀ j v, olds[j]? = some v → w.cell? (b.add j) = some v)
    (yv : Value) (m : Nat) (G : List Value) (src : SrcOk P w u yv i.size m G)
    (hg : sCap < sLen + m) (h63 : ((sLen + m : Nat) : Int) ≤ 9223372036854775807) (hfit : Builtin.nextslicecap (sLen + m) sCap * i.bytes ≤ 281474976710656) :
    (Builtin.append_ #[t, u] ty #[.slice (some b) sLen sCap, yv]).run P w =
      .ok (.slice (some ⟨w.heap.size, 0, none⟩) (sLen + m) (grownCap w (sLen + m) sCap e))
        (w.drew.alloc (.cells (olds.toArray ++ G.toArray ++ Builtin.zeroCells z.cells (grownCap w (sLen + m) sCap e - (sLen + m))) e)) := by
  obtain ⟨⟨d, hu, hd⟩, h1, h2, h3⟩ := src
  have hn : ¬ (sLen + m ≤ sCap) := by omega
  have h63' : ¬ (9223372036854775807 < ((sLen : Int) + (m : Int))) := by omega
  have h48' : ¬ (281474976710656 < Builtin.nextslicecap (sLen + m) sCap * i.bytes) := by omega
  have hfo := run_firstCells_some (P := P) w.drew i.size sLen b sLen sCap olds hlo (by simpa using holds)
  have hnz := src_zeros (P := P) (w := w) hd
  simp [Builtin.append_, run_underlying ht, run_underlying hu, h1, sizeOf, typeInfo, zeroValue, hi, hz, hn, h63', h48', Question.forced, hfo, h3, newRow, grownCap]
  congr 2
  apply Array.ext'
  simp [List.append_assoc]
theorem run_appG_fits (P : Program) (w : World) (t u ty e : TypeId) (i : TypeInfo) (ht : P.underlying t = some (.slice e)) (hi : P.info? e = some i)
    (g sLen sCap : Nat) (cur : Array Value) (tt : TypeId) (fr : Nat × Nat) (hfr : fr.2 ≤ sLen * i.size) (hg : w.heap[g]? = some (.cells cur tt fr))
    (yv : Value) (m : Nat) (G : List Value) (src : SrcOk P w u yv i.size m G) (h1 : ∀ u ∈ G, u.oneCell' = true)
    (hroom : sLen + m ≤ sCap) (hfit : sLen * i.size + G.length ≤ cur.size) :
    (Builtin.append_ #[t, u] ty #[.slice (some ⟨g, 0, none⟩) sLen sCap, yv]).run P w =
      .ok (.slice (some ⟨g, 0, none⟩) (sLen + m) sCap) (w.setRow g (cur.toList.take (sLen * i.size) ++ G ++ cur.toList.drop (sLen * i.size + G.length)).toArray) := by
  obtain ⟨⟨d, hu, hd⟩, q1, q2, q3⟩ := src
  have hst := run_storeCells_fr (P := P) g (sLen * i.size) tt fr hfr G 0 cur w hg (by simpa using hfit) h1
  simp only [Nat.add_zero] at hst
  have hnz := src_zeros (P := P) (w := w) hd
  simp [Builtin.append_, run_underlying ht, run_underlying hu, q1, sizeOf, typeInfo, hi, hroom, q2, Addr.add_lit, hst]
theorem run_appG_nothing (P : Program) (w : World) (t u ty e : TypeId) (i : TypeInfo) (ht : P.underlying t = some (.slice e)) (hi : P.info? e = some i) (b : Option Addr) (sLen sCap : Nat) (hcap : sLen ≤ sCap)
    (yv : Value) (src : SrcOk P w u yv i.size 0 []) : (Builtin.append_ #[t, u] ty #[.slice b sLen sCap, yv]).run P w = .ok (.slice b sLen sCap) w := by
  obtain ⟨⟨d, hu, hd⟩, q1, q2, q3⟩ := src
  have hnz := src_zeros (P := P) (w := w) hd
  cases b <;> simp [Builtin.append_, run_underlying ht, run_underlying hu, q1, sizeOf, typeInfo, hi, hcap, q2, storeCells]
def Gh.row (g : Gh) (b n : Nat) (rw' : List (Option Nat)) : Gh := { bk := g.bk, mrk := fun x => if x = b then n else g.mrk x, rw := rw' }
theorem Step.row' {g : Gh} {rl rl' : List (Nat × Nat)} {w : World} (o : Obj) (n : Nat) (rw' : List (Option Nat)) (hf : ∀ b, w.heap.size ≤ b → g.mrk b = 0)
    (hrow : ∀ (k n e : Nat), rl[k]? = some (n, e) → ∃ n', rl'[k]? = some (n', e) ∧ n ≤ n' ∧ (n' = n → rw'[k]? = g.rw[k]?)) (hnew : ∀ b, some b ∈ rw' → some b ∈ g.rw ∨ w.heap.size ≤ b) :
    Step g rl w (g.row w.heap.size n rw') rl' (w.drew.alloc o) where
  os := rfl
  tape := rfl
  output := rfl
  size := by simp
  mrk b := by
    simp only [Gh.row]; split
    · rename_i h; rw [hf b (by omega)]; exact Nat.zero_le _
    · exact Nat.le_refl _
  cell b o' ho := by
    by_cases hb : b < w.heap.size
    · exact cell_lt (w := w.drew) o hb
    · rw [hf b (by omega)] at ho; omega
  bk i b h := h
  row := hrow
  shape b h := shape_alloc (w := w.drew) o h
  newbk b h := .inl h
  newrw := hnew
  frame b h _ _ := heap_alloc_old w.drew o b h
  mold b h _ _ := by simp only [Gh.row]; rw [if_neg (by omega)]
theorem RelSh.row' {L : Lk} {g : Gh} {nb : Nat} {bx : List Bx} {rl rl' : List (Nat × Nat)} {w : World} (h : RelSh L g nb bx rl w) {arr : Array Value} {t : TypeId} {n e k : Nat} {rw' : List (Option Nat)}
    (s : Step g rl w (g.row w.heap.size (n * esz e) rw') rl' (w.drew.alloc (.cells arr t))) (hlen : rw'.length = rl'.length) (he : 0 < esz e) (hn0 : 0 < n) (hty : e = 1000 → t = L.u8) (hn : n * esz e ≤ arr.size)
    (hk : rl'[k]? = some (n, e) ∧ rw'[k]? = some (some w.heap.size)) (hother : ∀ j, j ≠ k → rl'[j]? = rl[j]? ∧ rw'[j]? = g.rw[j]?) : RelSh L (g.row w.heap.size (n * esz e) rw') nb bx rl' (w.drew.alloc (.cells arr t)) := by
  have hold : ∀ b, b < w.heap.size → (w.drew.alloc (.cells arr t)).heap[b]? = w.heap[b]? := fun b hb => heap_alloc_old w.drew _ b hb
  have hlt : ∀ (j b : Nat), g.rw[j]? = some (some b) → b < w.heap.size := fun j b hj => (h.rw_lt (List.mem_iff_getElem?.2 ⟨j, hj⟩)).1
  refine ⟨h.nb, h.bkl, ?_, h.inj, hlen, ?_, ?_, ?_, fun i => (h.glob i).keep s⟩
  · intro i x blk hx hb
    obtain ⟨h1, h2⟩ := h.box i x blk hx hb
    have hl := h.bk_lt (List.mem_iff_getElem?.2 ⟨i, hb⟩)
    refine ⟨fun hd => ?_, h2.keep s (hold blk hl)⟩
    simp only [Gh.row]; rw [if_neg (by omega)]; exact h1 hd
  · intro j m f hj
    by_cases hjk : j = k
    · subst hjk
      rw [hk.1] at hj; cases hj
      refine ⟨he, .inr ⟨w.heap.size, arr, t, (0, 0), hk.2, heap_alloc_new w.drew _, by simp [Gh.row], hn, fun hm => ?_, Nat.zero_le _, hn0, hty⟩⟩
      have := h.bk_lt hm; omega
    · obtain ⟨o1, o2⟩ := hother j hjk
      rw [o1] at hj
      obtain ⟨h0, h1⟩ := h.row j m f hj
      refine ⟨h0, ?_⟩
      show (rw'[j]? = some none ∧ m = 0) ∨ _
      rcases h1 with h1 | ⟨blk, ar, tt, fr, h1, h2, h3, h4, h5, h6⟩
      · exact .inl ⟨by rw [o2]; exact h1.1, h1.2⟩
      · refine .inr ⟨blk, ar, tt, fr, by show rw'[j]? = _; rw [o2]; exact h1, by rw [hold blk (lt_of_heap h2)]; exact h2, ?_, h4, h5, h6⟩
        have := lt_of_heap h2
        simp only [Gh.row]; rw [if_neg (by omega)]; exact h3
  · intro i j b hi hj
    have hi : rw'[i]? = some (some b) := hi
    have hj : rw'[j]? = some (some b) := hj
    by_cases h1 : i = k <;> by_cases h2 : j = k
    · omega
    · subst h1
      rw [hk.2] at hi; cases hi
      rw [(hother j h2).2] at hj
      have := hlt j _ hj; omega
    · subst h2
      rw [hk.2] at hj; cases hj
      rw [(hother i h1).2] at hi
      have := hlt i _ hi; omega
    · rw [(hother i h1).2] at hi
      rw [(hother j h2).2] at hj
      exact h.rinj i j b hi hj
  · intro b hb
    simp at hb
    simp only [Gh.row]; rw [if_neg (by omega)]; exact h.fresh b (by omega)
theorem Step.rowNil {g : Gh} {rl : List (Nat × Nat)} {w : World} (e : Nat) (hl : g.rw.length = rl.length) : Step g rl w { g with rw := g.rw ++ [none] } (rl ++ [(0, e)]) w where
  os := rfl
  tape := rfl
  output := rfl
  size := Nat.le_refl _
  mrk b := Nat.le_refl _
  cell b o h := rfl
  bk i b h := h
  row k n e' h := by
    have hk := (List.getElem?_eq_some_iff.1 h).1
    refine ⟨n, by rw [List.getElem?_append_left hk]; exact h, Nat.le_refl _, fun _ => ?_⟩
    show (g.rw ++ [none])[k]? = _
    rw [List.getElem?_append_left (by omega)]
  shape b h := rfl
  newbk b h := .inl h
  newrw b h := by
    have h : some b ∈ g.rw ++ [none] := h
    simp at h; exact .inl h
  frame b _ _ _ := rfl
  mold _ _ _ _ := rfl
theorem RelSh.rowNil {L : Lk} {g : Gh} {nb : Nat} {bx : List Bx} {rl : List (Nat × Nat)} {w : World} (h : RelSh L g nb bx rl w) (e : Nat) (he : 0 < esz e) : RelSh L { g with rw := g.rw ++ [none] } nb bx (rl ++ [(0, e)]) w := by
  have s := Step.rowNil (w := w) e h.rwl
  have old : ∀ (j b : Nat), (g.rw ++ [none])[j]? = some (some b) → g.rw[j]? = some (some b) := by
    intro j b hj
    rw [List.getElem?_append] at hj
    split at hj
    · exact hj
    · have := (List.getElem?_eq_some_iff.1 hj).1
      simp at this
      simp [this] at hj
  refine ⟨h.nb, h.bkl, fun i x blk hx hb => ⟨(h.box i x blk hx hb).1, (h.box i x blk hx hb).2.keep s rfl⟩, h.inj, by simp [h.rwl], ?_, fun i j b hi hj => h.rinj i j b (old _ _ hi) (old _ _ hj), h.fresh, fun i => (h.glob i).keep s⟩
  intro k n e' hk
  show 0 < esz e' ∧ (((g.rw ++ [none])[k]? = some none ∧ n = 0) ∨ ∃ blk arr t fr, (g.rw ++ [none])[k]? = some (some blk) ∧ _)
  rw [List.getElem?_append] at hk
  split at hk
  · rename_i hlt
    rw [List.getElem?_append_left (by rw [h.rwl]; exact hlt)]
    exact h.row k n e' hk
  · have := (List.getElem?_eq_some_iff.1 hk).1
    simp at this
    have hk0 : k = rl.length := by omega
    subst hk0
    simp at hk
    obtain ⟨rfl, rfl⟩ := hk
    exact ⟨he, .inl ⟨by rw [← h.rwl]; simp, rfl⟩⟩
theorem Step.rowIn {g : Gh} {rl rl' : List (Nat × Nat)} {w : World} {b n : Nat} (hb : some b ∈ g.rw) (old cs : Array Value) (t : TypeId) (fr : Nat × Nat) (hg : w.heap[b]? = some (.cells old t fr)) (hs : cs.size = old.size)
    (hm : g.mrk b ≤ n) (hsame : ∀ o, o < g.mrk b → cs[o]? = old[o]?) (hrow : ∀ (k n e : Nat), rl[k]? = some (n, e) → ∃ n', rl'[k]? = some (n', e) ∧ n ≤ n') :
    Step g rl w (g.row b n g.rw) rl' (w.setRow b cs) where
  os := rfl
  tape := rfl
  output := rfl
  size := by simp
  mrk x := by
    simp only [Gh.row]
    split
    · rename_i h; subst h; exact hm
    · exact Nat.le_refl _
  cell b' o ho := by
    by_cases h : b' = b
    · subst h
      rw [cell_setRow_same w b' o old cs t fr hg, cell_of_row w b' o old t fr hg, hsame o ho]
    · exact World.cell?_of_block (a := ⟨b', o, none⟩) (setRow_other w b b' cs h)
  bk i b h := h
  row k n e h := by
    obtain ⟨n', h1, h2⟩ := hrow k n e h
    exact ⟨n', h1, h2, fun _ => rfl⟩
  shape b' h' := by
    by_cases h : b' = b
    · subst h; simp only [World.shape?, setRow_heap w b' old cs t fr hg, hg, hs]
    · simp only [World.shape?, setRow_other w b b' cs h]
  newbk b h := .inl h
  newrw b h := .inl h
  frame b' _ _ h1 := setRow_other w b b' cs (fun h => h1 (h ▸ hb))
  mold b' _ _ h1 := by
    simp only [Gh.row]
    rw [if_neg (fun h : b' = b => h1 (h ▸ hb))]
theorem RelSh.rowIn {L : Lk} {g : Gh} {nb : Nat} {bx : List Bx} {rl rl' : List (Nat × Nat)} {w : World} (h : RelSh L g nb bx rl w) {b n e k : Nat} {old cs : Array Value} {t : TypeId} {fr : Nat × Nat} (hg : w.heap[b]? = some (.cells old t fr)) (hfr : fr.2 ≤ n * esz e)
    (s : Step g rl w (g.row b (n * esz e) g.rw) rl' (w.setRow b cs)) (hlen : rl'.length = rl.length) (he : 0 < esz e) (hn0 : 0 < n) (hty : e = 1000 → t = L.u8) (hn : n * esz e ≤ cs.size)
    (hk : rl'[k]? = some (n, e) ∧ g.rw[k]? = some (some b)) (hother : ∀ j, j ≠ k → rl'[j]? = rl[j]?) : RelSh L (g.row b (n * esz e) g.rw) nb bx rl' (w.setRow b cs) := by
  have hbb := h.rw_lt (List.mem_iff_getElem?.2 ⟨k, hk.2⟩)
  refine ⟨h.nb, h.bkl, ?_, h.inj, by rw [hlen]; exact h.rwl, ?_, h.rinj, ?_, fun i => (h.glob i).keep s⟩
  · intro i x blk hx hb
    obtain ⟨h1, h2⟩ := h.box i x blk hx hb
    have hmem : blk ∈ g.bk := List.mem_iff_getElem?.2 ⟨i, hb⟩
    have hne : blk ≠ b := fun e => hbb.2 (e ▸ hmem)
    refine ⟨fun hd => ?_, h2.keep s (setRow_other w b blk cs hne)⟩
    simp only [Gh.row]; rw [if_neg hne]; exact h1 hd
  · intro j m f hj
    by_cases hjk : j = k
    · subst hjk
      rw [hk.1] at hj; cases hj
      exact ⟨he, .inr ⟨b, cs, t, fr, hk.2, setRow_heap w b old cs t fr hg, by simp [Gh.row], hn, hbb.2, hfr, hn0, hty⟩⟩
    · rw [hother j hjk] at hj
      obtain ⟨h0, h1⟩ := h.row j m f hj
      refine ⟨h0, ?_⟩
      rcases h1 with h1 | ⟨blk, ar, tt, fr, h1, h2, h3, h4, h5, h6⟩
      · exact .inl h1
      · have hne : blk ≠ b := fun e => hjk (h.rinj j k b (e ▸ h1) hk.2)
        refine .inr ⟨blk, ar, tt, fr, h1, by rw [setRow_other w b blk cs hne]; exact h2, ?_, h4, h5, h6⟩
        simp only [Gh.row]; rw [if_neg hne]; exact h3
  · intro x hx
    simp at hx
    simp only [Gh.row]; rw [if_neg (by omega)]; exact h.fresh x hx
section
variable {L : Lk} {n : Nat}
theorem run_app {P : Program} {o : Oper} {x y : Operand} {t u : TypeId} {a : Act} {w : World} (ho : o.op = .call { callee := .builtin .append, args := #[x, y], argTypes := #[t, u] }) :
    (execOp a.eval o).run P w = ((Builtin.append_ #[t, u] o.type #[a.eval x, a.eval y]).run P w).andThen fun v w' => .ok (.value v) w' := by
  unfold execOp
  rw [ho]
  simp only [resolve, Sem.run_bind, Sem.run_pure, Result.andThen_ok, invoke, builtin, List.map_toArray, List.map_cons, List.map_nil]
theorem rlen_eq {α : Type} (l : List α) : rlen l = l.length := by induction l with | nil => rfl | cons x r ih => simp [rlen, ih]
theorem grown_sl {g : Gh} {w : World} {xs ys : List (List DV)} {es e cap0 : Nat} {z : Value} {F G : List Value} (hz : z.cells.size = es)
    (hx : ∀ x, x ∈ xs → x.length = es) (hy : ∀ x, x ∈ ys → x.length = es) (hF : F.length = xs.length * es) (hG : G.length = ys.length * es)
    (hxF : ∀ i j x y, xs[i]? = some x → x[j]? = some y → ∃ u, F[i * es + j]? = some u ∧ DR g.mrk w y u) (hyG : ∀ i j x y, ys[i]? = some x → x[j]? = some y → ∃ u, G[i * es + j]? = some u ∧ DR g.mrk w y u)
    (hbig : xs.length + ys.length ≤ big) (hfr : ∀ b, w.heap.size ≤ b → g.mrk b = 0) (rw' : List (Option Nat)) (cap : Nat) (hcap : cap = grownCap w (xs.length + ys.length) cap0 e) :
    let arr := F.toArray ++ G.toArray ++ Builtin.zeroCells z.cells (cap - (xs.length + ys.length))
    arr.size = cap * es ∧ xs.length + ys.length ≤ cap ∧
    DR (g.row w.heap.size ((xs.length + ys.length) * es) rw').mrk (w.drew.alloc (.cells arr e)) (.sl (xs ++ ys)) (.slice (some ⟨w.heap.size, 0, none⟩) (xs.length + ys.length) cap) := by
  intro arr
  have hge : xs.length + ys.length ≤ cap := hcap ▸ grownCap_ge w _ _ _
  have hsize : arr.size = cap * es := by
    simp only [arr, Array.size_append, List.size_toArray, hF, hG, size_zeroCells, hz]
    rw [← Nat.add_mul, ← Nat.add_mul]; congr 1; omega
  refine ⟨hsize, hge, ?_⟩
  have hl : (xs ++ ys).length = xs.length + ys.length := by simp
  have := sl_of_flat (mk := (g.row w.heap.size ((xs.length + ys.length) * es) rw').mrk) (w := w.drew.alloc (.cells arr e)) (xs := xs ++ ys) (blk := w.heap.size) (off := 0) (cap := cap) (es := es) (F := F ++ G)
    (by omega) (by omega) (fun x hx' => (List.mem_append.1 hx').elim (hx x) (hy x))
    (by simp [Gh.row]) (by simp [hF, hG, Nat.add_mul]) (fun j u hj => by
      rw [cell_of_row _ w.heap.size _ arr e (0, 0) (heap_alloc_new w.drew _)]
      have hlt := (List.getElem?_eq_some_iff.1 hj).1
      simp only [arr, Nat.zero_add]
      rw [Array.getElem?_append_left (by simpa using hlt)]
      have : (F.toArray ++ G.toArray) = (F ++ G).toArray := by simp
      rw [this]; simpa using hj)
    (flat_append hF hxF hyG fun y u hd => hd.keep (fun b => by
      simp only [Gh.row]; split
      · rename_i h; rw [hfr b (by omega)]; exact Nat.zero_le _
      · exact Nat.le_refl _) (fun b o ho => by
      by_cases hb : b < w.heap.size
      · exact cell_lt (w := w.drew) _ hb
      · rw [hfr b (by omega)] at ho; omega))
  rw [hl] at this
  exact this
theorem app_core {o : Oper} {x y : Operand} {ax : Arg} {t u e : TypeId} {i : TypeInfo} {z : Value} (ho : o.op = .call { callee := .builtin .append, args := #[x, y], argTypes := #[t, u] })
    (ht : L.P.underlying t = some (.slice e)) (hi : L.P.info? e = some i) (hz : i.zero = some z) (hzs : z.cells.size = i.size) (hpos : 0 < i.size) (hb1 : 0 < i.bytes) (hx : ArgR L x ax) {key : Nat} (hkey : esz key = i.size) (hk8 : key = 1000 → e = L.u8)
    {env : Env} {nb : Nat} {bx : List Bx} {rl : List (Nat × Nat)} {K : AV → St → Prop} {g : Gh} {a : Act} {w : World} {next : Act → World → Prop} {Q : Exit → Act → World → Prop} (h : RelSt L n g ⟨env, nb, bx, rl⟩ a w)
    (ys : List (List DV)) (G : List Value) (hG : G.length = ys.length * i.size) (hG1 : ∀ u ∈ G, u.oneCell' = true) (hyG : ∀ p j x y, ys[p]? = some x → x[j]? = some y → ∃ u, G[p * i.size + j]? = some u ∧ DR g.mrk w y u)
    (src : SrcOk L.P w u (a.eval y) i.size ys.length G) (hev : appRow i.size i.bytes key (argV L.gl env ax) ys rl fun v rl => K v ⟨env, nb, bx, rl⟩)
    (k : ∀ (av : AV) (σ' : St) (g' : Gh) (v' : Value) (w' : World), Step g rl w g' σ'.rl w' → RelSt L n g' σ' a w' → VR L g' σ'.rl w' av v' → K av σ' → next (a.put o.dst v') w') : o.wp L.P a w next Q := by
  have hxv := hx.val h
  unfold appRow at hev
  split at hev
  rotate_left
  · exact hev.elim
  rename_i xs tg hcs
  rw [hcs] at hxv
  generalize hex : a.eval x = xv at hxv
  cases hxv with
  | rsl _ _ _ hxd htag =>
  obtain ⟨⟨hbytes, hyes⟩, hev⟩ := hev
  have hbig : xs.length + ys.length ≤ big := by
    have := Nat.le_mul_of_pos_right (xs.length + ys.length) hb1
    unfold big; omega
  have h63 : ((xs.length + ys.length : Nat) : Int) ≤ 9223372036854775807 := by unfold big at hbig; omega
  have grow : 0 < ys.length → ∀ (cap0 : Nat) (F : List Value) (rl' : List (Nat × Nat)) (rw' : List (Option Nat)) (kk : Nat) (v' : Value) (W : World) (G : List Value),
      (∀ x, x ∈ xs → x.length = i.size) → F.length = xs.length * i.size → G.length = ys.length * i.size →
      (∀ p j x y, xs[p]? = some x → x[j]? = some y → ∃ u, F[p * i.size + j]? = some u ∧ DR g.mrk w y u) →
      (∀ p j x y, ys[p]? = some x → x[j]? = some y → ∃ u, G[p * i.size + j]? = some u ∧ DR g.mrk w y u) →
      v' = .slice (some ⟨w.heap.size, 0, none⟩) (xs.length + ys.length) (grownCap w (xs.length + ys.length) cap0 e) →
      W = w.drew.alloc (.cells (F.toArray ++ G.toArray ++ Builtin.zeroCells z.cells (grownCap w (xs.length + ys.length) cap0 e - (xs.length + ys.length))) e) →
      (execOp a.eval o).run L.P w = .ok (.value v') W →
      (∀ (k n e : Nat), rl[k]? = some (n, e) → ∃ n', rl'[k]? = some (n', e) ∧ n ≤ n' ∧ (n' = n → rw'[k]? = g.rw[k]?)) → (∀ b, some b ∈ rw' → some b ∈ g.rw ∨ w.heap.size ≤ b) →
      rw'.length = rl'.length → (rl'[kk]? = some (xs.length + ys.length, key) ∧ rw'[kk]? = some (some w.heap.size)) → (∀ j, j ≠ kk → rl'[j]? = rl[j]? ∧ rw'[j]? = g.rw[j]?) →
      K (.rsl (xs ++ ys) (.row kk)) ⟨env, nb, bx, rl'⟩ → o.wp L.P a w next Q := by
    intro hyl cap0 F rl' rw' kk v' W G hxes hF hG hxF hyG hv' hW hrun hrow hnew hlen hk1 hoth hk
    obtain ⟨h1, h2, h3⟩ := grown_sl (g := g) (w := w) (e := e) (cap0 := cap0) hzs hxes hyes hF hG hxF hyG hbig h.sh.fresh rw' _ rfl
    subst hv'
    subst hW
    have s := Step.row' (g := g) (rl := rl) (rl' := rl') (w := w) (.cells (F.toArray ++ G.toArray ++ Builtin.zeroCells z.cells (grownCap w (xs.length + ys.length) cap0 e - (xs.length + ys.length))) e)
      ((xs.length + ys.length) * i.size) rw' h.sh.fresh hrow hnew
    have hsh := h.sh.row' (e := key) (by rw [hkey]; exact s) hlen (by omega) (by omega) hk8 (by rw [h1, hkey]; exact Nat.mul_le_mul_right _ h2) hk1 hoth
    rw [hkey] at hsh
    refine wp_value hrun (k _ _ _ _ _ s (h.keep s hsh) (.rsl _ _ _ h3 ?_) hk)
    refine ⟨xs.length + ys.length, key, hk1.1, fun x hx => by rw [hkey]; exact (List.mem_append.1 hx).elim (hxes x) (hyes x), by simp, fun _ => .inr ⟨w.heap.size, grownCap w (xs.length + ys.length) cap0 e, e, by simp, hk1.2, ?_⟩⟩
    have hh : (w.drew.alloc (.cells (F.toArray ++ G.toArray ++ Builtin.zeroCells z.cells (grownCap w (xs.length + ys.length) cap0 e - (xs.length + ys.length))) e)).heap[w.heap.size]? = some (.cells (F.toArray ++ G.toArray ++ Builtin.zeroCells z.cells (grownCap w (xs.length + ys.length) cap0 e - (xs.length + ys.length))) e) := heap_alloc_new w.drew _
    simp only [World.shape?, hh, h1, hkey]
  have newrow : rl.length = g.rw.length := h.sh.rwl.symm
  have rowgrow : ∀ (m : Nat), (∀ (k n e : Nat), rl[k]? = some (n, e) → ∃ n', (rl ++ [(m, key)])[k]? = some (n', e) ∧ n ≤ n' ∧ (n' = n → (g.rw ++ [some w.heap.size])[k]? = g.rw[k]?)) := by
    intro m k' n' e' hk'
    have hlt := (List.getElem?_eq_some_iff.1 hk').1
    exact ⟨n', by rw [List.getElem?_append_left hlt]; exact hk', Nat.le_refl _, fun _ => by rw [List.getElem?_append_left (by omega)]⟩
  have rownew : ∀ b, some b ∈ g.rw ++ [some w.heap.size] → some b ∈ g.rw ∨ w.heap.size ≤ b := by
    intro b hb; simp at hb; rcases hb with hb | hb
    · exact .inl hb
    · exact .inr (by omega)
  have rowat : ∀ m, (rl ++ [(m, key)])[rl.length]? = some (m, key) ∧ (g.rw ++ [some w.heap.size])[rl.length]? = some (some w.heap.size) := by
    intro m; exact ⟨by simp, by rw [newrow]; simp⟩
  have rowoth : ∀ m j, j ≠ rl.length → (rl ++ [(m, key)])[j]? = rl[j]? ∧ (g.rw ++ [some w.heap.size])[j]? = g.rw[j]? := by
    intro m j hj
    rcases Nat.lt_or_ge j rl.length with hl | hl
    · exact ⟨by rw [List.getElem?_append_left hl], by rw [List.getElem?_append_left (by omega)]⟩
    · exact ⟨by rw [List.getElem?_eq_none (by simp; omega), List.getElem?_eq_none hl], by rw [List.getElem?_eq_none (by simp; omega), List.getElem?_eq_none (by omega)]⟩
  have hn0 : ys.length * i.bytes ≤ 281474976710656 := by
    have : ys.length * i.bytes ≤ (xs.length + ys.length) * i.bytes := Nat.mul_le_mul_right _ (by omega)
    omega
  cases tg with
  | nil =>
    dsimp only at hev
    replace hev := snocK_eq _ _ _ hev
    rw [rlen_eq] at hev
    have hxn : xv = .slice none 0 0 := htag
    have hx0 : xs = [] := by
      rcases sl_inv hxd with ⟨h1, _⟩ | ⟨blk, off, cap, es, f, hc, _⟩
      · exact h1
      · rw [hxn] at hc; cases hc
    subst hx0
    by_cases hy0 : ys = []
    · subst hy0
      have hG0 : G = [] := List.length_eq_zero_iff.1 (by simpa using hG)
      subst hG0
      have hr : (execOp a.eval o).run L.P w = .ok (.value (.slice none 0 0)) w := by
        rw [run_app ho, hex, hxn, run_appG_nothing L.P w t u o.type e i ht hi none 0 0 (Nat.le_refl _) _ src]; rfl
      refine wp_value hr (k _ _ _ _ _ (Step.rowNil key h.sh.rwl) (h.keep (Step.rowNil key h.sh.rwl) (h.sh.rowNil key (by omega))) (.rsl [] _ _ .slnil ?_) hev)
      exact ⟨0, key, by simp, fun x hx => (by cases hx), Nat.zero_le _, fun _ => .inl ⟨rfl, by rw [newrow]; simp⟩⟩
    · have hyl : 0 < ys.length := List.length_pos_iff.2 hy0
      have hr := run_appG_nil L.P w t u o.type e i z ht hi hz _ ys.length G src hyl (by simpa using h63) hn0
      refine grow hyl 0 [] (rl ++ [(ys.length, key)]) (g.rw ++ [some w.heap.size]) rl.length _ _ G (fun x hx => by cases hx) (by simp) hG (fun p j x y hp => by simp at hp) hyG rfl rfl ?_ (rowgrow _) rownew (by simp [newrow]) ?_ (rowoth _) (by simpa using hev)
      · rw [run_app ho, hex, hxn, hr]; simp
      · simpa using rowat ys.length
  | full =>
    cases ys with
    | nil =>
      have hG0 : G = [] := List.length_eq_zero_iff.1 (by simpa using hG)
      subst hG0
      have hr : (execOp a.eval o).run L.P w = .ok (.value xv) w := by
        rcases sl_inv hxd with ⟨_, a0, hc⟩ | ⟨blk, off, cap, es, f, hc, _, hcap, _⟩
        · rw [run_app ho, hex, hc, run_appG_nothing L.P w t u o.type e i ht hi a0 0 0 (Nat.le_refl _) _ src]; rfl
        · rw [run_app ho, hex, hc, run_appG_nothing L.P w t u o.type e i ht hi (some _) _ cap hcap _ src]; rfl
      exact wp_value hr (k _ _ g _ w (Step.refl g rl w) h (.rsl xs .full xv hxd htag) hev)
    | cons y0 yr =>
      dsimp only at hev
      obtain ⟨hxes, hev0⟩ := hev
      have hev := snocK_eq _ _ _ hev0
      clear hev0
      rw [rlen_eq] at hev
      have hyl : 0 < (y0 :: yr).length := by simp
      generalize hys : y0 :: yr = ys at *
      rcases flat_of_sl hxd i.size hxes with ⟨hx0, a0, hxc⟩ | ⟨xb, xo, xcap, F, hxc, hxb, hxcap, hxmk, hF, hFc, hF1, hxF⟩
      · subst hx0
        have hr : (Builtin.append_ #[t, u] o.type #[.slice a0 0 0, a.eval y]).run L.P w = .ok (.slice (some ⟨w.heap.size, 0, none⟩) ys.length (grownCap w ys.length 0 e)) (w.drew.alloc (.cells (G.toArray ++ Builtin.zeroCells z.cells (grownCap w ys.length 0 e - ys.length)) e)) := by
          cases a0 with
          | none => exact run_appG_nil L.P w t u o.type e i z ht hi hz _ ys.length G src hyl (by simpa using h63) hn0
          | some b =>
            have := run_appG_grow L.P w t u o.type e i z ht hi hz b 0 0 [] (by simp) (fun j v hj => by simp at hj) _ ys.length G src (by omega) (by simpa using h63) (by rw [Nat.zero_add, nextslicecap_zero hyl]; exact hn0)
            rw [this]; simp
        refine grow hyl 0 [] (rl ++ [(ys.length, key)]) (g.rw ++ [some w.heap.size]) rl.length _ _ G (fun x hx => by cases hx) (by simp) hG (fun p j x y hp => by simp at hp) hyG rfl rfl ?_ (rowgrow _) rownew (by simp [newrow]) ?_ (rowoth _) (by simpa using hev)
        · rw [run_app ho, hex, hxc, hr]; simp
        · simpa using rowat ys.length
      · have hcapn : xcap = xs.length := by
          rcases htag with ht | ⟨a', ht⟩
          · rw [hxc] at ht; cases ht
          · rw [hxc] at ht; cases ht; rfl
        have hr := run_appG_grow L.P w t u o.type e i z ht hi hz ⟨xb, xo, none⟩ xs.length xcap F hF (fun j u hj => by rw [Addr.add_lit]; exact hFc j u hj) _ ys.length G src
          (by omega) h63 (growslice_fits (by omega) hbytes)
        refine grow hyl xcap F (rl ++ [(xs.length + ys.length, key)]) (g.rw ++ [some w.heap.size]) rl.length _ _ G hxes hF hG hxF hyG rfl rfl ?_ (rowgrow _) rownew (by simp [newrow]) (rowat _) (rowoth _) hev
        rw [run_app ho, hex, hxc, hr]; rfl
  | row kk =>
    dsimp only at hev
    rw [nth_eq] at hev
    split at hev
    rotate_left
    · exact hev.elim
    rename_i n' e' hrl
    obtain ⟨⟨hn', he'⟩, hev0⟩ := hev
    obtain ⟨_, hev⟩ := setK_eq _ _ _ _ hev0
    clear hev0
    obtain ⟨L', e'', h1, hxes0, h2, h30⟩ := htag
    rw [hrl] at h1
    cases h1
    have he' := he'.symm
    subst he'
    subst hn'
    have hxes := hxes0
    rw [hkey] at hxes
    have h3 := h30
    simp only [hkey] at h3
    have hkl : kk < rl.length := (List.getElem?_eq_some_iff.1 hrl).1
    have hset : (rl.set kk (xs.length + ys.length, key))[kk]? = some (xs.length + ys.length, key) := List.getElem?_set_self hkl
    have hsetrow : ∀ (k n e : Nat), rl[k]? = some (n, e) → ∃ n', (rl.set kk (xs.length + ys.length, key))[k]? = some (n', e) ∧ n ≤ n' := by
      intro k' n' e' hk'
      by_cases hkk : kk = k'
      · subst hkk
        rw [hrl] at hk'; cases hk'
        exact ⟨_, hset, by omega⟩
      · exact ⟨n', by rw [List.getElem?_set_ne hkk]; exact hk', Nat.le_refl _⟩
    have noth : ys = [] → o.wp L.P a w next Q := by
      intro hy0
      subst hy0
      have e1 : rl.set kk (xs.length + ([] : List (List DV)).length, key) = rl := by
        apply List.ext_getElem?
        intro q
        by_cases hq : kk = q
        · subst hq; rw [List.getElem?_set_self hkl, hrl]; rfl
        · rw [List.getElem?_set_ne hq]
      rw [e1, List.append_nil] at hev
      have hG0 : G = [] := List.length_eq_zero_iff.1 (by simpa using hG)
      subst hG0
      have hr : (execOp a.eval o).run L.P w = .ok (.value xv) w := by
        rcases sl_inv hxd with ⟨_, a0, hc⟩ | ⟨blk, off, cap, es, f, hc, _, hcap, _⟩
        · rw [run_app ho, hex, hc, run_appG_nothing L.P w t u o.type e i ht hi a0 0 0 (Nat.le_refl _) _ src]; rfl
        · rw [run_app ho, hex, hc, run_appG_nothing L.P w t u o.type e i ht hi (some _) _ cap hcap _ src]; rfl
      exact wp_value hr (k _ _ g _ w (Step.refl g rl w) h (.rsl xs (.row kk) xv hxd ⟨_, _, hrl, hxes0, h2, h30⟩) hev)
    · by_cases hy0 : ys = []
      · exact noth hy0
      · have hyl : 0 < ys.length := List.length_pos_iff.2 hy0
        have hrwl : kk < g.rw.length := by rw [h.sh.rwl]; exact hkl
        have setgrow : (∀ (k n e : Nat), rl[k]? = some (n, e) → ∃ n', (rl.set kk (xs.length + ys.length, key))[k]? = some (n', e) ∧ n ≤ n' ∧ (n' = n → (g.rw.set kk (some w.heap.size))[k]? = g.rw[k]?)) := by
          intro k' n' e' hk'
          by_cases hkk : kk = k'
          · subst hkk
            rw [hrl] at hk'; cases hk'
            exact ⟨_, hset, by omega, fun hh => by omega⟩
          · exact ⟨n', by rw [List.getElem?_set_ne hkk]; exact hk', Nat.le_refl _, fun _ => by rw [List.getElem?_set_ne hkk]⟩
        have setnew : ∀ b, some b ∈ g.rw.set kk (some w.heap.size) → some b ∈ g.rw ∨ w.heap.size ≤ b := by
          intro b hb
          rcases List.mem_or_eq_of_mem_set hb with hb | hb
          · exact .inl hb
          · cases hb; exact .inr (Nat.le_refl _)
        have setlen : (g.rw.set kk (some w.heap.size)).length = (rl.set kk (xs.length + ys.length, key)).length := by simp [newrow]
        have setat : (rl.set kk (xs.length + ys.length, key))[kk]? = some (xs.length + ys.length, key) ∧ (g.rw.set kk (some w.heap.size))[kk]? = some (some w.heap.size) := ⟨hset, List.getElem?_set_self hrwl⟩
        have setoth : ∀ j, j ≠ kk → (rl.set kk (xs.length + ys.length, key))[j]? = rl[j]? ∧ (g.rw.set kk (some w.heap.size))[j]? = g.rw[j]? := fun j hj => ⟨List.getElem?_set_ne (Ne.symm hj), List.getElem?_set_ne (Ne.symm hj)⟩
        rcases h3 trivial with ⟨hxn, hrw⟩ | ⟨xb, xcap, tt, hxn, hrw, hshape⟩
        · have hx0 : xs = [] := by
            rcases sl_inv hxd with ⟨h1, _⟩ | ⟨blk, off, cap, es, f, hc, _⟩
            · exact h1
            · rw [hxn] at hc; cases hc
          have hr := run_appG_nil L.P w t u o.type e i z ht hi hz _ ys.length G src hyl (by omega) hn0
          refine grow hyl 0 [] _ _ kk _ _ G hxes (by simp [hx0]) hG (fun p j x y hp => by simp [hx0] at hp) hyG rfl rfl ?_ setgrow setnew setlen setat setoth hev
          rw [run_app ho, hex, hxn, hr]; simp [hx0]
        · obtain ⟨hpos', hrow⟩ := h.sh.row kk _ _ hrl
          simp only [hkey] at hrow
          rcases hrow with ⟨hrw', _⟩ | ⟨blk', cur, tt', fr', hrw', hcur, hmark, hle, hnbk, hfr'⟩
          · rw [hrw] at hrw'; cases hrw'
          · rw [hrw] at hrw'; cases hrw'
            have hcs : cur.size = xcap * i.size := by
              simp only [World.shape?, hcur, Option.some.injEq, Prod.mk.injEq] at hshape
              exact hshape.2
            rcases flat_of_sl hxd i.size hxes with ⟨hx0, a0, hxc⟩ | ⟨xb2, xo, xcap2, F, hxc, hxb, hxcap, hxmk, hF, hFc, hF1, hxF⟩
            · exact absurd hfr'.2.1 (by rw [hx0]; simp)
            · rw [hxn] at hxc; cases hxc
              by_cases hroom : xs.length + ys.length ≤ xcap
              · have hfit : xs.length * i.size + G.length ≤ cur.size := by rw [hG, hcs, ← Nat.add_mul]; exact Nat.mul_le_mul_right _ hroom
                have hr := run_appG_fits L.P w t u o.type e i ht hi xb xs.length xcap cur tt' fr' hfr'.1 hcur _ ys.length G src hG1 hroom hfit
                have hsize : (cur.toList.take (xs.length * i.size) ++ G ++ cur.toList.drop (xs.length * i.size + G.length)).toArray.size = cur.size := by simp; omega
                have hfl : F = cur.toList.take (xs.length * i.size) := by
                  apply List.ext_getElem?
                  intro q
                  by_cases hq : q < xs.length * i.size
                  · rw [List.getElem?_take_of_lt hq]
                    have h5 := hFc q _ (List.getElem?_eq_getElem (by omega))
                    rw [Nat.zero_add, cell_of_row w xb q cur tt' fr' hcur] at h5
                    rw [List.getElem?_eq_getElem (by omega)]
                    simpa using h5.symm
                  · rw [List.getElem?_eq_none (by omega), List.getElem?_eq_none (by simp; omega)]
                have s := Step.rowIn (g := g) (rl := rl) (rl' := rl.set kk (xs.length + ys.length, key)) (n := (xs.length + ys.length) * i.size) (List.mem_iff_getElem?.2 ⟨kk, hrw⟩) cur _ tt' fr' hcur hsize
                  (by rw [hmark]; exact Nat.mul_le_mul_right _ (by omega)) (fun q hq => by
                    rw [hmark] at hq
                    rw [List.getElem?_toArray, List.append_assoc, List.getElem?_append_left (by simp; omega), List.getElem?_take_of_lt hq]; simp) hsetrow
                have hsh := h.sh.rowIn (k := kk) (e := key) hcur (by rw [hkey]; exact Nat.le_trans hfr'.1 (Nat.mul_le_mul_right _ (by omega))) (by rw [hkey]; exact s) (by simp) (by omega) (by omega) hfr'.2.2 (by rw [hsize, hcs, hkey]; exact Nat.mul_le_mul_right _ hroom) ⟨hset, hrw⟩ (fun j hj => List.getElem?_set_ne (Ne.symm hj))
                rw [hkey] at hsh
                have hr2 : (execOp a.eval o).run L.P w = .ok (.value (.slice (some ⟨xb, 0, none⟩) (xs.length + ys.length) xcap)) (w.setRow xb (cur.toList.take (xs.length * i.size) ++ G ++ cur.toList.drop (xs.length * i.size + G.length)).toArray) := by
                  rw [run_app ho, hex, hxn, hr]; rfl
                refine wp_value hr2 (k _ _ _ _ _ s (h.keep s hsh) (.rsl (xs ++ ys) (.row kk) _ ?_ ⟨_, _, hset, fun x hx => by rw [hkey]; exact (List.mem_append.1 hx).elim (hxes x) (hyes x), by simp, fun _ => .inr ⟨xb, xcap, tt', by simp, hrw, ?_⟩⟩) hev)
                · have hl : (xs ++ ys).length = xs.length + ys.length := by simp
                  have := sl_of_flat (mk := (g.row xb ((xs.length + ys.length) * i.size) g.rw).mrk) (w := w.setRow xb (cur.toList.take (xs.length * i.size) ++ G ++ cur.toList.drop (xs.length * i.size + G.length)).toArray)
                    (xs := xs ++ ys) (blk := xb) (off := 0) (cap := xcap) (es := i.size) (F := F ++ G) (by omega) (by omega) (fun x hx' => (List.mem_append.1 hx').elim (hxes x) (hyes x))
                    (by simp [Gh.row]) (by simp [hF, hG, Nat.add_mul]) (fun j u hj => by
                      rw [cell_setRow_same w xb _ cur _ tt' fr' hcur, Nat.zero_add, List.getElem?_toArray, ← hfl, List.getElem?_append_left (List.getElem?_eq_some_iff.1 hj).1]; exact hj)
                    (flat_append hF hxF hyG fun y u hd => hd.keep s.mrk s.cell)
                  rw [hl] at this
                  exact this
                · simp only [World.shape?, setRow_heap w xb cur _ tt' fr' hcur, hsize, hcs, hkey]
              · have hr := run_appG_grow L.P w t u o.type e i z ht hi hz ⟨xb, 0, none⟩ xs.length xcap F hF (fun j u hj => by rw [Addr.add_lit]; exact hFc j u hj) _ ys.length G src
                  (by omega) h63 (growslice_fits (by omega) hbytes)
                refine grow hyl xcap F _ _ kk _ _ G hxes hF hG hxF hyG rfl rfl ?_ setgrow setnew setlen setat setoth hev
                rw [run_app ho, hex, hxn, hr]; rfl
theorem snd_app {o : Oper} {x y : Operand} {ax ay : Arg} {t e : TypeId} {i : TypeInfo} {z : Value} {zd : List DV} (ho : o.op = .call { callee := .builtin .append, args := #[x, y], argTypes := #[t, t] })
    (ht : L.P.underlying t = some (.slice e)) (hi : L.P.info? e = some i) (hz : i.zero = some z) (hzs : z.cells.size = i.size) (hpos : 0 < i.size) (hb1 : 0 < i.bytes) (hk : esz (rowKey zd i.size) = i.size) (hk8 : rowKey zd i.size = 1000 → e = L.u8) (hx : ArgR L x ax) (hy : ArgR L y ay) : OpS L n o (.app i.size i.bytes zd ax ay) := by
  intro σ K g a w next Q h hev k
  obtain ⟨env, nb, bx, rl⟩ := σ
  have hyv := hy.val h
  simp only [evOp] at hev
  obtain ⟨ys, hev, hyd⟩ := elems_inv hyv _ hev
  have hyes : ∀ y, y ∈ ys → y.length = i.size := by
    unfold appRow at hev
    split at hev
    · exact hev.1.2
    · exact hev.elim
  have ty : ∃ d, L.P.underlying t = some d ∧ ∀ k, d ≠ .int k := ⟨_, ht, fun k h => by cases h⟩
  rcases flat_of_sl hyd i.size hyes with ⟨hy0, a0, hyc⟩ | ⟨blk, off, cap, G, hyc, hyb, hycap, hymk, hG, hGc, hG1, hyG⟩
  · subst hy0
    refine app_core ho ht hi hz hzs hpos hb1 hx hk hk8 h [] [] (by simp) (fun u hu => by cases hu) (fun p j x y hp => by simp at hp) ?_ hev k
    rw [hyc]
    cases a0 with
    | none => exact ⟨ty, fun w' => rfl, rfl, rfl⟩
    | some b => exact ⟨ty, fun w' => rfl, run_firstCells_some (P := L.P) w i.size 0 b 0 0 [] (by simp) (fun j u hj => by simp at hj), run_firstCells_some (P := L.P) w.drew i.size 0 b 0 0 [] (by simp) (fun j u hj => by simp at hj)⟩
  · refine app_core ho ht hi hz hzs hpos hb1 hx hk hk8 h ys G hG hG1 hyG ?_ hev k
    rw [hyc]
    exact ⟨ty, fun w' => rfl, run_firstCells_some (P := L.P) w i.size ys.length ⟨blk, off, none⟩ ys.length cap G hG (fun j u hj => by rw [Addr.add_lit]; exact hGc j u hj),
      run_firstCells_some (P := L.P) w.drew i.size ys.length ⟨blk, off, none⟩ ys.length cap G hG (fun j u hj => by rw [Addr.add_lit]; exact hGc j u hj)⟩
theorem byte_cells (s : List UInt8) (p j : Nat) (x : List DV) (y : DV) (h1 : (s.map byteCell)[p]? = some x) (h2 : x[j]? = some y) :
    ∃ b, s[p]? = some b ∧ j = 0 ∧ y = .int .u8 b.toNat := by
  rw [List.getElem?_map] at h1
  cases hp : s[p]? with
  | none => rw [hp] at h1; cases h1
  | some b =>
    rw [hp] at h1; cases h1
    cases j with
    | zero => simp [byteCell] at h2; exact ⟨b, rfl, rfl, h2.symm⟩
    | succ j => simp [byteCell] at h2
theorem snd_appS {o : Oper} {x y : Operand} {ax ay : Arg} {t u e : TypeId} {i : TypeInfo} {z : Value} (ho : o.op = .call { callee := .builtin .append, args := #[x, y], argTypes := #[t, u] })
    (ht : L.P.underlying t = some (.slice e)) (hu : L.P.underlying u = some .string) (hi : L.P.info? e = some i) (hz : i.zero = some z) (hzs : z.cells.size = i.size) (hsz : i.size = 1) (hby : i.bytes = 1) (he8 : e = L.u8)
    (hx : ArgR L x ax) (hy : ArgR L y ay) : OpS L n o (.appS ax ay) := by
  intro σ K g a w next Q h hev k
  obtain ⟨env, nb, bx, rl⟩ := σ
  have hyv := hy.val h
  simp only [evOp] at hev
  split at hev
  · rename_i s hs
    rw [hs] at hyv
    obtain ⟨ey, hbig⟩ := hyv.str_inv
    have hcells : ∀ w', (Builtin.firstCells i.size (s.map byteCell).length (a.eval y)).run L.P w' = .ok (s.map fun b => Value.int .u8 b.toNat).toArray w' := by
      intro w'
      rw [ey]
      simp only [Builtin.firstCells, Sem.run_pure]
      congr 1
      apply Array.ext'
      simp [ByteArray.extract, ByteArray.copySlice]
    refine app_core ho ht hi hz hzs (by omega) (by omega) hx (key := 1000) (by rw [hsz]; rfl) (fun _ => he8) h (s.map byteCell) (s.map fun b => Value.int .u8 b.toNat) (by simp [hsz]) (fun v hv => ?_) (fun p j x y hp hj => ?_) ⟨⟨_, hu, fun k h => by cases h⟩, fun w' => ?_, hcells w, hcells w.drew⟩ (by rw [hsz, hby]; exact hev) k
    · simp at hv; obtain ⟨b, _, rfl⟩ := hv; rfl
    · obtain ⟨b, h1, rfl, rfl⟩ := byte_cells s p j x y hp hj
      refine ⟨.int .u8 b.toNat, by rw [hsz]; simp [h1], .int _ _ ?_⟩
      have := b.toNat_lt
      simp only [inR]; omega
    · rw [ey]; simp [Builtin.lenOf, ByteArray.size]
  · exact hev.elim
end
end Go.Ab
namespace Go.Ab
open Go
theorem run_equal_bool (P : Program) (w : World) (t : TypeId) (ht : P.underlying t = some .bool) (p q : Bool) : (Op.equal t (.bool p) (.bool q)).run P w = .ok (p == q) w := by
  show (Op.equalIn (9999 + 1) t _ _).run P w = _
  unfold Op.equalIn
  simp only [underlying, Sem.run_bind, run_program, Result.andThen_ok, ht, Sem.run_pure]
theorem run_equal_ptr_nil (P : Program) (w : World) (t e : TypeId) (ht : P.underlying t = some (.pointer e)) (p : Option Addr) : (Op.equal t (.pointer p) (.pointer none)).run P w = .ok p.isNone w := by
  show (Op.equalIn (9999 + 1) t _ _).run P w = _
  unfold Op.equalIn
  cases p <;> simp only [underlying, Sem.run_bind, run_program, Result.andThen_ok, ht, Sem.run_pure] <;> rfl
theorem run_bin_eq (P : Program) (w : World) (t : TypeId) (x y : Value) (ne r : Bool) (hx : ∀ k m, x ≠ .int k m) (hf : ∀ k m, x ≠ .float k m) (hc : ∀ k p q, x ≠ .complex k p q) (hs : ∀ s, x ≠ .string s)
    (h : (Op.equal t x y).run P w = .ok r w) : (binOp (if ne then .neq else .eql) t x y).run P w = .ok (.bool (ne != r)) w := by
  have h1 : (binOp .eql t x y).run P w = .ok (.bool r) w := by
    unfold binOp
    cases x <;> first | exact absurd rfl (hx _ _) | exact absurd rfl (hf _ _) | exact absurd rfl (hc _ _ _) | exact absurd rfl (hs _) | simp only [Sem.run_bind, h, Result.andThen_ok, Sem.run_pure]
  have h2 : (binOp .neq t x y).run P w = .ok (.bool (!r)) w := by
    unfold binOp
    cases x <;> first | exact absurd rfl (hx _ _) | exact absurd rfl (hf _ _) | exact absurd rfl (hc _ _ _) | exact absurd rfl (hs _) | simp only [Sem.run_bind, h, Result.andThen_ok, Sem.run_pure]
  cases ne <;> simp [h1, h2]
section
variable {L : Lk} {n : Nat}
theorem snd_binb {o : Oper} {ne : Bool} {t t' : TypeId} {x y : Operand} {ax ay : Arg} (ho : o.op = .binOp (if ne then .neq else .eql) t x y t') (ht : L.P.underlying t = some .bool) (hx : ArgR L x ax) (hy : ArgR L y ay) : OpS L n o (.binb ne ax ay) := by
  intro σ K g a w next Q h hev k
  obtain ⟨env, nb, bx, rl⟩ := σ
  have hxv := hx.val h
  have hyv := hy.val h
  simp only [evOp] at hev
  split at hev
  · rename_i p q h1 h2
    rw [h1] at hxv
    rw [h2] at hyv
    have ex := hxv.bool_inv
    have ey := hyv.bool_inv
    have hr := run_bin_eq L.P w t (.bool p) (.bool q) ne _ (by simp) (by simp) (by simp) (by simp) (run_equal_bool L.P w t ht p q)
    refine wp_value (v := .bool (ne != (p == q))) ?_ (k (.d (.bool (ne != (p == q)))) _ g _ w (Step.refl g rl w) h (VR.vbool _) ?_)
    · cases ne <;> simp at hr <;> simp [execOp, ho, ex, ey, eqGuard_bool, hr]
    · cases ne
      · simpa using hev
      · have : (true != (p == q)) = (p != q) := by cases p <;> cases q <;> rfl
        rw [this]; exact hev
  · exact hev.elim
theorem VR.nilp_inv {g : Gh} {rl : List (Nat × Nat)} {w : World} {c : Value} (h : VR L g rl w (.d .nilp) c) : c = .pointer none := by
  cases h with | d _ _ h => cases h; rfl
theorem snd_binp {o : Oper} {ne : Bool} {t t' e : TypeId} {x y : Operand} {ax ay : Arg} (ho : o.op = .binOp (if ne then .neq else .eql) t x y t') (ht : L.P.underlying t = some (.pointer e)) (hx : ArgR L x ax) (hy : ArgR L y ay) : OpS L n o (.binp ne ax ay) := by
  intro σ K g a w next Q h hev k
  obtain ⟨env, nb, bx, rl⟩ := σ
  have hxv := hx.val h
  have hyv := hy.val h
  have guard : ∀ op p q, (eqGuard op t x y (.pointer p) (.pointer q)).run L.P w = .ok () w := by
    intro op p q; unfold eqGuard; split <;> simp
  simp only [evOp] at hev
  split at hev
  · rename_i b j h1 h2
    rw [h1] at hxv
    rw [h2] at hyv
    obtain ⟨blk, ex, _⟩ := hxv.ptr_inv
    have ey : a.eval y = .pointer none := hyv.nilp_inv
    have hr := run_bin_eq L.P w t (.pointer (some ⟨blk, j, none⟩)) (.pointer none) ne _ (by simp) (by simp) (by simp) (by simp) (run_equal_ptr_nil L.P w t e ht _)
    refine wp_value (v := .bool ne) ?_ (k _ _ g _ w (Step.refl g rl w) h (VR.vbool _) hev)
    cases ne <;> simp at hr <;> simp [execOp, ho, ex, ey, guard, hr]
  · rename_i h1 h2
    rw [h1] at hxv
    rw [h2] at hyv
    have ex : a.eval x = .pointer none := hxv.nilp_inv
    have ey : a.eval y = .pointer none := hyv.nilp_inv
    have hr := run_bin_eq L.P w t (.pointer none) (.pointer none) ne _ (by simp) (by simp) (by simp) (by simp) (run_equal_ptr_nil L.P w t e ht _)
    refine wp_value (v := .bool (!ne)) ?_ (k _ _ g _ w (Step.refl g rl w) h (VR.vbool _) hev)
    cases ne <;> simp at hr <;> simp [execOp, ho, ex, ey, guard, hr]
  · exact hev.elim
theorem snd_same {o : Oper} {s t : TypeId} {x : Operand} {ax : Arg} (ho : o.op = .convert s t x) (hs : L.P.underlying s = some .string) (ht : L.P.underlying t = some .string) (hx : ArgR L x ax) : OpS L n o (.same ax) := by
  intro σ K g a w next Q h hev k
  obtain ⟨env, nb, bx, rl⟩ := σ
  have hxv := hx.val h
  simp only [evOp] at hev
  split at hev
  · rename_i s' hs'
    rw [hs'] at hxv
    obtain ⟨he, hb⟩ := hxv.str_inv
    exact wp_value (v := .string ⟨s'.toArray⟩) (by simp [execOp, ho, he, convert, underlying, hs, ht]) (k _ _ g _ w (Step.refl g rl w) h (.d _ _ (.str _ hb)) hev)
  · exact hev.elim
theorem snd_mkif {o : Oper} {t : Nat} {d : TypeDesc} {x : Operand} {ax : Arg} (ho : o.op = .makeInterface (L.tn t) x) (ht : L.P.underlying (L.tn t) = some d) (hd : ∀ ms, d ≠ .interface ms) (hx : ArgR L x ax) : OpS L n o (.mkif t ax) := by
  intro σ K g a w next Q h hev k
  obtain ⟨env, nb, bx, rl⟩ := σ
  simp only [evOp, force_eq] at hev
  refine wp_value (v := .iface (L.tn t) (a.eval x)) ?_ (k _ _ g _ w (Step.refl g rl w) h (.ifc t _ _ (hx.val h)) hev)
  cases d with
  | interface ms => exact absurd rfl (hd ms)
  | _ => simp [execOp, ho, Instr.makeInterface, underlying, ht]
theorem part_of {m : Nat} {ag : Bool} {t : TypeId} (ht : TyR L t m ag) (cs : Array Value) (off : Nat) (w : World) (hoff : off + m ≤ cs.size) :
    (part t cs off).run L.P w = .ok (if ag then .agg ((List.range m).map fun j => cs.getD (off + j) undef).toArray else cs.getD off undef) w := by
  obtain ⟨⟨i, hi, hm⟩, ⟨d, hd, ha⟩, hag⟩ := ht
  have hisagg : (isAgg t).run L.P w = .ok ag w := by
    unfold isAgg underlying
    simp only [Sem.run_bind, run_program, Result.andThen_ok, hd]
    cases d <;> simp [aggD] at ha <;> subst ha <;> rfl
  cases ag with
  | true =>
    simp only [part, Sem.run_bind, hisagg, Result.andThen_ok, if_true]
    simp [sizeOf, typeInfo, hi, hm]
    apply Array.ext
    · simp; omega
    · intro j h1 h2
      simp at h1 h2
      simp [show off + j < cs.size by omega]
  | false =>
    have h1 := hag rfl
    subst h1
    simp only [part, Sem.run_bind, hisagg, Result.andThen_ok, Bool.false_eq_true, if_false]
    have : off < cs.size := by omega
    simp [this, Array.getD_eq_getD_getElem?]
theorem snd_fld {o : Oper} {s : TypeId} {fs : Array Field} {f : Field} {i m : Nat} {ag : Bool} {x : Operand} {ax : Arg} (ho : o.op = .field s x i) (hs : L.P.underlying s = some (.struct fs)) (hf : fs[i]? = some f) (ht : TyR L f.type m ag)
    (hx : ArgR L x ax) (hm0 : 0 < m) : OpS L n o (.fld f.offset m ag ax) := by
  intro σ K g a w next Q h hev k
  obtain ⟨env, nb, bx, rl⟩ := σ
  have hxv := hx.val h
  simp only [evOp] at hev
  split at hev
  · rename_i cs hcs
    rw [hcs] at hxv
    generalize hex : a.eval x = xv at hxv
    cases hxv with
    | agg _ vs hn hvs =>
    obtain ⟨h1, ys, h2, h3, h4⟩ := cellsK_eq _ _ _ _ hev
    have hle : f.offset + m ≤ vs.size := by rcases h1 with h1 | h1 <;> omega
    have hp := part_of (L := L) ht vs f.offset w hle
    obtain ⟨v, hk, hv⟩ := withCells_eq (L := L) (g := g) (rl := rl) (w := w) ht.2.2 ys (fun j => vs.getD (f.offset + j) undef) h2 (fun j y hy => by
      have hj : j < m := by rw [← h2]; exact (List.getElem?_eq_some_iff.1 hy).1
      have := h3 j hj
      rw [hy] at this
      refine hvs (f.offset + j) y _ this.symm ?_
      simp [Array.getD_eq_getD_getElem?, show f.offset + j < vs.size by omega]) _ h4
    refine wp_value ?_ (k _ _ g _ w (Step.refl g rl w) h hv hk)
    simp only [execOp, ho, hex, Instr.field, underlying, Sem.run_bind, run_program, Result.andThen_ok, hs, Sem.run_pure, hf, asAgg, hp, Nat.add_zero]
  · exact hev.elim
theorem snd_range {o : Oper} {t : TypeId} {x : Operand} {ax : Arg} (ho : o.op = .range t x) (ht : L.P.underlying t = some .string) (hx : ArgR L x ax) : OpS L n o (.range ax) := by
  intro σ K g a w next Q h hev k
  obtain ⟨env, nb, bx, rl⟩ := σ
  have hxv := hx.val h
  simp only [evOp] at hev
  split at hev
  · rename_i s hs
    rw [hs] at hxv
    obtain ⟨he, hb⟩ := hxv.str_inv
    have hev := snocK_eq _ _ _ hev
    have hr : (execOp a.eval o).run L.P w = .ok (.value (.pointer (some ⟨w.heap.size, 0, none⟩))) (w.alloc (.stringIter ⟨s.toArray⟩ 0)) := by
      simp [execOp, ho, he, Instr.range, underlying, ht]
    have st := Step.box g rl w (.stringIter ⟨s.toArray⟩ 0) h.sh.fresh
    have hsh := h.sh.box' (.stringIter ⟨s.toArray⟩ 0) (.iter s 0) ⟨heap_alloc_new w _, hb⟩
    refine wp_value hr (k _ _ _ _ _ st (h.keep st hsh) (.itr nb w.heap.size ?_) hev)
    have hnb : nb = bx.length := h.sh.nb
    rw [hnb, ← h.sh.bkl]
    simp [Gh.box]
  · exact hev.elim
theorem Step.setIter {g : Gh} {rl : List (Nat × Nat)} {w : World} {b : Nat} (hb : b ∈ g.bk) (hm : g.mrk b = 0) {s s' : ByteArray} {p p' : Nat} (hg : w.heap[b]? = some (.stringIter s p)) :
    Step g rl w g rl { w with heap := w.heap.setIfInBounds b (.stringIter s' p') } where
  os := rfl
  tape := rfl
  output := rfl
  size := by simp
  mrk b := Nat.le_refl _
  cell b' o ho := by
    have : b ≠ b' := by rintro rfl; omega
    exact World.cell?_of_block (a := ⟨b', o, none⟩) (by simp [this])
  bk i b h := h
  row k n e h := ⟨n, h, Nat.le_refl _, fun _ => rfl⟩
  shape b' h' := by
    by_cases h : b = b'
    · subst h
      have : (w.heap.setIfInBounds b (.stringIter s' p'))[b]? = some (.stringIter s' p') := by simp [h']
      simp only [World.shape?, this, hg]
    · simp [World.shape?, h]
  newbk b h := .inl h
  newrw b h := .inl h
  frame b' _ h1 _ := by
    have : b ≠ b' := by rintro rfl; exact h1 hb
    simp [this]
  mold _ _ _ _ := rfl
theorem RelSh.setIter {g : Gh} {nb : Nat} {bx : List Bx} {rl : List (Nat × Nat)} {w : World} (h : RelSh L g nb bx rl w) {i b : Nat} (hi : g.bk[i]? = some b) (hm : g.mrk b = 0) {s : List UInt8} {p p' : Nat}
    (hg : w.heap[b]? = some (.stringIter ⟨s.toArray⟩ p)) (hs : s.length ≤ big) : RelSh L g nb (bx.set i (.iter s p')) rl { w with heap := w.heap.setIfInBounds b (.stringIter ⟨s.toArray⟩ p') } := by
  have hmem : b ∈ g.bk := List.mem_iff_getElem?.2 ⟨i, hi⟩
  have st := Step.setIter (rl := rl) (s' := ⟨s.toArray⟩) (p' := p') hmem hm hg
  have hlt := lt_of_heap hg
  have hother : ∀ x, x ≠ b → ({ w with heap := w.heap.setIfInBounds b (.stringIter ⟨s.toArray⟩ p') } : World).heap[x]? = w.heap[x]? := fun x hx => by simp [Ne.symm hx]
  refine ⟨by simp [h.nb], by simp [h.bkl], ?_, h.inj, h.rwl, ?_, h.rinj, fun b hb => h.fresh b (by simpa using hb), fun i => (h.glob i).keep st⟩
  · intro j y blk hy hk
    by_cases hj : i = j
    · subst hj
      rw [hi] at hk; cases hk
      have hl : i < bx.length := by rw [← h.bkl]; exact (List.getElem?_eq_some_iff.1 hi).1
      rw [List.getElem?_set_self hl] at hy
      cases hy
      refine ⟨fun _ => hm, ?_, hs⟩
      show ({ w with heap := w.heap.setIfInBounds b (.stringIter ⟨s.toArray⟩ p') } : World).heap[b]? = _
      simp [hlt]
    · rw [List.getElem?_set_ne hj] at hy
      obtain ⟨h1, h2⟩ := h.box j y blk hy hk
      exact ⟨h1, h2.keep st (hother blk (fun hb => hj (h.inj i j b hi (hb ▸ hk))))⟩
  · intro k n e hk
    obtain ⟨h0, h1⟩ := h.row k n e hk
    refine ⟨h0, ?_⟩
    rcases h1 with h1 | ⟨blk, arr, t, fr, h1, h2, h3, h4, h5, h6⟩
    · exact .inl h1
    · exact .inr ⟨blk, arr, t, fr, h1, by rw [hother blk (fun hb => h5 (hb ▸ hmem))]; exact h2, h3, h4, h5, h6⟩
theorem decode_at (s : List UInt8) (p : Nat) (b : UInt8) (h : s[p]? = some b) (hb : b.toNat < 128) : Utf8.decode ⟨s.toArray⟩ p = (b.toNat, 1) := by
  obtain ⟨h1, h2⟩ := List.getElem?_eq_some_iff.1 h
  have hlt : p < (ByteArray.mk s.toArray).size := by simpa [ByteArray.size] using h1
  have he : (ByteArray.mk s.toArray)[p] = b := h2
  have := decode_ascii ⟨s.toArray⟩ p hlt (by rw [he]; exact hb)
  rw [this, he]
theorem snd_next {o : Oper} {x : Operand} {ax : Arg} (ho : o.op = .next x true) (hx : ArgR L x ax) : OpS L n o (.next ax) := by
  intro σ K g a w next Q h hev k
  obtain ⟨env, nb, bx, rl⟩ := σ
  have hxv := hx.val h
  simp only [evOp] at hev
  split at hev
  · rename_i b hcs
    rw [hcs] at hxv
    split at hev
    · rename_i s p hb
      rw [nth_eq] at hb
      generalize hex : a.eval x = xv at hxv
      cases hxv with
      | itr _ blk hbk =>
      obtain ⟨hmrk, hh⟩ := h.sh.box b _ blk hb hbk
      have hmrk := hmrk (by simp)
      obtain ⟨hh, hsb⟩ := hh
      have hsz : (ByteArray.mk s.toArray).size = s.length := by simp [ByteArray.size]
      obtain ⟨hA, hB⟩ := hev
      by_cases hp : p < s.length
      · obtain ⟨h128, hA⟩ := hA s[p] (List.getElem?_eq_getElem hp)
        obtain ⟨_, hk⟩ := setK_eq _ _ _ _ hA
        have hd := decode_at s p s[p] (List.getElem?_eq_getElem hp) h128
        have hmem : blk ∈ g.bk := List.mem_iff_getElem?.2 ⟨b, hbk⟩
        have st := Step.setIter (rl := rl) (s' := ⟨s.toArray⟩) (p' := p + 1) hmem hmrk hh
        have hsh := h.sh.setIter hbk hmrk (p' := p + 1) hh hsb
        refine wp_value (v := .tuple #[.bool true, .int .i64 p, .int .i32 s[p].toNat]) (w' := { w with heap := w.heap.setIfInBounds blk (.stringIter ⟨s.toArray⟩ (p + 1)) }) ?_ (k _ _ g _ _ st (h.keep st hsh) ?_ hk)
        · simp [execOp, ho, hex, Instr.next, getObj, Sem.run, hh, hsz, hp, hd, setObj, goInt]
        · refine .tup _ _ rfl fun j x y hx hy => ?_
          match j, hx, hy with
          | 0, hx, hy => simp at hx hy; subst hx; subst hy; exact VR.vbool _
          | 1, hx, hy =>
            simp at hx hy; subst hx; subst hy
            refine .d _ _ (.int _ _ (inR_len (by omega)))
          | 2, hx, hy =>
            simp at hx hy; subst hx; subst hy
            refine .d _ _ (.int _ _ ?_)
            simp only [inR]; omega
          | j + 3, hx, hy => simp at hx
      · refine wp_value (v := .tuple #[.bool false]) (w' := w) ?_ (k _ _ g _ _ (Step.refl g rl w) h ?_ (hB (by omega)))
        · simp [execOp, ho, hex, Instr.next, getObj, Sem.run, hh, hsz, hp]
        · refine .tup _ _ rfl fun j x y hx hy => ?_
          match j, hx, hy with
          | 0, hx, hy => simp at hx hy; subst hx; subst hy; exact VR.vbool _
          | j + 1, hx, hy => simp at hx
    · exact hev.elim
  · exact hev.elim
theorem sl_cut {mk : Nat → Nat} {w : World} {xs : List (List DV)} {blk off cap es l h : Nat} (hd : DR mk w (.sl xs) (.slice (some ⟨blk, off, none⟩) xs.length cap)) (hes : ∀ x, x ∈ xs → x.length = es) (hlh : l ≤ h) (hh : h ≤ xs.length) :
    DR mk w (.sl ((xs.take h).drop l)) (.slice (some (if cap = l then ⟨blk, off, none⟩ else ⟨blk, off + l * es, none⟩)) (h - l) (cap - l)) := by
  rcases flat_of_sl hd es hes with ⟨hx0, a0, hc⟩ | ⟨blk', off', cap', F, hc, hb, hcap, hmk, hF, hFc, hF1, hxF⟩
  · injection hc with _ _ hc3
    subst hx0
    have hh0 : h = 0 := by simpa using hh
    have hl0 : l = 0 := by omega
    subst hc3; subst hh0; subst hl0
    exact .sle _
  · cases hc
    have hlen : ((xs.take h).drop l).length = h - l := by simp; omega
    by_cases hcl : cap = l
    · have h0 : (xs.take h).drop l = [] := by
        apply List.eq_nil_of_length_eq_zero; omega
      rw [if_pos hcl, h0]
      have : h - l = 0 := by omega
      rw [this]
      exact .sl [] blk off _ 0 (fun _ _ => undef) (by simp) (by simp) (fun x hx => by cases hx) (by simp; omega) (fun i j hi => by simp at hi) (fun i j x y hx => by simp at hx)
    · rw [if_neg hcl]
      have e1 : h - l = ((xs.take h).drop l).length := hlen.symm
      rw [e1]
      have hmul : l * es + (h - l) * es = h * es := by rw [← Nat.add_mul]; congr 1; omega
      have hmul2 : h * es ≤ xs.length * es := Nat.mul_le_mul_right _ hh
      refine sl_of_flat (F := (F.take (h * es)).drop (l * es)) (es := es) (by simp; omega) (by omega) (fun x hx => hes x (List.mem_of_mem_take (List.mem_of_mem_drop hx))) (by rw [hlen]; omega) (by simp [hF, Nat.sub_mul]) ?_ ?_
      · intro j u hj
        rw [List.getElem?_drop, List.getElem?_take] at hj
        split at hj
        · rw [Nat.add_assoc]; exact hFc _ _ hj
        · cases hj
      · intro i j x y hx hy
        rw [List.getElem?_drop, List.getElem?_take] at hx
        split at hx
        · rename_i hlt
          obtain ⟨u, h1, h2⟩ := hxF _ j x y hx hy
          refine ⟨u, ?_, h2⟩
          have hj : j < es := by have := (List.getElem?_eq_some_iff.1 hy).1; rw [hes x (List.mem_iff_getElem?.2 ⟨_, hx⟩)] at this; exact this
          have hm2 : (l + i) * es + es ≤ h * es := by have := Nat.mul_le_mul_right es (Nat.succ_le_of_lt hlt); rw [Nat.succ_mul] at this; exact this
          rw [List.getElem?_drop, show l * es + (i * es + j) = (l + i) * es + j by rw [Nat.add_mul]; omega, List.getElem?_take_of_lt (by omega)]
          exact h1
        · cases hx
theorem snd_cutL {o : Oper} {x : Operand} {ax : Arg} {lo hi : Option Operand} {al ah : Option Arg} {t e : TypeId} {ei : TypeInfo} (ho : o.op = .slice t x lo hi none) (ht : L.P.underlying t = some (.slice e)) (he : L.P.info? e = some ei)
    (hx : ArgR L x ax) (hlo : OptR L lo al) (hhi : OptR L hi ah) : OpS L n o (.cutL ei.size ax al ah) := by
  intro σ K g a w next Q h hev k
  obtain ⟨env, nb, bx, rl⟩ := σ
  have hxv := hx.val h
  simp only [evOp] at hev
  obtain ⟨xs, hev, hd⟩ := elems_inv hxv _ hev
  obtain ⟨l, hev, hl⟩ := bound_eq h hlo _ _ hev
  obtain ⟨hh, hev, hhh⟩ := bound_eq h hhi _ _ hev
  obtain ⟨⟨h0, h1, h2, hes⟩, hk⟩ := hev
  rcases sl_inv hd with ⟨hx0, a0, hc⟩ | ⟨blk, off, cap, es', f, hc, hb, hcap, _⟩
  · subst hx0
    have hl0 : l = 0 ∧ hh = 0 := by simp at h2; omega
    obtain ⟨rfl, rfl⟩ := hl0
    have hrb := run_bounds (P := L.P) (w := w) (ev := a.eval) (len := 0) (cap := 0) true hl (by simpa using hhh) (Int.le_refl _) (Int.le_refl _) (by simp)
    have hdr : DR g.mrk w (.sl []) (.slice a0 0 0) := by cases a0 with | none => exact .slnil | some b => exact .sle b
    refine wp_value (v := .slice a0 0 0) ?_ (k _ _ g _ w (Step.refl g rl w) h (.d _ _ (by simpa using hdr)) hk)
    cases a0 <;> simp [execOp, ho, Instr.sliceAt, underlying, ht, hc, Instr.slice, sizeOf, typeInfo, he, hrb]
  · have hrb := run_bounds (P := L.P) (w := w) (ev := a.eval) (len := xs.length) (cap := cap) true hl hhh h0 h1 (by omega)
    have hd' := hd
    rw [hc] at hd'
    have hcut := sl_cut (l := l.toNat) (h := hh.toNat) hd' hes (by omega) (by omega)
    refine wp_value ?_ (k _ _ g _ w (Step.refl g rl w) h (.d _ _ hcut) hk)
    by_cases hcl : cap = l.toNat
    · subst hcl
      simp [execOp, ho, Instr.sliceAt, underlying, ht, hc, Instr.slice, sizeOf, typeInfo, he, hrb]
    · simp [execOp, ho, Instr.sliceAt, underlying, ht, hc, Instr.slice, sizeOf, typeInfo, he, hrb, hcl, Addr.add_lit]
theorem chunks_get (es : Nat) : ∀ (n : Nat) (cs : List DV), cs.length = es * n → (chunks es n cs).length = n ∧ (∀ x, x ∈ chunks es n cs → x.length = es) ∧
    ∀ i x, (chunks es n cs)[i]? = some x → ∀ j, j < es → x[j]? = cs[i * es + j]?
  | 0, cs, h => ⟨rfl, fun x hx => by simp [chunks] at hx, fun i x hx => by simp [chunks] at hx⟩
  | m + 1, cs, h => by
    have h' : (cs.drop es).length = es * m := by simp [h, Nat.mul_succ]
    obtain ⟨h1, h2, h3⟩ := chunks_get es m (cs.drop es) h'
    have hle : es ≤ cs.length := by rw [h, Nat.mul_succ]; omega
    refine ⟨by simp [chunks, h1], fun x hx => ?_, fun i x hx j hj => ?_⟩
    · simp only [chunks, List.mem_cons] at hx
      rcases hx with rfl | hx
      · simp; omega
      · exact h2 x hx
    · cases i with
      | zero => simp [chunks] at hx; subst hx; rw [List.getElem?_take_of_lt hj]; simp
      | succ i =>
        simp only [chunks, List.getElem?_cons_succ] at hx
        rw [h3 i x hx j hj, List.getElem?_drop]; congr 1; rw [Nat.succ_mul]; omega
theorem sl_of_elt {g : Gh} {w : World} {cs : List DV} {blk off es m : Nat} {c : Nat → Value} (hlen : cs.length = es * m) (hm : m ≤ big) (hmk : off + cs.length ≤ g.mrk blk)
    (hc : ∀ j, j < cs.length → w.cell? ⟨blk, off + j, none⟩ = some (c j)) (hv : ∀ j y, cs[j]? = some y → DR g.mrk w y (c j)) : DR g.mrk w (.sl (chunks es m cs)) (.slice (some ⟨blk, off, none⟩) m m) := by
  obtain ⟨h1, h2, h3⟩ := chunks_get es m cs hlen
  have := DR.sl (mk := g.mrk) (w := w) (chunks es m cs) blk off m es (fun i j => c (i * es + j)) (by omega) (by omega) h2 (by rw [h1, Nat.mul_comm]; omega) (fun i j hi hj => by
    have := idx_lt (es := es) hi
    rw [h1, Nat.mul_comm m] at this
    exact hc _ (by omega)) (fun i j x y hx hy => by
    have hj : j < es := by have := (List.getElem?_eq_some_iff.1 hy).1; rw [h2 x (List.mem_iff_getElem?.2 ⟨i, hx⟩)] at this; exact this
    exact hv _ y (by rw [← h3 i x hx j hj]; exact hy))
  rw [h1] at this
  exact this
theorem snd_cutA {o : Oper} {x : Operand} {ax : Arg} {t e : TypeId} {ei : TypeInfo} {m : Nat} (ho : o.op = .slice t x none none none) (ht : L.P.underlying t = some (.array m e)) (he : L.P.info? e = some ei) (hm : m ≤ big)
    (hx : ArgR L x ax) : OpS L n o (.cutA ei.size m ax none none) := by
  intro σ K g a w next Q h hev k
  obtain ⟨env, nb, bx, rl⟩ := σ
  have hxv := hx.val h
  simp only [evOp] at hev
  split at hev
  · rename_i cs hcs _ _
    rw [hcs] at hxv
    obtain ⟨hlen, hk⟩ := hev
    generalize hex : a.eval x = xv at hxv
    cases hxv with
    | elt _ blk off c hmk hc hv =>
    refine wp_value (v := .slice (some ⟨blk, off, none⟩) m m) ?_ (k _ _ g _ w (Step.refl g rl w) h (.d _ _ (sl_of_elt hlen hm hmk hc hv)) hk)
    have hrb := run_bounds (P := L.P) (w := w) (ev := a.eval) (lo := none) (hi := none) (l := 0) (h := m) (len := m) (cap := m) false (.inl ⟨rfl, rfl⟩) (.inl ⟨rfl, rfl⟩) (by omega) (by omega) (by omega)
    simp only [Option.map_none] at hrb
    by_cases hm0 : m = 0
    · simp [execOp, ho, Instr.sliceAt, underlying, ht, hex, Instr.sureAddr, sizeOf, typeInfo, he, hm0]
      subst hm0; simp [hrb]
    · simp [execOp, ho, Instr.sliceAt, underlying, ht, hex, Instr.sureAddr, hrb, sizeOf, typeInfo, he, hm0, Addr.add_lit]
  · exact hev.elim
theorem snd_iaddrA {o : Oper} {x i : Operand} {ax ai : Arg} {t e : TypeId} {ei : TypeInfo} {m : Nat} (ho : o.op = .indexAddr t x i) (ht : L.P.underlying t = some (.array m e)) (he : L.P.info? e = some ei) (hx : ArgR L x ax) (hi : ArgR L i ai) : OpS L n o (.iaddrA ei.size m ax ai) := by
  intro σ K g a w next Q h hev k
  obtain ⟨env, nb, bx, rl⟩ := σ
  have hxv := hx.val h
  have hiv := hi.val h
  simp only [evOp] at hev
  split at hev
  · rename_i cs kk q h1 h2
    rw [h1] at hxv
    rw [h2] at hiv
    obtain ⟨hlen, c', h3, h4, hk⟩ := hev
    obtain ⟨e1, e2, e3⟩ := chunks_get ei.size m cs hlen
    have hlt := (List.getElem?_eq_some_iff.1 h4).1
    generalize hex : a.eval x = xv at hxv
    cases hxv with
    | elt _ blk off c hmk hc hv =>
    have hq : q < m := by omega
    have hle : q.toNat * ei.size + ei.size ≤ cs.length := by
      have := idx_lt (es := ei.size) hlt
      rw [e1, Nat.mul_comm m, ← hlen] at this; exact this
    have hl := e2 c' (List.mem_iff_getElem?.2 ⟨_, h4⟩)
    refine wp_value (v := .pointer (some ⟨blk, off + q.toNat * ei.size, none⟩)) ?_ (k _ _ g _ w (Step.refl g rl w) h (.elt c' blk _ (fun j => c (q.toNat * ei.size + j)) (by omega) (fun j hj => ?_) (fun j y hy => ?_)) hk)
    · simp [execOp, ho, hex, hiv.int_inv.1, Instr.indexAt, asIntOf, underlying, ht, Instr.sureAddr, h3, hq, sizeOf, typeInfo, he, Addr.add_lit]
    · rw [Nat.add_assoc]; exact hc _ (by omega)
    · have hj : j < ei.size := by have := (List.getElem?_eq_some_iff.1 hy).1; omega
      exact hv _ y (by rw [← e3 _ c' h4 j hj]; exact hy)
  · exact hev.elim
end
end Go.Ab
