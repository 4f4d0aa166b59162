import Derived.Test.YtkablfpnjfbhfaaGreatDoorX17
import Derived.Test.YtkablfpnjfbhfaaGreatDoorX5
import Derived.Below
import Derived.Lib.IndexAny
import Derived.Lib.Join
import Derived.Lib.ItoaNum
import Derived.Test.YtkablfpnjfbhfaaGreatDoorX12
import Derived.Test.YtkablfpnjfbhfaaGreatDoorX11
namespace Go.Ab
open Go
set_option maxHeartbeats 4000000
attribute [local irreducible] Need IdxK FinK NextK CKs CQs ltS
def zE : Ev := ⟨[], 0, zNd⟩
def zP : Pl := ⟨[], [], zNd, []⟩
theorem numsOk1 (a : Int) : numsOk [a] ↔ numOk a := by
  constructor
  · intro h; exact h 0 (by simp) (by simp)
  · intro h1 i hi h
    match i, h with
    | 0, _ => exact h1
theorem noT_z : noT zNd := ⟨rfl, rfl, rfl, rfl, rfl⟩
theorem noK_z : noK zNd := ⟨rfl, rfl, rfl⟩
theorem noE_z : noE zE := ⟨rfl, rfl, noT_z⟩
theorem noP_z : noP zP := ⟨rfl, rfl, rfl, noT_z⟩
theorem k_eventOk {L : Lk} (hf : FnR L 25 c25) (hPw : ∀ p : Pw, CP L 88 [.agg (av (wD p))] (.d (.bool (pb (wOk p))))) (hNP : ∀ p : Pw, CP L 92 [.agg (av (wD p))] (.d (.bool (pb (noW p))))) (hN : K_name L 89) (hE : K_EventOk L 90) (hNums : K_nums L 91)
    (hK : K_KindOk L 93) (hNo : K_noT L 94) (hL : K_LiftOk L 95) (hP : K_planOk L 96) (hNE : K_noE L 97) (hNK : K_noK L 98) (hNPl : K_noP L 99) : K_teOk L 25 := by
  intro e hs
  have n1 := numsOk1 e.many
  have n2 := numsOk2 e.part e.many
  have z1 := noT_z
  have z2 := noK_z
  have z3 := noE_z
  have z4 := noP_z
  have nw : noW e.power → e.power.cuts = false := fun h => h.2.2.1
  have w0 : numOk 0 := by unfold numOk; omega
  have hc : e.kind = 1 ∨ e.kind = 2 ∨ e.kind = 3 ∨ e.kind = 4 ∨ e.kind = 5 ∨ e.kind = 6 ∨ e.kind = 7 ∨ e.kind = 8 ∨ ¬ (1 ≤ e.kind ∧ e.kind ≤ 8) := by omega
  rcases hc with hk | hk | hk | hk | hk | hk | hk | hk | hk
  · have hD : teD e = .int .i64 e.kind :: (teD e).tail := rfl
    rw [hk] at hD
    rw [hD]
    refine CP.enter hf rfl rfl rfl ?_
    repeat' ((conv => whnf); first | refine zG (fun _ => ?_) (fun _ => ?_) | refine zF (fun _ => ?_) (fun _ => ?_) | refine zO (fun _ => ?_) (fun _ => ?_) | refine zB (hPw e.power) ?_ | refine zB (hN _) ?_ | refine zB (hE e.event) ?_ | refine zB (hNo e.lift) ?_ | refine zB (CP.pu (hNE zE)) ?_ | refine zB (hNK e.form) ?_ | refine zB (hNPl e.plan) ?_ | fail)
    all_goals (conv => whnf)
    all_goals try first
      | (exfalso; omega)
      | exact yL (by simp only [teOk, wOkS, wOk, pwOk1, pwOk2, pwOk3, pwOk4, pwOk5, pb_iff, n1, n2] at *; grind)
  · have hD : teD e = .int .i64 e.kind :: (teD e).tail := rfl
    rw [hk] at hD
    rw [hD]
    refine CP.enter hf rfl rfl rfl ?_
    repeat' ((conv => whnf); first | refine zG (fun _ => ?_) (fun _ => ?_) | refine zF (fun _ => ?_) (fun _ => ?_) | refine zO (fun _ => ?_) (fun _ => ?_) | refine zB (hPw e.power) ?_ | refine zB (hNo e.lift) ?_ | refine zB (hNE e.event) ?_ | refine zB (hNK e.form) ?_ | refine zB (hNPl e.plan) ?_ | fail)
    all_goals (conv => whnf)
    all_goals try first
      | (exfalso; omega)
      | exact yL (by simp only [teOk, wOkS, wOk, pwOk1, pwOk2, pwOk3, pwOk4, pwOk5, pb_iff, n1, n2] at *; grind)
  · have hD : teD e = .int .i64 e.kind :: (teD e).tail := rfl
    rw [hk] at hD
    rw [hD]
    refine CP.enter hf rfl rfl rfl ?_
    repeat' ((conv => whnf); first | refine zG (fun _ => ?_) (fun _ => ?_) | refine zF (fun _ => ?_) (fun _ => ?_) | refine zO (fun _ => ?_) (fun _ => ?_) | refine zB (hPw e.power) ?_ | refine zB (hNo e.lift) ?_ | refine zB (hNE e.event) ?_ | refine zB (hNK e.form) ?_ | refine zB (hNPl e.plan) ?_ | fail)
    all_goals (conv => whnf)
    all_goals try first
      | (exfalso; omega)
      | exact yL (by simp only [teOk, wOkS, wOk, pwOk1, pwOk2, pwOk3, pwOk4, pwOk5, pb_iff, n1, n2] at *; grind)
  · have hD : teD e = .int .i64 e.kind :: (teD e).tail := rfl
    rw [hk] at hD
    rw [hD]
    refine CP.enter hf rfl rfl rfl ?_
    repeat' ((conv => whnf); first | refine zG (fun _ => ?_) (fun _ => ?_) | refine zF (fun _ => ?_) (fun _ => ?_) | refine zO (fun _ => ?_) (fun _ => ?_) | refine zB (hPw e.power) ?_ | refine zB (hNo e.lift) ?_ | refine zB (hNE e.event) ?_ | refine zB (hNK e.form) ?_ | refine zB (hNPl e.plan) ?_ | fail)
    all_goals (conv => whnf)
    all_goals try first
      | (exfalso; omega)
      | exact yL (by simp only [teOk, wOkS, wOk, pwOk1, pwOk2, pwOk3, pwOk4, pwOk5, pb_iff, n1, n2] at *; grind)
  · have hD : teD e = .int .i64 e.kind :: (teD e).tail := rfl
    rw [hk] at hD
    rw [hD]
    refine CP.enter hf rfl rfl rfl ?_
    repeat' ((conv => whnf); first | refine zF (fun _ => ?_) (fun _ => ?_) | refine zO (fun _ => ?_) (fun _ => ?_) | refine zB (hPw e.power) ?_ | refine zB (CP.pu (hNums [e.part, e.many])) ?_ | refine zB (hNo e.lift) ?_ | refine zB (hNE e.event) ?_ | refine zB (hNK e.form) ?_ | refine zB (hNPl e.plan) ?_ | fail)
    all_goals (conv => whnf)
    all_goals try first
      | (exfalso; omega)
      | exact yL (by simp only [teOk, wOkS, wOk, pwOk1, pwOk2, pwOk3, pwOk4, pwOk5, pb_iff, n1, n2] at *; grind)
  · have hD : teD e = .int .i64 e.kind :: (teD e).tail := rfl
    rw [hk] at hD
    rw [hD]
    refine CP.enter hf rfl rfl rfl ?_
    repeat' ((conv => whnf); first | refine zG (fun _ => ?_) (fun _ => ?_) | refine zF (fun _ => ?_) (fun _ => ?_) | refine zO (fun _ => ?_) (fun _ => ?_) | refine zB (hPw e.power) ?_ | refine zB (hNP e.power) ?_ | refine zB (hN _) ?_ | refine zB (hK e.form) ?_ | refine zB (hNo e.lift) ?_ | refine zB (hL e.lift hs.lift) ?_ | refine zB (hNE e.event) ?_ | refine zB (CP.pu (hNK zNd)) ?_ | refine zB (CP.pu (hNo zNd)) ?_ | refine zB (hNPl e.plan) ?_ | fail)
    all_goals (conv => whnf)
    all_goals try first
      | (exfalso; omega)
      | exact yL (by simp only [teOk, wOkS, wOk, pwOk1, pwOk2, pwOk3, pwOk4, pwOk5, pb_iff, n1, n2] at *; grind)
  · have hD : teD e = .int .i64 e.kind :: (teD e).tail := rfl
    rw [hk] at hD
    rw [hD]
    refine CP.enter hf rfl rfl rfl ?_
    repeat' ((conv => whnf); first | refine zG (fun _ => ?_) (fun _ => ?_) | refine zF (fun _ => ?_) (fun _ => ?_) | refine zO (fun _ => ?_) (fun _ => ?_) | refine zB (hPw e.power) ?_ | refine zB (hNP e.power) ?_ | refine zB (hNo e.lift) ?_ | refine zB (hP e.plan hs.plan) ?_ | refine zB (hNE e.event) ?_ | refine zB (hNK e.form) ?_ | refine zB (CP.pu (hNPl zP)) ?_ | fail)
    all_goals (conv => whnf)
    all_goals try first
      | (exfalso; omega)
      | exact yL (by simp only [teOk, wOkS, wOk, pwOk1, pwOk2, pwOk3, pwOk4, pwOk5, pb_iff, n1, n2] at *; grind)
  · have hD : teD e = .int .i64 e.kind :: (teD e).tail := rfl
    rw [hk] at hD
    rw [hD]
    refine CP.enter hf rfl rfl rfl ?_
    repeat' ((conv => whnf); first | refine zG (fun _ => ?_) (fun _ => ?_) | refine zF (fun _ => ?_) (fun _ => ?_) | refine zO (fun _ => ?_) (fun _ => ?_) | refine zB (hPw e.power) ?_ | refine zB (hN _) ?_ | refine zB (CP.pu (hNums [e.many])) ?_ | refine zB (hNo e.lift) ?_ | refine zB (hNE e.event) ?_ | refine zB (hNK e.form) ?_ | refine zB (hNPl e.plan) ?_ | fail)
    all_goals (conv => whnf)
    all_goals try first
      | (exfalso; omega)
      | exact yL (by simp only [teOk, wOkS, wOk, pwOk1, pwOk2, pwOk3, pwOk4, pwOk5, pb_iff, n1, n2] at *; grind)
  · refine CP.enter hf rfl rfl rfl ?_
    repeat' ((conv => whnf); first | (exfalso; omega) | refine zG (fun _ => ?_) (fun _ => ?_) | refine zB (hPw e.power) ?_ | fail)
    all_goals (conv => whnf)
    all_goals try first
      | (exfalso; omega)
      | exact fin_n fun h => hk h.1
end Go.Ab
namespace Go.Ab
open Go Go.RowKit
theorem step_below {L : Lk} {g : Gh} {nb : Nat} {bx : List Bx} {rl : List (Nat × Nat)} {w w' : World} (sh : RelSh L g nb bx rl w) (hb : Below w.heap.size w w') :
    Step g rl w g rl w' ∧ RelSh L g nb bx rl w' := by
  have hlt : ∀ b, g.mrk b ≠ 0 → b < w.heap.size := fun b h => by
    by_cases hh : b < w.heap.size
    · exact hh
    · exact absurd (sh.fresh b (by omega)) h
  have st : Step g rl w g rl w' := by
    refine ⟨hb.os, hb.tape, hb.output, hb.size, fun _ => Nat.le_refl _, fun b o ho => ?_, fun _ _ h => h, fun k n e h => ⟨n, h, Nat.le_refl _, fun _ => rfl⟩, fun b h => ?_, fun _ h => .inl h, fun _ h => .inl h, fun b h _ _ => hb.block b h, fun _ _ _ _ => rfl⟩
    · have h1 := hb.block b (hlt b (by omega))
      simp only [World.cell?, h1]
    · have h1 := hb.block b h
      simp only [World.shape?, h1]
  refine ⟨st, sh.nb, sh.bkl, fun i x blk hx hk => ?_, sh.inj, sh.rwl, fun k n e h => ?_, sh.rinj, fun b h => sh.fresh b (by have := hb.size; omega), fun i => (sh.glob i).keep st⟩
  · obtain ⟨h1, h2⟩ := sh.box i x blk hx hk
    exact ⟨h1, h2.keep st (hb.block blk (sh.bk_lt (List.mem_iff_getElem?.2 ⟨i, hk⟩)))⟩
  · obtain ⟨h1, h2⟩ := sh.row k n e h
    refine ⟨h1, ?_⟩
    rcases h2 with h2 | ⟨blk, arr, t, fr, q1, q2, q3⟩
    · exact .inl h2
    · exact .inr ⟨blk, arr, t, fr, q1, by rw [hb.block blk (lt_of_heap q2)]; exact q2, q3⟩
theorem CP.ofCalls {L : Lk} {f : Nat} {args : List AV} {v : DV} {cv : Value} (hv : ∀ mk w, DR mk w v cv)
    (h : ∀ (g : Gh) (nb : Nat) (bx : List Bx) (rl : List (Nat × Nat)) (w : World) (cargs : Array Value), RelSh L g nb bx rl w → cargs.size = args.length →
      (∀ (j : Nat) (x : AV) (y : Value), args[j]? = some x → cargs[j]? = some y → VR L g rl w x y) → Calls L.P (L.fn f) cargs w fun e w' => e = .returned cv ∧ Below w.heap.size w w') : CP L f args (.d v) := by
  intro nb bx rl g w cargs sh hcl hargs
  refine (h g nb bx rl w cargs sh hcl hargs).mono ?_
  rintro e w' ⟨rfl, hb⟩
  obtain ⟨h1, h2⟩ := step_below sh hb
  exact ⟨cv, g, rfl, h1, h2, .d _ _ (hv _ _)⟩
theorem args2 {c : Array Value} {x y : Value} (hn : c.size = 2) (h0 : ∀ v, c[0]? = some v → v = x) (h1 : ∀ v, c[1]? = some v → v = y) : c = #[x, y] := by
  apply Array.ext
  · simp [hn]
  · intro i a b
    have hi : i < 2 := by omega
    match i, hi with
    | 0, _ => exact h0 _ (Array.getElem?_eq_getElem a)
    | 1, _ => exact h1 _ (Array.getElem?_eq_getElem a)
theorem args1 {c : Array Value} {x : Value} (hn : c.size = 1) (h0 : ∀ v, c[0]? = some v → v = x) : c = #[x] := by
  apply Array.ext
  · simp [hn]
  · intro i a b
    have hi : i < 1 := by omega
    match i, hi with
    | 0, _ => exact h0 _ (Array.getElem?_eq_getElem a)
theorem glob_cells {L : Lk} {g : Gh} {nb : Nat} {bx : List Bx} {rl : List (Nat × Nat)} {w : World} (sh : RelSh L g nb bx rl w) (i : Nat) (hn : L.gl i ≠ []) :
    ∃ arr t fr, w.heap[L.gn i]? = some (.cells arr t fr) ∧ arr.size = (L.gl i).length ∧ ∀ (j : Nat) (x : DV) (y : Value), (L.gl i)[j]? = some x → arr[j]? = some y → DR g.mrk w x y := by
  obtain ⟨h1, h2⟩ := sh.glob i
  obtain ⟨t, ht⟩ := h2 hn
  generalize hp : (Value.pointer (some ⟨L.gn i, 0, none⟩)) = pv at h1
  cases h1 with
  | elt cs blk off c q1 q2 q3 =>
  cases hp
  simp only [World.shape?] at ht
  split at ht
  · rename_i cc elem fr hh
    simp only [Option.some.injEq, Prod.mk.injEq] at ht
    refine ⟨cc, _, fr, hh, ht.2, fun j x y hx hy => ?_⟩
    have hl := (List.getElem?_eq_some_iff.1 hx).1
    have h3 := q2 j hl
    have h4 := q3 j x hx
    simp only [World.cell?, hh, Nat.zero_add] at h3
    simp at h3
    rw [h3] at hy
    cases hy
    exact h4
  · cases ht
theorem glob_ints {L : Lk} {g : Gh} {nb : Nat} {bx : List Bx} {rl : List (Nat × Nat)} {w : World} (sh : RelSh L g nb bx rl w) (i : Nat) {k : IntKind} {zs : List Int} (hn : zs ≠ []) (hg : L.gl i = zs.map (.int k)) :
    ∃ t fr, w.heap[L.gn i]? = some (.cells (zs.map (Value.int k)).toArray t fr) := by
  obtain ⟨arr, t, fr, h1, h2, h3⟩ := glob_cells sh i (by rw [hg]; simpa using hn)
  refine ⟨t, fr, ?_⟩
  rw [h1]
  have : arr = (zs.map (Value.int k)).toArray := by
    rw [hg] at h2 h3
    apply Array.ext
    · simpa using h2
    · intro j a b
      have hj : j < zs.length := by simpa [h2] using a
      have h4 := h3 j (.int k zs[j]) arr[j] (by simp [hj]) (Array.getElem?_eq_getElem a)
      have h5 : ∀ v, DR g.mrk w (.int k zs[j]) v → v = .int k zs[j] := by intro v hv; cases hv; rfl
      rw [h5 _ h4]; simp
  rw [this]
end Go.Ab
namespace Go.Ab
open Go
theorem decDigits_N (n : Nat) : Lib.decDigits n = decN n := by
  induction n using Nat.strongRecOn with
  | ind n ih =>
    rw [Lib.decDigits, decN]
    split
    · rfl
    · rw [ih (n / 10) (by omega)]
theorem itoa_dec (n : Int) : Lib.itoa n = dec n := by
  unfold Lib.itoa dec
  rw [decDigits_N, decDigits_N]
theorem indexByte_ix (c : UInt8) : ∀ s : Str, Lib.indexByte s c = ixB s c
  | [] => by simp [Lib.indexByte, ixB, cl]
  | b :: r => by
    have ih := indexByte_ix c r
    by_cases h : b = c
    · subst h; simp [Lib.indexByte, ixB, cl]
    · have e : cl (b :: r) c = cl r c + 1 := by simp [cl, h]
      have hb : (b == c) = false := by simpa using h
      rw [Lib.indexByte, hb, ih]
      simp only [Bool.false_eq_true, if_false]
      unfold ixB
      rw [e]
      simp only [List.length_cons]
      by_cases h2 : cl r c < r.length
      · have h3 : cl r c + 1 < r.length + 1 := by omega
        have h4 : ((cl r c : Int) == -1) = false := by simp
        rw [if_pos h2, if_pos h3, h4]; simp
      · have h3 : ¬ cl r c + 1 < r.length + 1 := by omega
        rw [if_neg h2, if_neg h3]; simp
theorem indexAny_ix (s : Str) (c : UInt8) : Lib.indexAny s [c] = ixB s c := by rw [Lib.indexAny_one, indexByte_ix]
theorem has_pb (s : Str) (c : UInt8) : decide (0 ≤ Lib.indexByte s c) = pb (c ∈ s) := by
  rw [← Lib.contains_iff_indexByte]
  cases h : s.contains c with
  | true => exact (pb_t (by simpa using h)).symm
  | false => exact (pb_f (by simpa using h)).symm
end Go.Ab
