import Derived.Test.YtkablfpnjfbhfaaGreatDoorX13
namespace Go.Ab
open Go
set_option maxHeartbeats 4000000
attribute [local irreducible] Need IdxK FinK NextK CKs CQs ltS
def aloneS (n : Nd) : Prop :=
  (1 ≤ n.sort ∧ n.sort ≤ 43) ∧
  (n.sort = 24 → n.num = 0 ∧ n.text = [] ∧ rise n.names ∧ n.names.length = n.kids.length ∧ [101, 110, 100] ∉ n.names) ∧
  (n.sort ≠ 24 → n.kids.length = (kidsOf n.sort).length ∧ (n.names.length : Int) = nNames n.sort ∧ namesOk n ∧ loadOk n)
theorem aloneS_iff {a : Bool} {n : Nd} : aloneN a n ↔ aloneS n ∧ (a = true ↔ 36 ≤ n.sort) := by
  unfold aloneN aloneS
  constructor
  · rintro ⟨h1, h2, h3⟩; exact ⟨⟨h1, h3⟩, h2⟩
  · rintro ⟨⟨h1, h3⟩, h2⟩; exact ⟨h1, h2, h3⟩
theorem namesOk0 {n : Nd} (h : n.names.length = 0) : namesOk n := fun i h1 h2 => by omega
theorem namesOk1 {n : Nd} (h : n.names.length = 1) : namesOk n ↔ nameOk (n.names.getD 0 []) ∧ (binds n.sort → varOk (n.names.getD 0 [])) := by
  have e : ∀ i (h : i < n.names.length), n.names[i] = n.names.getD i [] := fun i h => by simp [h]
  constructor
  · intro k; have := k 0 (by omega) (by omega); rw [e 0 (by omega)] at this; exact ⟨this.1, this.2.1⟩
  · rintro ⟨k1, k2⟩ i h1 h2
    have : i = 0 := by omega
    subst this
    rw [e 0 (by omega)]
    exact ⟨k1, k2, fun h => by omega⟩
theorem namesOk2 {n : Nd} (h : n.names.length = 2) : namesOk n ↔ (nameOk (n.names.getD 0 []) ∧ (binds n.sort → varOk (n.names.getD 0 []))) ∧ nameOk (n.names.getD 1 []) ∧ (binds n.sort → varOk (n.names.getD 1 [])) ∧ n.names.getD 1 [] ≠ n.names.getD 0 [] := by
  have e : ∀ i (h : i < n.names.length), n.names[i] = n.names.getD i [] := fun i h => by simp [h]
  constructor
  · intro k
    have k0 := k 0 (by omega) (by omega)
    have k1 := k 1 (by omega) (by omega)
    simp only [e] at k0 k1
    exact ⟨⟨k0.1, k0.2.1⟩, k1.1, k1.2.1, k1.2.2 (by omega)⟩
  · rintro ⟨⟨k1, k2⟩, k3, k4, k5⟩ i h1 h2
    have : i = 0 ∨ i = 1 := by omega
    rcases this with rfl | rfl
    · simp only [e]; exact ⟨k1, k2, fun h => by omega⟩
    · simp only [e]; exact ⟨k3, k4, fun _ => k5⟩
theorem idx_g0 {xs : List Str} {K : List DV → Prop} (h : 0 < xs.length) (k : K [.str (xs.getD 0 [])]) : IdxK (encS xs) 0 K := yE (i := 0) h (by have : xs[0] = xs.getD 0 [] := (by simp [h]); rw [this]; exact k)
theorem idx_g1 {xs : List Str} {K : List DV → Prop} (h : 1 < xs.length) (k : K [.str (xs.getD 1 [])]) : IdxK (encS xs) 1 K := yE (i := 1) h (by have : xs[1] = xs.getD 1 [] := (by simp [h]); rw [this]; exact k)
theorem txK_ne {k : Nd} : txK k ≠ [] := fun e => by
  have := txK_eq k
  rw [e] at this
  repeat' split at this
  all_goals simp at this
structure ShC (L : Lk) : Prop where
  lit : ∀ op : Int, CP L 252 [.d (.int .i64 op)] (.d (.bool (pb (1 ≤ op ∧ op ≤ 3))))
  row : ∀ op : Int, CP L 254 [.d (.int .i64 op)] (.tup [.agg [.d (.str (opWord op)), .d (.str (opShape op))], .d (.bool (pb (5 ≤ op ∧ op ≤ 43)))])
  nm : K_name L 89
  vr : K_var L 365
  kr : K_KindRead L 138
  has : ∀ (s : Str) (c : UInt8), CP L 367 [.d (.str s), .d (.str [c])] (.d (.bool (pb (c ∈ s))))
  nok : ∀ op n : Int, CP L 368 [.d (.int .i64 op), .d (.int .i64 n)] (.d (.bool (pb (if op = 37 then 0 ≤ n ∧ n ≤ 99 else 1 ≤ n ∧ n ≤ 12))))
def K_sh (L : Lk) (n : Nd) : Prop := n.kids.length ≤ 4000000 → n.names.length ≤ 4000000 → CP L 316 [aT n] (.d (.bool (pb (aloneS n))))
theorem k_shape_5 {L : Lk} (hf : FnR L 316 c316) (C : ShC L) (num : Int) (tx : Str) (ns : List Str) (ks : List Nd) : K_sh L (.mk 5 num tx ns ks) := by
  intro hk1 hk2
  change ks.length ≤ 4000000 at hk1
  change ns.length ≤ 4000000 at hk2
  have hS : aloneS (.mk 5 num tx ns ks) ↔ ks.length = 0 ∧ ns.length = 0 ∧ (True) ∧ num = 0 ∧ ∃ k, KindOK k ∧ txK k = tx := by
    have e1 : aloneS (.mk 5 num tx ns ks) ↔ (ks.length = 0 ∧ (ns.length : Int) = 0 ∧ namesOk (.mk 5 num tx ns ks) ∧ loadOk (.mk 5 num tx ns ks)) :=
      ⟨fun h => h.2.2 (show (5 : Int) ≠ 24 by decide), fun h => ⟨⟨show (1 : Int) ≤ 5 by decide, show (5 : Int) ≤ 43 by decide⟩, fun h => absurd (show (5 : Int) = 24 from h) (by decide), fun _ => h⟩⟩
    have e2 : loadOk (.mk 5 num tx ns ks) ↔ num = 0 ∧ ∃ k, KindOK k ∧ txK k = tx := by
      unfold loadOk
      dsimp only [Nd.sort, Nd.num, Nd.text]
      simp
    rw [e1, e2]
    exact ⟨fun ⟨h1, h2, _, h4⟩ => ⟨h1, by omega, trivial, h4⟩, fun ⟨h1, h2, _, h4⟩ => ⟨h1, by omega, namesOk0 (n := .mk 5 num tx ns ks) h2, h4⟩⟩
  have hL := C.lit 5
  rw [pb_f (by decide)] at hL
  have hR := C.row 5
  rw [pb_t (by decide)] at hR
  have hc1 := C.has (opShape 5) 75
  rw [pb_t (by decide)] at hc1
  have hc2 := C.has (opShape 5) 35
  rw [pb_f (by decide)] at hc2
  have hne : (∃ k, KindOK k ∧ txK k = tx) → tx ≠ [] := fun ⟨k, _, h⟩ => by rw [← h]; exact txK_ne
  have hvn : ∀ s, varOk s → nameOk s := fun s h => h.1
  have hnm := C.nm
  have hvr := C.vr
  have hkr := C.kr
  have hnok := C.nok 5 num
  change CP L 316 [.agg [.d (.int .i64 5), .d (.int .i64 num), .d (.str tx), .d (.sl (encS ns)), .d (.sl (ks.map cT))]] _
  generalize aloneS (.mk 5 num tx ns ks) = P at hS ⊢
  refine CP.enter hf rfl rfl rfl ?_
  repeat' ((conv => whnf); first | refine zG (fun _ => ?_) (fun _ => ?_) | refine zH ?_ | (rw [zY]; intro _) | (rw [zX]; intro _) | refine zB (hL) ?_ | refine zB (hR) ?_ | refine next_y _ rfl (by decide) ?_ | refine next_n rfl ?_ | refine LW.unfold ?_ | refine zB (hc1) ?_ | refine zB (hc2) ?_ | refine Or.elim (Classical.em (∃ k, KindOK k ∧ txK k = tx)) (fun hE => zB ((hkr _).1 hE.choose hE.choose_spec.1 hE.choose_spec.2) ?_) (fun hE => zB ((hkr _).2 hE) ?_) | fail)
  all_goals (conv => whnf)
  all_goals first
    | exact fin_n fun h => by have h := hS.1 h; first | omega | grind
    | exact yL (by rw [hS]; (try simp only [ieq_iff]); first | omega | grind)
theorem k_shape_6 {L : Lk} (hf : FnR L 316 c316) (C : ShC L) (num : Int) (tx : Str) (ns : List Str) (ks : List Nd) : K_sh L (.mk 6 num tx ns ks) := by
  intro hk1 hk2
  change ks.length ≤ 4000000 at hk1
  change ns.length ≤ 4000000 at hk2
  have hS : aloneS (.mk 6 num tx ns ks) ↔ ks.length = 0 ∧ ns.length = 0 ∧ (True) ∧ num = 0 ∧ ∃ k, KindOK k ∧ txK k = tx := by
    have e1 : aloneS (.mk 6 num tx ns ks) ↔ (ks.length = 0 ∧ (ns.length : Int) = 0 ∧ namesOk (.mk 6 num tx ns ks) ∧ loadOk (.mk 6 num tx ns ks)) :=
      ⟨fun h => h.2.2 (show (6 : Int) ≠ 24 by decide), fun h => ⟨⟨show (1 : Int) ≤ 6 by decide, show (6 : Int) ≤ 43 by decide⟩, fun h => absurd (show (6 : Int) = 24 from h) (by decide), fun _ => h⟩⟩
    have e2 : loadOk (.mk 6 num tx ns ks) ↔ num = 0 ∧ ∃ k, KindOK k ∧ txK k = tx := by
      unfold loadOk
      dsimp only [Nd.sort, Nd.num, Nd.text]
      simp
    rw [e1, e2]
    exact ⟨fun ⟨h1, h2, _, h4⟩ => ⟨h1, by omega, trivial, h4⟩, fun ⟨h1, h2, _, h4⟩ => ⟨h1, by omega, namesOk0 (n := .mk 6 num tx ns ks) h2, h4⟩⟩
  have hL := C.lit 6
  rw [pb_f (by decide)] at hL
  have hR := C.row 6
  rw [pb_t (by decide)] at hR
  have hc1 := C.has (opShape 6) 75
  rw [pb_t (by decide)] at hc1
  have hc2 := C.has (opShape 6) 35
  rw [pb_f (by decide)] at hc2
  have hne : (∃ k, KindOK k ∧ txK k = tx) → tx ≠ [] := fun ⟨k, _, h⟩ => by rw [← h]; exact txK_ne
  have hvn : ∀ s, varOk s → nameOk s := fun s h => h.1
  have hnm := C.nm
  have hvr := C.vr
  have hkr := C.kr
  have hnok := C.nok 6 num
  change CP L 316 [.agg [.d (.int .i64 6), .d (.int .i64 num), .d (.str tx), .d (.sl (encS ns)), .d (.sl (ks.map cT))]] _
  generalize aloneS (.mk 6 num tx ns ks) = P at hS ⊢
  refine CP.enter hf rfl rfl rfl ?_
  repeat' ((conv => whnf); first | refine zG (fun _ => ?_) (fun _ => ?_) | refine zH ?_ | (rw [zY]; intro _) | (rw [zX]; intro _) | refine zB (hL) ?_ | refine zB (hR) ?_ | refine next_y _ rfl (by decide) ?_ | refine next_n rfl ?_ | refine LW.unfold ?_ | refine zB (hc1) ?_ | refine zB (hc2) ?_ | refine Or.elim (Classical.em (∃ k, KindOK k ∧ txK k = tx)) (fun hE => zB ((hkr _).1 hE.choose hE.choose_spec.1 hE.choose_spec.2) ?_) (fun hE => zB ((hkr _).2 hE) ?_) | fail)
  all_goals (conv => whnf)
  all_goals first
    | exact fin_n fun h => by have h := hS.1 h; first | omega | grind
    | exact yL (by rw [hS]; (try simp only [ieq_iff]); first | omega | grind)
theorem k_shape_7 {L : Lk} (hf : FnR L 316 c316) (C : ShC L) (num : Int) (tx : Str) (ns : List Str) (ks : List Nd) : K_sh L (.mk 7 num tx ns ks) := by
  intro hk1 hk2
  change ks.length ≤ 4000000 at hk1
  change ns.length ≤ 4000000 at hk2
  have hS : aloneS (.mk 7 num tx ns ks) ↔ ks.length = 1 ∧ ns.length = 0 ∧ (True) ∧ num = 0 ∧ tx = [] := by
    have e1 : aloneS (.mk 7 num tx ns ks) ↔ (ks.length = 1 ∧ (ns.length : Int) = 0 ∧ namesOk (.mk 7 num tx ns ks) ∧ loadOk (.mk 7 num tx ns ks)) :=
      ⟨fun h => h.2.2 (show (7 : Int) ≠ 24 by decide), fun h => ⟨⟨show (1 : Int) ≤ 7 by decide, show (7 : Int) ≤ 43 by decide⟩, fun h => absurd (show (7 : Int) = 24 from h) (by decide), fun _ => h⟩⟩
    have e2 : loadOk (.mk 7 num tx ns ks) ↔ num = 0 ∧ tx = [] := by
      unfold loadOk
      dsimp only [Nd.sort, Nd.num, Nd.text]
      simp
    rw [e1, e2]
    exact ⟨fun ⟨h1, h2, _, h4⟩ => ⟨h1, by omega, trivial, h4⟩, fun ⟨h1, h2, _, h4⟩ => ⟨h1, by omega, namesOk0 (n := .mk 7 num tx ns ks) h2, h4⟩⟩
  have hL := C.lit 7
  rw [pb_f (by decide)] at hL
  have hR := C.row 7
  rw [pb_t (by decide)] at hR
  have hc1 := C.has (opShape 7) 75
  rw [pb_f (by decide)] at hc1
  have hc2 := C.has (opShape 7) 35
  rw [pb_f (by decide)] at hc2
  have hne : (∃ k, KindOK k ∧ txK k = tx) → tx ≠ [] := fun ⟨k, _, h⟩ => by rw [← h]; exact txK_ne
  have hvn : ∀ s, varOk s → nameOk s := fun s h => h.1
  have hnm := C.nm
  have hvr := C.vr
  have hkr := C.kr
  have hnok := C.nok 7 num
  change CP L 316 [.agg [.d (.int .i64 7), .d (.int .i64 num), .d (.str tx), .d (.sl (encS ns)), .d (.sl (ks.map cT))]] _
  generalize aloneS (.mk 7 num tx ns ks) = P at hS ⊢
  refine CP.enter hf rfl rfl rfl ?_
  repeat' ((conv => whnf); first | (rw [wrap64 (by omega)]) | refine zG (fun _ => ?_) (fun _ => ?_) | refine zF (fun _ => ?_) (fun _ => ?_) | refine zH ?_ | (rw [zY]; intro _) | (rw [zX]; intro _) | refine zB (hL) ?_ | refine zB (hR) ?_ | refine next_y _ rfl (by decide) ?_ | refine next_n rfl ?_ | refine LW.unfold ?_ | refine zB (hc1) ?_ | refine zB (hc2) ?_ | refine Or.elim (Classical.em (∃ k, KindOK k ∧ txK k = tx)) (fun hE => zB ((hkr _).1 hE.choose hE.choose_spec.1 hE.choose_spec.2) ?_) (fun hE => zB ((hkr _).2 hE) ?_) | fail)
  all_goals (conv => whnf)
  all_goals first
    | exact fin_n fun h => by have h := hS.1 h; first | omega | grind
    | exact yL (by rw [hS]; (try simp only [ieq_iff]); first | omega | grind)
theorem k_shape_8 {L : Lk} (hf : FnR L 316 c316) (C : ShC L) (num : Int) (tx : Str) (ns : List Str) (ks : List Nd) : K_sh L (.mk 8 num tx ns ks) := by
  intro hk1 hk2
  change ks.length ≤ 4000000 at hk1
  change ns.length ≤ 4000000 at hk2
  have hS : aloneS (.mk 8 num tx ns ks) ↔ ks.length = 1 ∧ ns.length = 0 ∧ (True) ∧ num = 0 ∧ tx = [] := by
    have e1 : aloneS (.mk 8 num tx ns ks) ↔ (ks.length = 1 ∧ (ns.length : Int) = 0 ∧ namesOk (.mk 8 num tx ns ks) ∧ loadOk (.mk 8 num tx ns ks)) :=
      ⟨fun h => h.2.2 (show (8 : Int) ≠ 24 by decide), fun h => ⟨⟨show (1 : Int) ≤ 8 by decide, show (8 : Int) ≤ 43 by decide⟩, fun h => absurd (show (8 : Int) = 24 from h) (by decide), fun _ => h⟩⟩
    have e2 : loadOk (.mk 8 num tx ns ks) ↔ num = 0 ∧ tx = [] := by
      unfold loadOk
      dsimp only [Nd.sort, Nd.num, Nd.text]
      simp
    rw [e1, e2]
    exact ⟨fun ⟨h1, h2, _, h4⟩ => ⟨h1, by omega, trivial, h4⟩, fun ⟨h1, h2, _, h4⟩ => ⟨h1, by omega, namesOk0 (n := .mk 8 num tx ns ks) h2, h4⟩⟩
  have hL := C.lit 8
  rw [pb_f (by decide)] at hL
  have hR := C.row 8
  rw [pb_t (by decide)] at hR
  have hc1 := C.has (opShape 8) 75
  rw [pb_f (by decide)] at hc1
  have hc2 := C.has (opShape 8) 35
  rw [pb_f (by decide)] at hc2
  have hne : (∃ k, KindOK k ∧ txK k = tx) → tx ≠ [] := fun ⟨k, _, h⟩ => by rw [← h]; exact txK_ne
  have hvn : ∀ s, varOk s → nameOk s := fun s h => h.1
  have hnm := C.nm
  have hvr := C.vr
  have hkr := C.kr
  have hnok := C.nok 8 num
  change CP L 316 [.agg [.d (.int .i64 8), .d (.int .i64 num), .d (.str tx), .d (.sl (encS ns)), .d (.sl (ks.map cT))]] _
  generalize aloneS (.mk 8 num tx ns ks) = P at hS ⊢
  refine CP.enter hf rfl rfl rfl ?_
  repeat' ((conv => whnf); first | (rw [wrap64 (by omega)]) | refine zG (fun _ => ?_) (fun _ => ?_) | refine zF (fun _ => ?_) (fun _ => ?_) | refine zH ?_ | (rw [zY]; intro _) | (rw [zX]; intro _) | refine zB (hL) ?_ | refine zB (hR) ?_ | refine next_y _ rfl (by decide) ?_ | refine next_n rfl ?_ | refine LW.unfold ?_ | refine zB (hc1) ?_ | refine zB (hc2) ?_ | refine Or.elim (Classical.em (∃ k, KindOK k ∧ txK k = tx)) (fun hE => zB ((hkr _).1 hE.choose hE.choose_spec.1 hE.choose_spec.2) ?_) (fun hE => zB ((hkr _).2 hE) ?_) | fail)
  all_goals (conv => whnf)
  all_goals first
    | exact fin_n fun h => by have h := hS.1 h; first | omega | grind
    | exact yL (by rw [hS]; (try simp only [ieq_iff]); first | omega | grind)
theorem k_shape_9 {L : Lk} (hf : FnR L 316 c316) (C : ShC L) (num : Int) (tx : Str) (ns : List Str) (ks : List Nd) : K_sh L (.mk 9 num tx ns ks) := by
  intro hk1 hk2
  change ks.length ≤ 4000000 at hk1
  change ns.length ≤ 4000000 at hk2
  have hS : aloneS (.mk 9 num tx ns ks) ↔ ks.length = 2 ∧ ns.length = 0 ∧ (True) ∧ num = 0 ∧ tx = [] := by
    have e1 : aloneS (.mk 9 num tx ns ks) ↔ (ks.length = 2 ∧ (ns.length : Int) = 0 ∧ namesOk (.mk 9 num tx ns ks) ∧ loadOk (.mk 9 num tx ns ks)) :=
      ⟨fun h => h.2.2 (show (9 : Int) ≠ 24 by decide), fun h => ⟨⟨show (1 : Int) ≤ 9 by decide, show (9 : Int) ≤ 43 by decide⟩, fun h => absurd (show (9 : Int) = 24 from h) (by decide), fun _ => h⟩⟩
    have e2 : loadOk (.mk 9 num tx ns ks) ↔ num = 0 ∧ tx = [] := by
      unfold loadOk
      dsimp only [Nd.sort, Nd.num, Nd.text]
      simp
    rw [e1, e2]
    exact ⟨fun ⟨h1, h2, _, h4⟩ => ⟨h1, by omega, trivial, h4⟩, fun ⟨h1, h2, _, h4⟩ => ⟨h1, by omega, namesOk0 (n := .mk 9 num tx ns ks) h2, h4⟩⟩
  have hL := C.lit 9
  rw [pb_f (by decide)] at hL
  have hR := C.row 9
  rw [pb_t (by decide)] at hR
  have hc1 := C.has (opShape 9) 75
  rw [pb_f (by decide)] at hc1
  have hc2 := C.has (opShape 9) 35
  rw [pb_f (by decide)] at hc2
  have hne : (∃ k, KindOK k ∧ txK k = tx) → tx ≠ [] := fun ⟨k, _, h⟩ => by rw [← h]; exact txK_ne
  have hvn : ∀ s, varOk s → nameOk s := fun s h => h.1
  have hnm := C.nm
  have hvr := C.vr
  have hkr := C.kr
  have hnok := C.nok 9 num
  change CP L 316 [.agg [.d (.int .i64 9), .d (.int .i64 num), .d (.str tx), .d (.sl (encS ns)), .d (.sl (ks.map cT))]] _
  generalize aloneS (.mk 9 num tx ns ks) = P at hS ⊢
  refine CP.enter hf rfl rfl rfl ?_
  repeat' ((conv => whnf); first | (rw [wrap64 (by omega)]) | refine zG (fun _ => ?_) (fun _ => ?_) | refine zF (fun _ => ?_) (fun _ => ?_) | refine zH ?_ | (rw [zY]; intro _) | (rw [zX]; intro _) | refine zB (hL) ?_ | refine zB (hR) ?_ | refine next_y _ rfl (by decide) ?_ | refine next_n rfl ?_ | refine LW.unfold ?_ | refine zB (hc1) ?_ | refine zB (hc2) ?_ | refine Or.elim (Classical.em (∃ k, KindOK k ∧ txK k = tx)) (fun hE => zB ((hkr _).1 hE.choose hE.choose_spec.1 hE.choose_spec.2) ?_) (fun hE => zB ((hkr _).2 hE) ?_) | fail)
  all_goals (conv => whnf)
  all_goals first
    | exact fin_n fun h => by have h := hS.1 h; first | omega | grind
    | exact yL (by rw [hS]; (try simp only [ieq_iff]); first | omega | grind)
theorem k_shape_10 {L : Lk} (hf : FnR L 316 c316) (C : ShC L) (num : Int) (tx : Str) (ns : List Str) (ks : List Nd) : K_sh L (.mk 10 num tx ns ks) := by
  intro hk1 hk2
  change ks.length ≤ 4000000 at hk1
  change ns.length ≤ 4000000 at hk2
  have hS : aloneS (.mk 10 num tx ns ks) ↔ ks.length = 2 ∧ ns.length = 0 ∧ (True) ∧ num = 0 ∧ tx = [] := by
    have e1 : aloneS (.mk 10 num tx ns ks) ↔ (ks.length = 2 ∧ (ns.length : Int) = 0 ∧ namesOk (.mk 10 num tx ns ks) ∧ loadOk (.mk 10 num tx ns ks)) :=
      ⟨fun h => h.2.2 (show (10 : Int) ≠ 24 by decide), fun h => ⟨⟨show (1 : Int) ≤ 10 by decide, show (10 : Int) ≤ 43 by decide⟩, fun h => absurd (show (10 : Int) = 24 from h) (by decide), fun _ => h⟩⟩
    have e2 : loadOk (.mk 10 num tx ns ks) ↔ num = 0 ∧ tx = [] := by
      unfold loadOk
      dsimp only [Nd.sort, Nd.num, Nd.text]
      simp
    rw [e1, e2]
    exact ⟨fun ⟨h1, h2, _, h4⟩ => ⟨h1, by omega, trivial, h4⟩, fun ⟨h1, h2, _, h4⟩ => ⟨h1, by omega, namesOk0 (n := .mk 10 num tx ns ks) h2, h4⟩⟩
  have hL := C.lit 10
  rw [pb_f (by decide)] at hL
  have hR := C.row 10
  rw [pb_t (by decide)] at hR
  have hc1 := C.has (opShape 10) 75
  rw [pb_f (by decide)] at hc1
  have hc2 := C.has (opShape 10) 35
  rw [pb_f (by decide)] at hc2
  have hne : (∃ k, KindOK k ∧ txK k = tx) → tx ≠ [] := fun ⟨k, _, h⟩ => by rw [← h]; exact txK_ne
  have hvn : ∀ s, varOk s → nameOk s := fun s h => h.1
  have hnm := C.nm
  have hvr := C.vr
  have hkr := C.kr
  have hnok := C.nok 10 num
  change CP L 316 [.agg [.d (.int .i64 10), .d (.int .i64 num), .d (.str tx), .d (.sl (encS ns)), .d (.sl (ks.map cT))]] _
  generalize aloneS (.mk 10 num tx ns ks) = P at hS ⊢
  refine CP.enter hf rfl rfl rfl ?_
  repeat' ((conv => whnf); first | (rw [wrap64 (by omega)]) | refine zG (fun _ => ?_) (fun _ => ?_) | refine zF (fun _ => ?_) (fun _ => ?_) | refine zH ?_ | (rw [zY]; intro _) | (rw [zX]; intro _) | refine zB (hL) ?_ | refine zB (hR) ?_ | refine next_y _ rfl (by decide) ?_ | refine next_n rfl ?_ | refine LW.unfold ?_ | refine zB (hc1) ?_ | refine zB (hc2) ?_ | refine Or.elim (Classical.em (∃ k, KindOK k ∧ txK k = tx)) (fun hE => zB ((hkr _).1 hE.choose hE.choose_spec.1 hE.choose_spec.2) ?_) (fun hE => zB ((hkr _).2 hE) ?_) | fail)
  all_goals (conv => whnf)
  all_goals first
    | exact fin_n fun h => by have h := hS.1 h; first | omega | grind
    | exact yL (by rw [hS]; (try simp only [ieq_iff]); first | omega | grind)
theorem k_shape_11 {L : Lk} (hf : FnR L 316 c316) (C : ShC L) (num : Int) (tx : Str) (ns : List Str) (ks : List Nd) : K_sh L (.mk 11 num tx ns ks) := by
  intro hk1 hk2
  change ks.length ≤ 4000000 at hk1
  change ns.length ≤ 4000000 at hk2
  have hS : aloneS (.mk 11 num tx ns ks) ↔ ks.length = 2 ∧ ns.length = 0 ∧ (True) ∧ num = 0 ∧ tx = [] := by
    have e1 : aloneS (.mk 11 num tx ns ks) ↔ (ks.length = 2 ∧ (ns.length : Int) = 0 ∧ namesOk (.mk 11 num tx ns ks) ∧ loadOk (.mk 11 num tx ns ks)) :=
      ⟨fun h => h.2.2 (show (11 : Int) ≠ 24 by decide), fun h => ⟨⟨show (1 : Int) ≤ 11 by decide, show (11 : Int) ≤ 43 by decide⟩, fun h => absurd (show (11 : Int) = 24 from h) (by decide), fun _ => h⟩⟩
    have e2 : loadOk (.mk 11 num tx ns ks) ↔ num = 0 ∧ tx = [] := by
      unfold loadOk
      dsimp only [Nd.sort, Nd.num, Nd.text]
      simp
    rw [e1, e2]
    exact ⟨fun ⟨h1, h2, _, h4⟩ => ⟨h1, by omega, trivial, h4⟩, fun ⟨h1, h2, _, h4⟩ => ⟨h1, by omega, namesOk0 (n := .mk 11 num tx ns ks) h2, h4⟩⟩
  have hL := C.lit 11
  rw [pb_f (by decide)] at hL
  have hR := C.row 11
  rw [pb_t (by decide)] at hR
  have hc1 := C.has (opShape 11) 75
  rw [pb_f (by decide)] at hc1
  have hc2 := C.has (opShape 11) 35
  rw [pb_f (by decide)] at hc2
  have hne : (∃ k, KindOK k ∧ txK k = tx) → tx ≠ [] := fun ⟨k, _, h⟩ => by rw [← h]; exact txK_ne
  have hvn : ∀ s, varOk s → nameOk s := fun s h => h.1
  have hnm := C.nm
  have hvr := C.vr
  have hkr := C.kr
  have hnok := C.nok 11 num
  change CP L 316 [.agg [.d (.int .i64 11), .d (.int .i64 num), .d (.str tx), .d (.sl (encS ns)), .d (.sl (ks.map cT))]] _
  generalize aloneS (.mk 11 num tx ns ks) = P at hS ⊢
  refine CP.enter hf rfl rfl rfl ?_
  repeat' ((conv => whnf); first | (rw [wrap64 (by omega)]) | refine zG (fun _ => ?_) (fun _ => ?_) | refine zF (fun _ => ?_) (fun _ => ?_) | refine zH ?_ | (rw [zY]; intro _) | (rw [zX]; intro _) | refine zB (hL) ?_ | refine zB (hR) ?_ | refine next_y _ rfl (by decide) ?_ | refine next_n rfl ?_ | refine LW.unfold ?_ | refine zB (hc1) ?_ | refine zB (hc2) ?_ | refine Or.elim (Classical.em (∃ k, KindOK k ∧ txK k = tx)) (fun hE => zB ((hkr _).1 hE.choose hE.choose_spec.1 hE.choose_spec.2) ?_) (fun hE => zB ((hkr _).2 hE) ?_) | fail)
  all_goals (conv => whnf)
  all_goals first
    | exact fin_n fun h => by have h := hS.1 h; first | omega | grind
    | exact yL (by rw [hS]; (try simp only [ieq_iff]); first | omega | grind)
theorem k_shape_12 {L : Lk} (hf : FnR L 316 c316) (C : ShC L) (num : Int) (tx : Str) (ns : List Str) (ks : List Nd) : K_sh L (.mk 12 num tx ns ks) := by
  intro hk1 hk2
  change ks.length ≤ 4000000 at hk1
  change ns.length ≤ 4000000 at hk2
  have hS : aloneS (.mk 12 num tx ns ks) ↔ ks.length = 2 ∧ ns.length = 0 ∧ (True) ∧ num = 0 ∧ tx = [] := by
    have e1 : aloneS (.mk 12 num tx ns ks) ↔ (ks.length = 2 ∧ (ns.length : Int) = 0 ∧ namesOk (.mk 12 num tx ns ks) ∧ loadOk (.mk 12 num tx ns ks)) :=
      ⟨fun h => h.2.2 (show (12 : Int) ≠ 24 by decide), fun h => ⟨⟨show (1 : Int) ≤ 12 by decide, show (12 : Int) ≤ 43 by decide⟩, fun h => absurd (show (12 : Int) = 24 from h) (by decide), fun _ => h⟩⟩
    have e2 : loadOk (.mk 12 num tx ns ks) ↔ num = 0 ∧ tx = [] := by
      unfold loadOk
      dsimp only [Nd.sort, Nd.num, Nd.text]
      simp
    rw [e1, e2]
    exact ⟨fun ⟨h1, h2, _, h4⟩ => ⟨h1, by omega, trivial, h4⟩, fun ⟨h1, h2, _, h4⟩ => ⟨h1, by omega, namesOk0 (n := .mk 12 num tx ns ks) h2, h4⟩⟩
  have hL := C.lit 12
  rw [pb_f (by decide)] at hL
  have hR := C.row 12
  rw [pb_t (by decide)] at hR
  have hc1 := C.has (opShape 12) 75
  rw [pb_f (by decide)] at hc1
  have hc2 := C.has (opShape 12) 35
  rw [pb_f (by decide)] at hc2
  have hne : (∃ k, KindOK k ∧ txK k = tx) → tx ≠ [] := fun ⟨k, _, h⟩ => by rw [← h]; exact txK_ne
  have hvn : ∀ s, varOk s → nameOk s := fun s h => h.1
  have hnm := C.nm
  have hvr := C.vr
  have hkr := C.kr
  have hnok := C.nok 12 num
  change CP L 316 [.agg [.d (.int .i64 12), .d (.int .i64 num), .d (.str tx), .d (.sl (encS ns)), .d (.sl (ks.map cT))]] _
  generalize aloneS (.mk 12 num tx ns ks) = P at hS ⊢
  refine CP.enter hf rfl rfl rfl ?_
  repeat' ((conv => whnf); first | (rw [wrap64 (by omega)]) | refine zG (fun _ => ?_) (fun _ => ?_) | refine zF (fun _ => ?_) (fun _ => ?_) | refine zH ?_ | (rw [zY]; intro _) | (rw [zX]; intro _) | refine zB (hL) ?_ | refine zB (hR) ?_ | refine next_y _ rfl (by decide) ?_ | refine next_n rfl ?_ | refine LW.unfold ?_ | refine zB (hc1) ?_ | refine zB (hc2) ?_ | refine Or.elim (Classical.em (∃ k, KindOK k ∧ txK k = tx)) (fun hE => zB ((hkr _).1 hE.choose hE.choose_spec.1 hE.choose_spec.2) ?_) (fun hE => zB ((hkr _).2 hE) ?_) | fail)
  all_goals (conv => whnf)
  all_goals first
    | exact fin_n fun h => by have h := hS.1 h; first | omega | grind
    | exact yL (by rw [hS]; (try simp only [ieq_iff]); first | omega | grind)
theorem k_shape_13 {L : Lk} (hf : FnR L 316 c316) (C : ShC L) (num : Int) (tx : Str) (ns : List Str) (ks : List Nd) : K_sh L (.mk 13 num tx ns ks) := by
  intro hk1 hk2
  change ks.length ≤ 4000000 at hk1
  change ns.length ≤ 4000000 at hk2
  have hS : aloneS (.mk 13 num tx ns ks) ↔ ks.length = 2 ∧ ns.length = 0 ∧ (True) ∧ num = 0 ∧ tx = [] := by
    have e1 : aloneS (.mk 13 num tx ns ks) ↔ (ks.length = 2 ∧ (ns.length : Int) = 0 ∧ namesOk (.mk 13 num tx ns ks) ∧ loadOk (.mk 13 num tx ns ks)) :=
      ⟨fun h => h.2.2 (show (13 : Int) ≠ 24 by decide), fun h => ⟨⟨show (1 : Int) ≤ 13 by decide, show (13 : Int) ≤ 43 by decide⟩, fun h => absurd (show (13 : Int) = 24 from h) (by decide), fun _ => h⟩⟩
    have e2 : loadOk (.mk 13 num tx ns ks) ↔ num = 0 ∧ tx = [] := by
      unfold loadOk
      dsimp only [Nd.sort, Nd.num, Nd.text]
      simp
    rw [e1, e2]
    exact ⟨fun ⟨h1, h2, _, h4⟩ => ⟨h1, by omega, trivial, h4⟩, fun ⟨h1, h2, _, h4⟩ => ⟨h1, by omega, namesOk0 (n := .mk 13 num tx ns ks) h2, h4⟩⟩
  have hL := C.lit 13
  rw [pb_f (by decide)] at hL
  have hR := C.row 13
  rw [pb_t (by decide)] at hR
  have hc1 := C.has (opShape 13) 75
  rw [pb_f (by decide)] at hc1
  have hc2 := C.has (opShape 13) 35
  rw [pb_f (by decide)] at hc2
  have hne : (∃ k, KindOK k ∧ txK k = tx) → tx ≠ [] := fun ⟨k, _, h⟩ => by rw [← h]; exact txK_ne
  have hvn : ∀ s, varOk s → nameOk s := fun s h => h.1
  have hnm := C.nm
  have hvr := C.vr
  have hkr := C.kr
  have hnok := C.nok 13 num
  change CP L 316 [.agg [.d (.int .i64 13), .d (.int .i64 num), .d (.str tx), .d (.sl (encS ns)), .d (.sl (ks.map cT))]] _
  generalize aloneS (.mk 13 num tx ns ks) = P at hS ⊢
  refine CP.enter hf rfl rfl rfl ?_
  repeat' ((conv => whnf); first | (rw [wrap64 (by omega)]) | refine zG (fun _ => ?_) (fun _ => ?_) | refine zF (fun _ => ?_) (fun _ => ?_) | refine zH ?_ | (rw [zY]; intro _) | (rw [zX]; intro _) | refine zB (hL) ?_ | refine zB (hR) ?_ | refine next_y _ rfl (by decide) ?_ | refine next_n rfl ?_ | refine LW.unfold ?_ | refine zB (hc1) ?_ | refine zB (hc2) ?_ | refine Or.elim (Classical.em (∃ k, KindOK k ∧ txK k = tx)) (fun hE => zB ((hkr _).1 hE.choose hE.choose_spec.1 hE.choose_spec.2) ?_) (fun hE => zB ((hkr _).2 hE) ?_) | fail)
  all_goals (conv => whnf)
  all_goals first
    | exact fin_n fun h => by have h := hS.1 h; first | omega | grind
    | exact yL (by rw [hS]; (try simp only [ieq_iff]); first | omega | grind)
theorem k_shape_14 {L : Lk} (hf : FnR L 316 c316) (C : ShC L) (num : Int) (tx : Str) (ns : List Str) (ks : List Nd) : K_sh L (.mk 14 num tx ns ks) := by
  intro hk1 hk2
  change ks.length ≤ 4000000 at hk1
  change ns.length ≤ 4000000 at hk2
  have hS : aloneS (.mk 14 num tx ns ks) ↔ ks.length = 2 ∧ ns.length = 0 ∧ (True) ∧ num = 0 ∧ tx = [] := by
    have e1 : aloneS (.mk 14 num tx ns ks) ↔ (ks.length = 2 ∧ (ns.length : Int) = 0 ∧ namesOk (.mk 14 num tx ns ks) ∧ loadOk (.mk 14 num tx ns ks)) :=
      ⟨fun h => h.2.2 (show (14 : Int) ≠ 24 by decide), fun h => ⟨⟨show (1 : Int) ≤ 14 by decide, show (14 : Int) ≤ 43 by decide⟩, fun h => absurd (show (14 : Int) = 24 from h) (by decide), fun _ => h⟩⟩
    have e2 : loadOk (.mk 14 num tx ns ks) ↔ num = 0 ∧ tx = [] := by
      unfold loadOk
      dsimp only [Nd.sort, Nd.num, Nd.text]
      simp
    rw [e1, e2]
    exact ⟨fun ⟨h1, h2, _, h4⟩ => ⟨h1, by omega, trivial, h4⟩, fun ⟨h1, h2, _, h4⟩ => ⟨h1, by omega, namesOk0 (n := .mk 14 num tx ns ks) h2, h4⟩⟩
  have hL := C.lit 14
  rw [pb_f (by decide)] at hL
  have hR := C.row 14
  rw [pb_t (by decide)] at hR
  have hc1 := C.has (opShape 14) 75
  rw [pb_f (by decide)] at hc1
  have hc2 := C.has (opShape 14) 35
  rw [pb_f (by decide)] at hc2
  have hne : (∃ k, KindOK k ∧ txK k = tx) → tx ≠ [] := fun ⟨k, _, h⟩ => by rw [← h]; exact txK_ne
  have hvn : ∀ s, varOk s → nameOk s := fun s h => h.1
  have hnm := C.nm
  have hvr := C.vr
  have hkr := C.kr
  have hnok := C.nok 14 num
  change CP L 316 [.agg [.d (.int .i64 14), .d (.int .i64 num), .d (.str tx), .d (.sl (encS ns)), .d (.sl (ks.map cT))]] _
  generalize aloneS (.mk 14 num tx ns ks) = P at hS ⊢
  refine CP.enter hf rfl rfl rfl ?_
  repeat' ((conv => whnf); first | (rw [wrap64 (by omega)]) | refine zG (fun _ => ?_) (fun _ => ?_) | refine zF (fun _ => ?_) (fun _ => ?_) | refine zH ?_ | (rw [zY]; intro _) | (rw [zX]; intro _) | refine zB (hL) ?_ | refine zB (hR) ?_ | refine next_y _ rfl (by decide) ?_ | refine next_n rfl ?_ | refine LW.unfold ?_ | refine zB (hc1) ?_ | refine zB (hc2) ?_ | refine Or.elim (Classical.em (∃ k, KindOK k ∧ txK k = tx)) (fun hE => zB ((hkr _).1 hE.choose hE.choose_spec.1 hE.choose_spec.2) ?_) (fun hE => zB ((hkr _).2 hE) ?_) | fail)
  all_goals (conv => whnf)
  all_goals first
    | exact fin_n fun h => by have h := hS.1 h; first | omega | grind
    | exact yL (by rw [hS]; (try simp only [ieq_iff]); first | omega | grind)
theorem k_shape_15 {L : Lk} (hf : FnR L 316 c316) (C : ShC L) (num : Int) (tx : Str) (ns : List Str) (ks : List Nd) : K_sh L (.mk 15 num tx ns ks) := by
  intro hk1 hk2
  change ks.length ≤ 4000000 at hk1
  change ns.length ≤ 4000000 at hk2
  have hS : aloneS (.mk 15 num tx ns ks) ↔ ks.length = 2 ∧ ns.length = 0 ∧ (True) ∧ num = 0 ∧ tx = [] := by
    have e1 : aloneS (.mk 15 num tx ns ks) ↔ (ks.length = 2 ∧ (ns.length : Int) = 0 ∧ namesOk (.mk 15 num tx ns ks) ∧ loadOk (.mk 15 num tx ns ks)) :=
      ⟨fun h => h.2.2 (show (15 : Int) ≠ 24 by decide), fun h => ⟨⟨show (1 : Int) ≤ 15 by decide, show (15 : Int) ≤ 43 by decide⟩, fun h => absurd (show (15 : Int) = 24 from h) (by decide), fun _ => h⟩⟩
    have e2 : loadOk (.mk 15 num tx ns ks) ↔ num = 0 ∧ tx = [] := by
      unfold loadOk
      dsimp only [Nd.sort, Nd.num, Nd.text]
      simp
    rw [e1, e2]
    exact ⟨fun ⟨h1, h2, _, h4⟩ => ⟨h1, by omega, trivial, h4⟩, fun ⟨h1, h2, _, h4⟩ => ⟨h1, by omega, namesOk0 (n := .mk 15 num tx ns ks) h2, h4⟩⟩
  have hL := C.lit 15
  rw [pb_f (by decide)] at hL
  have hR := C.row 15
  rw [pb_t (by decide)] at hR
  have hc1 := C.has (opShape 15) 75
  rw [pb_f (by decide)] at hc1
  have hc2 := C.has (opShape 15) 35
  rw [pb_f (by decide)] at hc2
  have hne : (∃ k, KindOK k ∧ txK k = tx) → tx ≠ [] := fun ⟨k, _, h⟩ => by rw [← h]; exact txK_ne
  have hvn : ∀ s, varOk s → nameOk s := fun s h => h.1
  have hnm := C.nm
  have hvr := C.vr
  have hkr := C.kr
  have hnok := C.nok 15 num
  change CP L 316 [.agg [.d (.int .i64 15), .d (.int .i64 num), .d (.str tx), .d (.sl (encS ns)), .d (.sl (ks.map cT))]] _
  generalize aloneS (.mk 15 num tx ns ks) = P at hS ⊢
  refine CP.enter hf rfl rfl rfl ?_
  repeat' ((conv => whnf); first | (rw [wrap64 (by omega)]) | refine zG (fun _ => ?_) (fun _ => ?_) | refine zF (fun _ => ?_) (fun _ => ?_) | refine zH ?_ | (rw [zY]; intro _) | (rw [zX]; intro _) | refine zB (hL) ?_ | refine zB (hR) ?_ | refine next_y _ rfl (by decide) ?_ | refine next_n rfl ?_ | refine LW.unfold ?_ | refine zB (hc1) ?_ | refine zB (hc2) ?_ | refine Or.elim (Classical.em (∃ k, KindOK k ∧ txK k = tx)) (fun hE => zB ((hkr _).1 hE.choose hE.choose_spec.1 hE.choose_spec.2) ?_) (fun hE => zB ((hkr _).2 hE) ?_) | fail)
  all_goals (conv => whnf)
  all_goals first
    | exact fin_n fun h => by have h := hS.1 h; first | omega | grind
    | exact yL (by rw [hS]; (try simp only [ieq_iff]); first | omega | grind)
theorem k_shape_16 {L : Lk} (hf : FnR L 316 c316) (C : ShC L) (num : Int) (tx : Str) (ns : List Str) (ks : List Nd) : K_sh L (.mk 16 num tx ns ks) := by
  intro hk1 hk2
  change ks.length ≤ 4000000 at hk1
  change ns.length ≤ 4000000 at hk2
  have hS : aloneS (.mk 16 num tx ns ks) ↔ ks.length = 2 ∧ ns.length = 0 ∧ (True) ∧ num = 0 ∧ tx = [] := by
    have e1 : aloneS (.mk 16 num tx ns ks) ↔ (ks.length = 2 ∧ (ns.length : Int) = 0 ∧ namesOk (.mk 16 num tx ns ks) ∧ loadOk (.mk 16 num tx ns ks)) :=
      ⟨fun h => h.2.2 (show (16 : Int) ≠ 24 by decide), fun h => ⟨⟨show (1 : Int) ≤ 16 by decide, show (16 : Int) ≤ 43 by decide⟩, fun h => absurd (show (16 : Int) = 24 from h) (by decide), fun _ => h⟩⟩
    have e2 : loadOk (.mk 16 num tx ns ks) ↔ num = 0 ∧ tx = [] := by
      unfold loadOk
      dsimp only [Nd.sort, Nd.num, Nd.text]
      simp
    rw [e1, e2]
    exact ⟨fun ⟨h1, h2, _, h4⟩ => ⟨h1, by omega, trivial, h4⟩, fun ⟨h1, h2, _, h4⟩ => ⟨h1, by omega, namesOk0 (n := .mk 16 num tx ns ks) h2, h4⟩⟩
  have hL := C.lit 16
  rw [pb_f (by decide)] at hL
  have hR := C.row 16
  rw [pb_t (by decide)] at hR
  have hc1 := C.has (opShape 16) 75
  rw [pb_f (by decide)] at hc1
  have hc2 := C.has (opShape 16) 35
  rw [pb_f (by decide)] at hc2
  have hne : (∃ k, KindOK k ∧ txK k = tx) → tx ≠ [] := fun ⟨k, _, h⟩ => by rw [← h]; exact txK_ne
  have hvn : ∀ s, varOk s → nameOk s := fun s h => h.1
  have hnm := C.nm
  have hvr := C.vr
  have hkr := C.kr
  have hnok := C.nok 16 num
  change CP L 316 [.agg [.d (.int .i64 16), .d (.int .i64 num), .d (.str tx), .d (.sl (encS ns)), .d (.sl (ks.map cT))]] _
  generalize aloneS (.mk 16 num tx ns ks) = P at hS ⊢
  refine CP.enter hf rfl rfl rfl ?_
  repeat' ((conv => whnf); first | (rw [wrap64 (by omega)]) | refine zG (fun _ => ?_) (fun _ => ?_) | refine zF (fun _ => ?_) (fun _ => ?_) | refine zH ?_ | (rw [zY]; intro _) | (rw [zX]; intro _) | refine zB (hL) ?_ | refine zB (hR) ?_ | refine next_y _ rfl (by decide) ?_ | refine next_n rfl ?_ | refine LW.unfold ?_ | refine zB (hc1) ?_ | refine zB (hc2) ?_ | refine Or.elim (Classical.em (∃ k, KindOK k ∧ txK k = tx)) (fun hE => zB ((hkr _).1 hE.choose hE.choose_spec.1 hE.choose_spec.2) ?_) (fun hE => zB ((hkr _).2 hE) ?_) | fail)
  all_goals (conv => whnf)
  all_goals first
    | exact fin_n fun h => by have h := hS.1 h; first | omega | grind
    | exact yL (by rw [hS]; (try simp only [ieq_iff]); first | omega | grind)
theorem k_shape_17 {L : Lk} (hf : FnR L 316 c316) (C : ShC L) (num : Int) (tx : Str) (ns : List Str) (ks : List Nd) : K_sh L (.mk 17 num tx ns ks) := by
  intro hk1 hk2
  change ks.length ≤ 4000000 at hk1
  change ns.length ≤ 4000000 at hk2
  have hS : aloneS (.mk 17 num tx ns ks) ↔ ks.length = 2 ∧ ns.length = 0 ∧ (True) ∧ num = 0 ∧ tx = [] := by
    have e1 : aloneS (.mk 17 num tx ns ks) ↔ (ks.length = 2 ∧ (ns.length : Int) = 0 ∧ namesOk (.mk 17 num tx ns ks) ∧ loadOk (.mk 17 num tx ns ks)) :=
      ⟨fun h => h.2.2 (show (17 : Int) ≠ 24 by decide), fun h => ⟨⟨show (1 : Int) ≤ 17 by decide, show (17 : Int) ≤ 43 by decide⟩, fun h => absurd (show (17 : Int) = 24 from h) (by decide), fun _ => h⟩⟩
    have e2 : loadOk (.mk 17 num tx ns ks) ↔ num = 0 ∧ tx = [] := by
      unfold loadOk
      dsimp only [Nd.sort, Nd.num, Nd.text]
      simp
    rw [e1, e2]
    exact ⟨fun ⟨h1, h2, _, h4⟩ => ⟨h1, by omega, trivial, h4⟩, fun ⟨h1, h2, _, h4⟩ => ⟨h1, by omega, namesOk0 (n := .mk 17 num tx ns ks) h2, h4⟩⟩
  have hL := C.lit 17
  rw [pb_f (by decide)] at hL
  have hR := C.row 17
  rw [pb_t (by decide)] at hR
  have hc1 := C.has (opShape 17) 75
  rw [pb_f (by decide)] at hc1
  have hc2 := C.has (opShape 17) 35
  rw [pb_f (by decide)] at hc2
  have hne : (∃ k, KindOK k ∧ txK k = tx) → tx ≠ [] := fun ⟨k, _, h⟩ => by rw [← h]; exact txK_ne
  have hvn : ∀ s, varOk s → nameOk s := fun s h => h.1
  have hnm := C.nm
  have hvr := C.vr
  have hkr := C.kr
  have hnok := C.nok 17 num
  change CP L 316 [.agg [.d (.int .i64 17), .d (.int .i64 num), .d (.str tx), .d (.sl (encS ns)), .d (.sl (ks.map cT))]] _
  generalize aloneS (.mk 17 num tx ns ks) = P at hS ⊢
  refine CP.enter hf rfl rfl rfl ?_
  repeat' ((conv => whnf); first | (rw [wrap64 (by omega)]) | refine zG (fun _ => ?_) (fun _ => ?_) | refine zF (fun _ => ?_) (fun _ => ?_) | refine zH ?_ | (rw [zY]; intro _) | (rw [zX]; intro _) | refine zB (hL) ?_ | refine zB (hR) ?_ | refine next_y _ rfl (by decide) ?_ | refine next_n rfl ?_ | refine LW.unfold ?_ | refine zB (hc1) ?_ | refine zB (hc2) ?_ | refine Or.elim (Classical.em (∃ k, KindOK k ∧ txK k = tx)) (fun hE => zB ((hkr _).1 hE.choose hE.choose_spec.1 hE.choose_spec.2) ?_) (fun hE => zB ((hkr _).2 hE) ?_) | fail)
  all_goals (conv => whnf)
  all_goals first
    | exact fin_n fun h => by have h := hS.1 h; first | omega | grind
    | exact yL (by rw [hS]; (try simp only [ieq_iff]); first | omega | grind)
theorem k_shape_18 {L : Lk} (hf : FnR L 316 c316) (C : ShC L) (num : Int) (tx : Str) (ns : List Str) (ks : List Nd) : K_sh L (.mk 18 num tx ns ks) := by
  intro hk1 hk2
  change ks.length ≤ 4000000 at hk1
  change ns.length ≤ 4000000 at hk2
  have hS : aloneS (.mk 18 num tx ns ks) ↔ ks.length = 1 ∧ ns.length = 0 ∧ (True) ∧ num = 0 ∧ tx = [] := by
    have e1 : aloneS (.mk 18 num tx ns ks) ↔ (ks.length = 1 ∧ (ns.length : Int) = 0 ∧ namesOk (.mk 18 num tx ns ks) ∧ loadOk (.mk 18 num tx ns ks)) :=
      ⟨fun h => h.2.2 (show (18 : Int) ≠ 24 by decide), fun h => ⟨⟨show (1 : Int) ≤ 18 by decide, show (18 : Int) ≤ 43 by decide⟩, fun h => absurd (show (18 : Int) = 24 from h) (by decide), fun _ => h⟩⟩
    have e2 : loadOk (.mk 18 num tx ns ks) ↔ num = 0 ∧ tx = [] := by
      unfold loadOk
      dsimp only [Nd.sort, Nd.num, Nd.text]
      simp
    rw [e1, e2]
    exact ⟨fun ⟨h1, h2, _, h4⟩ => ⟨h1, by omega, trivial, h4⟩, fun ⟨h1, h2, _, h4⟩ => ⟨h1, by omega, namesOk0 (n := .mk 18 num tx ns ks) h2, h4⟩⟩
  have hL := C.lit 18
  rw [pb_f (by decide)] at hL
  have hR := C.row 18
  rw [pb_t (by decide)] at hR
  have hc1 := C.has (opShape 18) 75
  rw [pb_f (by decide)] at hc1
  have hc2 := C.has (opShape 18) 35
  rw [pb_f (by decide)] at hc2
  have hne : (∃ k, KindOK k ∧ txK k = tx) → tx ≠ [] := fun ⟨k, _, h⟩ => by rw [← h]; exact txK_ne
  have hvn : ∀ s, varOk s → nameOk s := fun s h => h.1
  have hnm := C.nm
  have hvr := C.vr
  have hkr := C.kr
  have hnok := C.nok 18 num
  change CP L 316 [.agg [.d (.int .i64 18), .d (.int .i64 num), .d (.str tx), .d (.sl (encS ns)), .d (.sl (ks.map cT))]] _
  generalize aloneS (.mk 18 num tx ns ks) = P at hS ⊢
  refine CP.enter hf rfl rfl rfl ?_
  repeat' ((conv => whnf); first | (rw [wrap64 (by omega)]) | refine zG (fun _ => ?_) (fun _ => ?_) | refine zF (fun _ => ?_) (fun _ => ?_) | refine zH ?_ | (rw [zY]; intro _) | (rw [zX]; intro _) | refine zB (hL) ?_ | refine zB (hR) ?_ | refine next_y _ rfl (by decide) ?_ | refine next_n rfl ?_ | refine LW.unfold ?_ | refine zB (hc1) ?_ | refine zB (hc2) ?_ | refine Or.elim (Classical.em (∃ k, KindOK k ∧ txK k = tx)) (fun hE => zB ((hkr _).1 hE.choose hE.choose_spec.1 hE.choose_spec.2) ?_) (fun hE => zB ((hkr _).2 hE) ?_) | fail)
  all_goals (conv => whnf)
  all_goals first
    | exact fin_n fun h => by have h := hS.1 h; first | omega | grind
    | exact yL (by rw [hS]; (try simp only [ieq_iff]); first | omega | grind)
theorem k_shape_19 {L : Lk} (hf : FnR L 316 c316) (C : ShC L) (num : Int) (tx : Str) (ns : List Str) (ks : List Nd) : K_sh L (.mk 19 num tx ns ks) := by
  intro hk1 hk2
  change ks.length ≤ 4000000 at hk1
  change ns.length ≤ 4000000 at hk2
  have hS : aloneS (.mk 19 num tx ns ks) ↔ ks.length = 3 ∧ ns.length = 0 ∧ (True) ∧ num = 0 ∧ tx = [] := by
    have e1 : aloneS (.mk 19 num tx ns ks) ↔ (ks.length = 3 ∧ (ns.length : Int) = 0 ∧ namesOk (.mk 19 num tx ns ks) ∧ loadOk (.mk 19 num tx ns ks)) :=
      ⟨fun h => h.2.2 (show (19 : Int) ≠ 24 by decide), fun h => ⟨⟨show (1 : Int) ≤ 19 by decide, show (19 : Int) ≤ 43 by decide⟩, fun h => absurd (show (19 : Int) = 24 from h) (by decide), fun _ => h⟩⟩
    have e2 : loadOk (.mk 19 num tx ns ks) ↔ num = 0 ∧ tx = [] := by
      unfold loadOk
      dsimp only [Nd.sort, Nd.num, Nd.text]
      simp
    rw [e1, e2]
    exact ⟨fun ⟨h1, h2, _, h4⟩ => ⟨h1, by omega, trivial, h4⟩, fun ⟨h1, h2, _, h4⟩ => ⟨h1, by omega, namesOk0 (n := .mk 19 num tx ns ks) h2, h4⟩⟩
  have hL := C.lit 19
  rw [pb_f (by decide)] at hL
  have hR := C.row 19
  rw [pb_t (by decide)] at hR
  have hc1 := C.has (opShape 19) 75
  rw [pb_f (by decide)] at hc1
  have hc2 := C.has (opShape 19) 35
  rw [pb_f (by decide)] at hc2
  have hne : (∃ k, KindOK k ∧ txK k = tx) → tx ≠ [] := fun ⟨k, _, h⟩ => by rw [← h]; exact txK_ne
  have hvn : ∀ s, varOk s → nameOk s := fun s h => h.1
  have hnm := C.nm
  have hvr := C.vr
  have hkr := C.kr
  have hnok := C.nok 19 num
  change CP L 316 [.agg [.d (.int .i64 19), .d (.int .i64 num), .d (.str tx), .d (.sl (encS ns)), .d (.sl (ks.map cT))]] _
  generalize aloneS (.mk 19 num tx ns ks) = P at hS ⊢
  refine CP.enter hf rfl rfl rfl ?_
  repeat' ((conv => whnf); first | (rw [wrap64 (by omega)]) | refine zG (fun _ => ?_) (fun _ => ?_) | refine zF (fun _ => ?_) (fun _ => ?_) | refine zH ?_ | (rw [zY]; intro _) | (rw [zX]; intro _) | refine zB (hL) ?_ | refine zB (hR) ?_ | refine next_y _ rfl (by decide) ?_ | refine next_n rfl ?_ | refine LW.unfold ?_ | refine zB (hc1) ?_ | refine zB (hc2) ?_ | refine Or.elim (Classical.em (∃ k, KindOK k ∧ txK k = tx)) (fun hE => zB ((hkr _).1 hE.choose hE.choose_spec.1 hE.choose_spec.2) ?_) (fun hE => zB ((hkr _).2 hE) ?_) | fail)
  all_goals (conv => whnf)
  all_goals first
    | exact fin_n fun h => by have h := hS.1 h; first | omega | grind
    | exact yL (by rw [hS]; (try simp only [ieq_iff]); first | omega | grind)
theorem k_shape_20 {L : Lk} (hf : FnR L 316 c316) (C : ShC L) (num : Int) (tx : Str) (ns : List Str) (ks : List Nd) : K_sh L (.mk 20 num tx ns ks) := by
  intro hk1 hk2
  change ks.length ≤ 4000000 at hk1
  change ns.length ≤ 4000000 at hk2
  have hS : aloneS (.mk 20 num tx ns ks) ↔ ks.length = 2 ∧ ns.length = 1 ∧ (varOk (ns.getD 0 [])) ∧ num = 0 ∧ tx = [] := by
    have e1 : aloneS (.mk 20 num tx ns ks) ↔ (ks.length = 2 ∧ (ns.length : Int) = 1 ∧ namesOk (.mk 20 num tx ns ks) ∧ loadOk (.mk 20 num tx ns ks)) :=
      ⟨fun h => h.2.2 (show (20 : Int) ≠ 24 by decide), fun h => ⟨⟨show (1 : Int) ≤ 20 by decide, show (20 : Int) ≤ 43 by decide⟩, fun h => absurd (show (20 : Int) = 24 from h) (by decide), fun _ => h⟩⟩
    have e2 : loadOk (.mk 20 num tx ns ks) ↔ num = 0 ∧ tx = [] := by
      unfold loadOk
      dsimp only [Nd.sort, Nd.num, Nd.text]
      simp
    rw [e1, e2]
    exact ⟨fun ⟨h1, h2, h3, h4⟩ => ⟨h1, by omega, ((namesOk1 (n := .mk 20 num tx ns ks) (by show ns.length = 1; omega)).1 h3).2 (show binds (20 : Int) by unfold binds; decide), h4⟩, fun ⟨h1, h2, h3, h4⟩ => ⟨h1, by omega, (namesOk1 (n := .mk 20 num tx ns ks) h2).2 ⟨h3.1, fun _ => h3⟩, h4⟩⟩
  have hL := C.lit 20
  rw [pb_f (by decide)] at hL
  have hR := C.row 20
  rw [pb_t (by decide)] at hR
  have hc1 := C.has (opShape 20) 75
  rw [pb_f (by decide)] at hc1
  have hc2 := C.has (opShape 20) 35
  rw [pb_f (by decide)] at hc2
  have hne : (∃ k, KindOK k ∧ txK k = tx) → tx ≠ [] := fun ⟨k, _, h⟩ => by rw [← h]; exact txK_ne
  have hvn : ∀ s, varOk s → nameOk s := fun s h => h.1
  have hnm := C.nm
  have hvr := C.vr
  have hkr := C.kr
  have hnok := C.nok 20 num
  change CP L 316 [.agg [.d (.int .i64 20), .d (.int .i64 num), .d (.str tx), .d (.sl (encS ns)), .d (.sl (ks.map cT))]] _
  generalize aloneS (.mk 20 num tx ns ks) = P at hS ⊢
  refine CP.enter hf rfl rfl rfl ?_
  repeat' ((conv => whnf); first | (rw [wrap64 (by omega)]) | refine idx_g0 (by omega) ?_ | refine zM (fun _ => ?_) (fun _ => ?_) | refine zG (fun _ => ?_) (fun _ => ?_) | refine zF (fun _ => ?_) (fun _ => ?_) | refine zO (fun _ => ?_) (fun _ => ?_) | refine zH ?_ | (rw [zY]; intro _) | (rw [zX]; intro _) | refine zA (by first | omega | exact rfl | decide) ?_ | refine zB (hL) ?_ | refine zB (hR) ?_ | refine next_y _ rfl (by decide) ?_ | refine next_n rfl ?_ | refine LW.unfold ?_ | refine zB (hnm _) ?_ | refine zB (hvr _) ?_ | refine zB (hc1) ?_ | refine zB (hc2) ?_ | refine Or.elim (Classical.em (∃ k, KindOK k ∧ txK k = tx)) (fun hE => zB ((hkr _).1 hE.choose hE.choose_spec.1 hE.choose_spec.2) ?_) (fun hE => zB ((hkr _).2 hE) ?_) | fail)
  all_goals (conv => whnf)
  all_goals first
    | exact fin_n fun h => by have h := hS.1 h; first | omega | grind
    | exact yL (by rw [hS]; (try simp only [ieq_iff]); first | omega | grind)
theorem k_shape_21 {L : Lk} (hf : FnR L 316 c316) (C : ShC L) (num : Int) (tx : Str) (ns : List Str) (ks : List Nd) : K_sh L (.mk 21 num tx ns ks) := by
  intro hk1 hk2
  change ks.length ≤ 4000000 at hk1
  change ns.length ≤ 4000000 at hk2
  have hS : aloneS (.mk 21 num tx ns ks) ↔ ks.length = 1 ∧ ns.length = 1 ∧ (nameOk (ns.getD 0 [])) ∧ num = 0 ∧ tx = [] := by
    have e1 : aloneS (.mk 21 num tx ns ks) ↔ (ks.length = 1 ∧ (ns.length : Int) = 1 ∧ namesOk (.mk 21 num tx ns ks) ∧ loadOk (.mk 21 num tx ns ks)) :=
      ⟨fun h => h.2.2 (show (21 : Int) ≠ 24 by decide), fun h => ⟨⟨show (1 : Int) ≤ 21 by decide, show (21 : Int) ≤ 43 by decide⟩, fun h => absurd (show (21 : Int) = 24 from h) (by decide), fun _ => h⟩⟩
    have e2 : loadOk (.mk 21 num tx ns ks) ↔ num = 0 ∧ tx = [] := by
      unfold loadOk
      dsimp only [Nd.sort, Nd.num, Nd.text]
      simp
    rw [e1, e2]
    exact ⟨fun ⟨h1, h2, h3, h4⟩ => ⟨h1, by omega, ((namesOk1 (n := .mk 21 num tx ns ks) (by show ns.length = 1; omega)).1 h3).1, h4⟩, fun ⟨h1, h2, h3, h4⟩ => ⟨h1, by omega, (namesOk1 (n := .mk 21 num tx ns ks) h2).2 ⟨h3, fun hb => absurd hb (show ¬ binds (21 : Int) by unfold binds; decide)⟩, h4⟩⟩
  have hL := C.lit 21
  rw [pb_f (by decide)] at hL
  have hR := C.row 21
  rw [pb_t (by decide)] at hR
  have hc1 := C.has (opShape 21) 75
  rw [pb_f (by decide)] at hc1
  have hc2 := C.has (opShape 21) 35
  rw [pb_f (by decide)] at hc2
  have hne : (∃ k, KindOK k ∧ txK k = tx) → tx ≠ [] := fun ⟨k, _, h⟩ => by rw [← h]; exact txK_ne
  have hvn : ∀ s, varOk s → nameOk s := fun s h => h.1
  have hnm := C.nm
  have hvr := C.vr
  have hkr := C.kr
  have hnok := C.nok 21 num
  change CP L 316 [.agg [.d (.int .i64 21), .d (.int .i64 num), .d (.str tx), .d (.sl (encS ns)), .d (.sl (ks.map cT))]] _
  generalize aloneS (.mk 21 num tx ns ks) = P at hS ⊢
  refine CP.enter hf rfl rfl rfl ?_
  repeat' ((conv => whnf); first | (rw [wrap64 (by omega)]) | refine idx_g0 (by omega) ?_ | refine zM (fun _ => ?_) (fun _ => ?_) | refine zG (fun _ => ?_) (fun _ => ?_) | refine zF (fun _ => ?_) (fun _ => ?_) | refine zO (fun _ => ?_) (fun _ => ?_) | refine zH ?_ | (rw [zY]; intro _) | (rw [zX]; intro _) | refine zA (by first | omega | exact rfl | decide) ?_ | refine zB (hL) ?_ | refine zB (hR) ?_ | refine next_y _ rfl (by decide) ?_ | refine next_n rfl ?_ | refine LW.unfold ?_ | refine zB (hnm _) ?_ | refine zB (hc1) ?_ | refine zB (hc2) ?_ | refine Or.elim (Classical.em (∃ k, KindOK k ∧ txK k = tx)) (fun hE => zB ((hkr _).1 hE.choose hE.choose_spec.1 hE.choose_spec.2) ?_) (fun hE => zB ((hkr _).2 hE) ?_) | fail)
  all_goals (conv => whnf)
  all_goals first
    | exact fin_n fun h => by have h := hS.1 h; first | omega | grind
    | exact yL (by rw [hS]; (try simp only [ieq_iff]); first | omega | grind)
end Go.Ab
