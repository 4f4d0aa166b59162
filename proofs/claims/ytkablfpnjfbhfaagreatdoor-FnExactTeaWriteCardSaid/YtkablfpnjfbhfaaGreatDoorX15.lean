import Derived.Test.YtkablfpnjfbhfaaGreatDoorX14
import Derived.Test.YtkablfpnjfbhfaaGreatDoorX12
namespace Go.Ab
open Go
set_option maxHeartbeats 4000000
attribute [local irreducible] Need IdxK FinK NextK CKs CQs ltS
theorem k_shape_22 {L : Lk} (hf : FnR L 316 c316) (C : ShC L) (num : Int) (tx : Str) (ns : List Str) (ks : List Nd) : K_sh L (.mk 22 num tx ns ks) := by
  intro hk1 hk2
  change ks.length ≤ 4000000 at hk1
  change ns.length ≤ 4000000 at hk2
  have hS : aloneS (.mk 22 num tx ns ks) ↔ ks.length = 2 ∧ ns.length = 1 ∧ (nameOk (ns.getD 0 [])) ∧ num = 0 ∧ tx = [] := by
    have e1 : aloneS (.mk 22 num tx ns ks) ↔ (ks.length = 2 ∧ (ns.length : Int) = 1 ∧ namesOk (.mk 22 num tx ns ks) ∧ loadOk (.mk 22 num tx ns ks)) :=
      ⟨fun h => h.2.2 (show (22 : Int) ≠ 24 by decide), fun h => ⟨⟨show (1 : Int) ≤ 22 by decide, show (22 : Int) ≤ 43 by decide⟩, fun h => absurd (show (22 : Int) = 24 from h) (by decide), fun _ => h⟩⟩
    have e2 : loadOk (.mk 22 num tx ns ks) ↔ num = 0 ∧ tx = [] := by
      unfold loadOk
      dsimp only [Nd.sort, Nd.num, Nd.text]
      simp
    rw [e1, e2]
    exact ⟨fun ⟨h1, h2, h3, h4⟩ => ⟨h1, by omega, ((namesOk1 (n := .mk 22 num tx ns ks) (by show ns.length = 1; omega)).1 h3).1, h4⟩, fun ⟨h1, h2, h3, h4⟩ => ⟨h1, by omega, (namesOk1 (n := .mk 22 num tx ns ks) h2).2 ⟨h3, fun hb => absurd hb (show ¬ binds (22 : Int) by unfold binds; decide)⟩, h4⟩⟩
  have hL := C.lit 22
  rw [pb_f (by decide)] at hL
  have hR := C.row 22
  rw [pb_t (by decide)] at hR
  have hc1 := C.has (opShape 22) 75
  rw [pb_f (by decide)] at hc1
  have hc2 := C.has (opShape 22) 35
  rw [pb_f (by decide)] at hc2
  have hne : (∃ k, KindOK k ∧ txK k = tx) → tx ≠ [] := fun ⟨k, _, h⟩ => by rw [← h]; exact txK_ne
  have hvn : ∀ s, varOk s → nameOk s := fun s h => h.1
  have hnm := C.nm
  have hvr := C.vr
  have hkr := C.kr
  have hnok := C.nok 22 num
  change CP L 316 [.agg [.d (.int .i64 22), .d (.int .i64 num), .d (.str tx), .d (.sl (encS ns)), .d (.sl (ks.map cT))]] _
  generalize aloneS (.mk 22 num tx ns ks) = P at hS ⊢
  refine CP.enter hf rfl rfl rfl ?_
  repeat' ((conv => whnf); first | (rw [wrap64 (by omega)]) | refine idx_g0 (by omega) ?_ | refine zM (fun _ => ?_) (fun _ => ?_) | refine zG (fun _ => ?_) (fun _ => ?_) | refine zF (fun _ => ?_) (fun _ => ?_) | refine zO (fun _ => ?_) (fun _ => ?_) | refine zH ?_ | (rw [zY]; intro _) | (rw [zX]; intro _) | refine zA (by first | omega | exact rfl | decide) ?_ | refine zB (hL) ?_ | refine zB (hR) ?_ | refine next_y _ rfl (by decide) ?_ | refine next_n rfl ?_ | refine LW.unfold ?_ | refine zB (hnm _) ?_ | refine zB (hc1) ?_ | refine zB (hc2) ?_ | refine Or.elim (Classical.em (∃ k, KindOK k ∧ txK k = tx)) (fun hE => zB ((hkr _).1 hE.choose hE.choose_spec.1 hE.choose_spec.2) ?_) (fun hE => zB ((hkr _).2 hE) ?_) | fail)
  all_goals (conv => whnf)
  all_goals first
    | exact fin_n fun h => by have h := hS.1 h; first | omega | grind
    | exact yL (by rw [hS]; (try simp only [ieq_iff]); first | omega | grind)
theorem k_shape_23 {L : Lk} (hf : FnR L 316 c316) (C : ShC L) (num : Int) (tx : Str) (ns : List Str) (ks : List Nd) : K_sh L (.mk 23 num tx ns ks) := by
  intro hk1 hk2
  change ks.length ≤ 4000000 at hk1
  change ns.length ≤ 4000000 at hk2
  have hS : aloneS (.mk 23 num tx ns ks) ↔ ks.length = 1 ∧ ns.length = 1 ∧ (nameOk (ns.getD 0 [])) ∧ num = 0 ∧ tx = [] := by
    have e1 : aloneS (.mk 23 num tx ns ks) ↔ (ks.length = 1 ∧ (ns.length : Int) = 1 ∧ namesOk (.mk 23 num tx ns ks) ∧ loadOk (.mk 23 num tx ns ks)) :=
      ⟨fun h => h.2.2 (show (23 : Int) ≠ 24 by decide), fun h => ⟨⟨show (1 : Int) ≤ 23 by decide, show (23 : Int) ≤ 43 by decide⟩, fun h => absurd (show (23 : Int) = 24 from h) (by decide), fun _ => h⟩⟩
    have e2 : loadOk (.mk 23 num tx ns ks) ↔ num = 0 ∧ tx = [] := by
      unfold loadOk
      dsimp only [Nd.sort, Nd.num, Nd.text]
      simp
    rw [e1, e2]
    exact ⟨fun ⟨h1, h2, h3, h4⟩ => ⟨h1, by omega, ((namesOk1 (n := .mk 23 num tx ns ks) (by show ns.length = 1; omega)).1 h3).1, h4⟩, fun ⟨h1, h2, h3, h4⟩ => ⟨h1, by omega, (namesOk1 (n := .mk 23 num tx ns ks) h2).2 ⟨h3, fun hb => absurd hb (show ¬ binds (23 : Int) by unfold binds; decide)⟩, h4⟩⟩
  have hL := C.lit 23
  rw [pb_f (by decide)] at hL
  have hR := C.row 23
  rw [pb_t (by decide)] at hR
  have hc1 := C.has (opShape 23) 75
  rw [pb_f (by decide)] at hc1
  have hc2 := C.has (opShape 23) 35
  rw [pb_f (by decide)] at hc2
  have hne : (∃ k, KindOK k ∧ txK k = tx) → tx ≠ [] := fun ⟨k, _, h⟩ => by rw [← h]; exact txK_ne
  have hvn : ∀ s, varOk s → nameOk s := fun s h => h.1
  have hnm := C.nm
  have hvr := C.vr
  have hkr := C.kr
  have hnok := C.nok 23 num
  change CP L 316 [.agg [.d (.int .i64 23), .d (.int .i64 num), .d (.str tx), .d (.sl (encS ns)), .d (.sl (ks.map cT))]] _
  generalize aloneS (.mk 23 num tx ns ks) = P at hS ⊢
  refine CP.enter hf rfl rfl rfl ?_
  repeat' ((conv => whnf); first | (rw [wrap64 (by omega)]) | refine idx_g0 (by omega) ?_ | refine zM (fun _ => ?_) (fun _ => ?_) | refine zG (fun _ => ?_) (fun _ => ?_) | refine zF (fun _ => ?_) (fun _ => ?_) | refine zO (fun _ => ?_) (fun _ => ?_) | refine zH ?_ | (rw [zY]; intro _) | (rw [zX]; intro _) | refine zA (by first | omega | exact rfl | decide) ?_ | refine zB (hL) ?_ | refine zB (hR) ?_ | refine next_y _ rfl (by decide) ?_ | refine next_n rfl ?_ | refine LW.unfold ?_ | refine zB (hnm _) ?_ | refine zB (hc1) ?_ | refine zB (hc2) ?_ | refine Or.elim (Classical.em (∃ k, KindOK k ∧ txK k = tx)) (fun hE => zB ((hkr _).1 hE.choose hE.choose_spec.1 hE.choose_spec.2) ?_) (fun hE => zB ((hkr _).2 hE) ?_) | fail)
  all_goals (conv => whnf)
  all_goals first
    | exact fin_n fun h => by have h := hS.1 h; first | omega | grind
    | exact yL (by rw [hS]; (try simp only [ieq_iff]); first | omega | grind)
theorem k_shape_25 {L : Lk} (hf : FnR L 316 c316) (C : ShC L) (num : Int) (tx : Str) (ns : List Str) (ks : List Nd) : K_sh L (.mk 25 num tx ns ks) := by
  intro hk1 hk2
  change ks.length ≤ 4000000 at hk1
  change ns.length ≤ 4000000 at hk2
  have hS : aloneS (.mk 25 num tx ns ks) ↔ ks.length = 2 ∧ ns.length = 0 ∧ (True) ∧ num = 0 ∧ tx = [] := by
    have e1 : aloneS (.mk 25 num tx ns ks) ↔ (ks.length = 2 ∧ (ns.length : Int) = 0 ∧ namesOk (.mk 25 num tx ns ks) ∧ loadOk (.mk 25 num tx ns ks)) :=
      ⟨fun h => h.2.2 (show (25 : Int) ≠ 24 by decide), fun h => ⟨⟨show (1 : Int) ≤ 25 by decide, show (25 : Int) ≤ 43 by decide⟩, fun h => absurd (show (25 : Int) = 24 from h) (by decide), fun _ => h⟩⟩
    have e2 : loadOk (.mk 25 num tx ns ks) ↔ num = 0 ∧ tx = [] := by
      unfold loadOk
      dsimp only [Nd.sort, Nd.num, Nd.text]
      simp
    rw [e1, e2]
    exact ⟨fun ⟨h1, h2, _, h4⟩ => ⟨h1, by omega, trivial, h4⟩, fun ⟨h1, h2, _, h4⟩ => ⟨h1, by omega, namesOk0 (n := .mk 25 num tx ns ks) h2, h4⟩⟩
  have hL := C.lit 25
  rw [pb_f (by decide)] at hL
  have hR := C.row 25
  rw [pb_t (by decide)] at hR
  have hc1 := C.has (opShape 25) 75
  rw [pb_f (by decide)] at hc1
  have hc2 := C.has (opShape 25) 35
  rw [pb_f (by decide)] at hc2
  have hne : (∃ k, KindOK k ∧ txK k = tx) → tx ≠ [] := fun ⟨k, _, h⟩ => by rw [← h]; exact txK_ne
  have hvn : ∀ s, varOk s → nameOk s := fun s h => h.1
  have hnm := C.nm
  have hvr := C.vr
  have hkr := C.kr
  have hnok := C.nok 25 num
  change CP L 316 [.agg [.d (.int .i64 25), .d (.int .i64 num), .d (.str tx), .d (.sl (encS ns)), .d (.sl (ks.map cT))]] _
  generalize aloneS (.mk 25 num tx ns ks) = P at hS ⊢
  refine CP.enter hf rfl rfl rfl ?_
  repeat' ((conv => whnf); first | (rw [wrap64 (by omega)]) | refine zG (fun _ => ?_) (fun _ => ?_) | refine zF (fun _ => ?_) (fun _ => ?_) | refine zH ?_ | (rw [zY]; intro _) | (rw [zX]; intro _) | refine zB (hL) ?_ | refine zB (hR) ?_ | refine next_y _ rfl (by decide) ?_ | refine next_n rfl ?_ | refine LW.unfold ?_ | refine zB (hc1) ?_ | refine zB (hc2) ?_ | refine Or.elim (Classical.em (∃ k, KindOK k ∧ txK k = tx)) (fun hE => zB ((hkr _).1 hE.choose hE.choose_spec.1 hE.choose_spec.2) ?_) (fun hE => zB ((hkr _).2 hE) ?_) | fail)
  all_goals (conv => whnf)
  all_goals first
    | exact fin_n fun h => by have h := hS.1 h; first | omega | grind
    | exact yL (by rw [hS]; (try simp only [ieq_iff]); first | omega | grind)
theorem k_shape_26 {L : Lk} (hf : FnR L 316 c316) (C : ShC L) (num : Int) (tx : Str) (ns : List Str) (ks : List Nd) : K_sh L (.mk 26 num tx ns ks) := by
  intro hk1 hk2
  change ks.length ≤ 4000000 at hk1
  change ns.length ≤ 4000000 at hk2
  have hS : aloneS (.mk 26 num tx ns ks) ↔ ks.length = 1 ∧ ns.length = 0 ∧ (True) ∧ num = 0 ∧ tx = [] := by
    have e1 : aloneS (.mk 26 num tx ns ks) ↔ (ks.length = 1 ∧ (ns.length : Int) = 0 ∧ namesOk (.mk 26 num tx ns ks) ∧ loadOk (.mk 26 num tx ns ks)) :=
      ⟨fun h => h.2.2 (show (26 : Int) ≠ 24 by decide), fun h => ⟨⟨show (1 : Int) ≤ 26 by decide, show (26 : Int) ≤ 43 by decide⟩, fun h => absurd (show (26 : Int) = 24 from h) (by decide), fun _ => h⟩⟩
    have e2 : loadOk (.mk 26 num tx ns ks) ↔ num = 0 ∧ tx = [] := by
      unfold loadOk
      dsimp only [Nd.sort, Nd.num, Nd.text]
      simp
    rw [e1, e2]
    exact ⟨fun ⟨h1, h2, _, h4⟩ => ⟨h1, by omega, trivial, h4⟩, fun ⟨h1, h2, _, h4⟩ => ⟨h1, by omega, namesOk0 (n := .mk 26 num tx ns ks) h2, h4⟩⟩
  have hL := C.lit 26
  rw [pb_f (by decide)] at hL
  have hR := C.row 26
  rw [pb_t (by decide)] at hR
  have hc1 := C.has (opShape 26) 75
  rw [pb_f (by decide)] at hc1
  have hc2 := C.has (opShape 26) 35
  rw [pb_f (by decide)] at hc2
  have hne : (∃ k, KindOK k ∧ txK k = tx) → tx ≠ [] := fun ⟨k, _, h⟩ => by rw [← h]; exact txK_ne
  have hvn : ∀ s, varOk s → nameOk s := fun s h => h.1
  have hnm := C.nm
  have hvr := C.vr
  have hkr := C.kr
  have hnok := C.nok 26 num
  change CP L 316 [.agg [.d (.int .i64 26), .d (.int .i64 num), .d (.str tx), .d (.sl (encS ns)), .d (.sl (ks.map cT))]] _
  generalize aloneS (.mk 26 num tx ns ks) = P at hS ⊢
  refine CP.enter hf rfl rfl rfl ?_
  repeat' ((conv => whnf); first | (rw [wrap64 (by omega)]) | refine zG (fun _ => ?_) (fun _ => ?_) | refine zF (fun _ => ?_) (fun _ => ?_) | refine zH ?_ | (rw [zY]; intro _) | (rw [zX]; intro _) | refine zB (hL) ?_ | refine zB (hR) ?_ | refine next_y _ rfl (by decide) ?_ | refine next_n rfl ?_ | refine LW.unfold ?_ | refine zB (hc1) ?_ | refine zB (hc2) ?_ | refine Or.elim (Classical.em (∃ k, KindOK k ∧ txK k = tx)) (fun hE => zB ((hkr _).1 hE.choose hE.choose_spec.1 hE.choose_spec.2) ?_) (fun hE => zB ((hkr _).2 hE) ?_) | fail)
  all_goals (conv => whnf)
  all_goals first
    | exact fin_n fun h => by have h := hS.1 h; first | omega | grind
    | exact yL (by rw [hS]; (try simp only [ieq_iff]); first | omega | grind)
theorem k_shape_27 {L : Lk} (hf : FnR L 316 c316) (C : ShC L) (num : Int) (tx : Str) (ns : List Str) (ks : List Nd) : K_sh L (.mk 27 num tx ns ks) := by
  intro hk1 hk2
  change ks.length ≤ 4000000 at hk1
  change ns.length ≤ 4000000 at hk2
  have hS : aloneS (.mk 27 num tx ns ks) ↔ ks.length = 2 ∧ ns.length = 0 ∧ (True) ∧ num = 0 ∧ tx = [] := by
    have e1 : aloneS (.mk 27 num tx ns ks) ↔ (ks.length = 2 ∧ (ns.length : Int) = 0 ∧ namesOk (.mk 27 num tx ns ks) ∧ loadOk (.mk 27 num tx ns ks)) :=
      ⟨fun h => h.2.2 (show (27 : Int) ≠ 24 by decide), fun h => ⟨⟨show (1 : Int) ≤ 27 by decide, show (27 : Int) ≤ 43 by decide⟩, fun h => absurd (show (27 : Int) = 24 from h) (by decide), fun _ => h⟩⟩
    have e2 : loadOk (.mk 27 num tx ns ks) ↔ num = 0 ∧ tx = [] := by
      unfold loadOk
      dsimp only [Nd.sort, Nd.num, Nd.text]
      simp
    rw [e1, e2]
    exact ⟨fun ⟨h1, h2, _, h4⟩ => ⟨h1, by omega, trivial, h4⟩, fun ⟨h1, h2, _, h4⟩ => ⟨h1, by omega, namesOk0 (n := .mk 27 num tx ns ks) h2, h4⟩⟩
  have hL := C.lit 27
  rw [pb_f (by decide)] at hL
  have hR := C.row 27
  rw [pb_t (by decide)] at hR
  have hc1 := C.has (opShape 27) 75
  rw [pb_f (by decide)] at hc1
  have hc2 := C.has (opShape 27) 35
  rw [pb_f (by decide)] at hc2
  have hne : (∃ k, KindOK k ∧ txK k = tx) → tx ≠ [] := fun ⟨k, _, h⟩ => by rw [← h]; exact txK_ne
  have hvn : ∀ s, varOk s → nameOk s := fun s h => h.1
  have hnm := C.nm
  have hvr := C.vr
  have hkr := C.kr
  have hnok := C.nok 27 num
  change CP L 316 [.agg [.d (.int .i64 27), .d (.int .i64 num), .d (.str tx), .d (.sl (encS ns)), .d (.sl (ks.map cT))]] _
  generalize aloneS (.mk 27 num tx ns ks) = P at hS ⊢
  refine CP.enter hf rfl rfl rfl ?_
  repeat' ((conv => whnf); first | (rw [wrap64 (by omega)]) | refine zG (fun _ => ?_) (fun _ => ?_) | refine zF (fun _ => ?_) (fun _ => ?_) | refine zH ?_ | (rw [zY]; intro _) | (rw [zX]; intro _) | refine zB (hL) ?_ | refine zB (hR) ?_ | refine next_y _ rfl (by decide) ?_ | refine next_n rfl ?_ | refine LW.unfold ?_ | refine zB (hc1) ?_ | refine zB (hc2) ?_ | refine Or.elim (Classical.em (∃ k, KindOK k ∧ txK k = tx)) (fun hE => zB ((hkr _).1 hE.choose hE.choose_spec.1 hE.choose_spec.2) ?_) (fun hE => zB ((hkr _).2 hE) ?_) | fail)
  all_goals (conv => whnf)
  all_goals first
    | exact fin_n fun h => by have h := hS.1 h; first | omega | grind
    | exact yL (by rw [hS]; (try simp only [ieq_iff]); first | omega | grind)
theorem k_shape_28 {L : Lk} (hf : FnR L 316 c316) (C : ShC L) (num : Int) (tx : Str) (ns : List Str) (ks : List Nd) : K_sh L (.mk 28 num tx ns ks) := by
  intro hk1 hk2
  change ks.length ≤ 4000000 at hk1
  change ns.length ≤ 4000000 at hk2
  have hS : aloneS (.mk 28 num tx ns ks) ↔ ks.length = 3 ∧ ns.length = 0 ∧ (True) ∧ num = 0 ∧ tx = [] := by
    have e1 : aloneS (.mk 28 num tx ns ks) ↔ (ks.length = 3 ∧ (ns.length : Int) = 0 ∧ namesOk (.mk 28 num tx ns ks) ∧ loadOk (.mk 28 num tx ns ks)) :=
      ⟨fun h => h.2.2 (show (28 : Int) ≠ 24 by decide), fun h => ⟨⟨show (1 : Int) ≤ 28 by decide, show (28 : Int) ≤ 43 by decide⟩, fun h => absurd (show (28 : Int) = 24 from h) (by decide), fun _ => h⟩⟩
    have e2 : loadOk (.mk 28 num tx ns ks) ↔ num = 0 ∧ tx = [] := by
      unfold loadOk
      dsimp only [Nd.sort, Nd.num, Nd.text]
      simp
    rw [e1, e2]
    exact ⟨fun ⟨h1, h2, _, h4⟩ => ⟨h1, by omega, trivial, h4⟩, fun ⟨h1, h2, _, h4⟩ => ⟨h1, by omega, namesOk0 (n := .mk 28 num tx ns ks) h2, h4⟩⟩
  have hL := C.lit 28
  rw [pb_f (by decide)] at hL
  have hR := C.row 28
  rw [pb_t (by decide)] at hR
  have hc1 := C.has (opShape 28) 75
  rw [pb_f (by decide)] at hc1
  have hc2 := C.has (opShape 28) 35
  rw [pb_f (by decide)] at hc2
  have hne : (∃ k, KindOK k ∧ txK k = tx) → tx ≠ [] := fun ⟨k, _, h⟩ => by rw [← h]; exact txK_ne
  have hvn : ∀ s, varOk s → nameOk s := fun s h => h.1
  have hnm := C.nm
  have hvr := C.vr
  have hkr := C.kr
  have hnok := C.nok 28 num
  change CP L 316 [.agg [.d (.int .i64 28), .d (.int .i64 num), .d (.str tx), .d (.sl (encS ns)), .d (.sl (ks.map cT))]] _
  generalize aloneS (.mk 28 num tx ns ks) = P at hS ⊢
  refine CP.enter hf rfl rfl rfl ?_
  repeat' ((conv => whnf); first | (rw [wrap64 (by omega)]) | refine zG (fun _ => ?_) (fun _ => ?_) | refine zF (fun _ => ?_) (fun _ => ?_) | refine zH ?_ | (rw [zY]; intro _) | (rw [zX]; intro _) | refine zB (hL) ?_ | refine zB (hR) ?_ | refine next_y _ rfl (by decide) ?_ | refine next_n rfl ?_ | refine LW.unfold ?_ | refine zB (hc1) ?_ | refine zB (hc2) ?_ | refine Or.elim (Classical.em (∃ k, KindOK k ∧ txK k = tx)) (fun hE => zB ((hkr _).1 hE.choose hE.choose_spec.1 hE.choose_spec.2) ?_) (fun hE => zB ((hkr _).2 hE) ?_) | fail)
  all_goals (conv => whnf)
  all_goals first
    | exact fin_n fun h => by have h := hS.1 h; first | omega | grind
    | exact yL (by rw [hS]; (try simp only [ieq_iff]); first | omega | grind)
theorem k_shape_29 {L : Lk} (hf : FnR L 316 c316) (C : ShC L) (num : Int) (tx : Str) (ns : List Str) (ks : List Nd) : K_sh L (.mk 29 num tx ns ks) := by
  intro hk1 hk2
  change ks.length ≤ 4000000 at hk1
  change ns.length ≤ 4000000 at hk2
  have hS : aloneS (.mk 29 num tx ns ks) ↔ ks.length = 1 ∧ ns.length = 0 ∧ (True) ∧ num = 0 ∧ tx = [] := by
    have e1 : aloneS (.mk 29 num tx ns ks) ↔ (ks.length = 1 ∧ (ns.length : Int) = 0 ∧ namesOk (.mk 29 num tx ns ks) ∧ loadOk (.mk 29 num tx ns ks)) :=
      ⟨fun h => h.2.2 (show (29 : Int) ≠ 24 by decide), fun h => ⟨⟨show (1 : Int) ≤ 29 by decide, show (29 : Int) ≤ 43 by decide⟩, fun h => absurd (show (29 : Int) = 24 from h) (by decide), fun _ => h⟩⟩
    have e2 : loadOk (.mk 29 num tx ns ks) ↔ num = 0 ∧ tx = [] := by
      unfold loadOk
      dsimp only [Nd.sort, Nd.num, Nd.text]
      simp
    rw [e1, e2]
    exact ⟨fun ⟨h1, h2, _, h4⟩ => ⟨h1, by omega, trivial, h4⟩, fun ⟨h1, h2, _, h4⟩ => ⟨h1, by omega, namesOk0 (n := .mk 29 num tx ns ks) h2, h4⟩⟩
  have hL := C.lit 29
  rw [pb_f (by decide)] at hL
  have hR := C.row 29
  rw [pb_t (by decide)] at hR
  have hc1 := C.has (opShape 29) 75
  rw [pb_f (by decide)] at hc1
  have hc2 := C.has (opShape 29) 35
  rw [pb_f (by decide)] at hc2
  have hne : (∃ k, KindOK k ∧ txK k = tx) → tx ≠ [] := fun ⟨k, _, h⟩ => by rw [← h]; exact txK_ne
  have hvn : ∀ s, varOk s → nameOk s := fun s h => h.1
  have hnm := C.nm
  have hvr := C.vr
  have hkr := C.kr
  have hnok := C.nok 29 num
  change CP L 316 [.agg [.d (.int .i64 29), .d (.int .i64 num), .d (.str tx), .d (.sl (encS ns)), .d (.sl (ks.map cT))]] _
  generalize aloneS (.mk 29 num tx ns ks) = P at hS ⊢
  refine CP.enter hf rfl rfl rfl ?_
  repeat' ((conv => whnf); first | (rw [wrap64 (by omega)]) | refine zG (fun _ => ?_) (fun _ => ?_) | refine zF (fun _ => ?_) (fun _ => ?_) | refine zH ?_ | (rw [zY]; intro _) | (rw [zX]; intro _) | refine zB (hL) ?_ | refine zB (hR) ?_ | refine next_y _ rfl (by decide) ?_ | refine next_n rfl ?_ | refine LW.unfold ?_ | refine zB (hc1) ?_ | refine zB (hc2) ?_ | refine Or.elim (Classical.em (∃ k, KindOK k ∧ txK k = tx)) (fun hE => zB ((hkr _).1 hE.choose hE.choose_spec.1 hE.choose_spec.2) ?_) (fun hE => zB ((hkr _).2 hE) ?_) | fail)
  all_goals (conv => whnf)
  all_goals first
    | exact fin_n fun h => by have h := hS.1 h; first | omega | grind
    | exact yL (by rw [hS]; (try simp only [ieq_iff]); first | omega | grind)
theorem k_shape_30 {L : Lk} (hf : FnR L 316 c316) (C : ShC L) (num : Int) (tx : Str) (ns : List Str) (ks : List Nd) : K_sh L (.mk 30 num tx ns ks) := by
  intro hk1 hk2
  change ks.length ≤ 4000000 at hk1
  change ns.length ≤ 4000000 at hk2
  have hS : aloneS (.mk 30 num tx ns ks) ↔ ks.length = 1 ∧ ns.length = 0 ∧ (True) ∧ num = 0 ∧ tx = [] := by
    have e1 : aloneS (.mk 30 num tx ns ks) ↔ (ks.length = 1 ∧ (ns.length : Int) = 0 ∧ namesOk (.mk 30 num tx ns ks) ∧ loadOk (.mk 30 num tx ns ks)) :=
      ⟨fun h => h.2.2 (show (30 : Int) ≠ 24 by decide), fun h => ⟨⟨show (1 : Int) ≤ 30 by decide, show (30 : Int) ≤ 43 by decide⟩, fun h => absurd (show (30 : Int) = 24 from h) (by decide), fun _ => h⟩⟩
    have e2 : loadOk (.mk 30 num tx ns ks) ↔ num = 0 ∧ tx = [] := by
      unfold loadOk
      dsimp only [Nd.sort, Nd.num, Nd.text]
      simp
    rw [e1, e2]
    exact ⟨fun ⟨h1, h2, _, h4⟩ => ⟨h1, by omega, trivial, h4⟩, fun ⟨h1, h2, _, h4⟩ => ⟨h1, by omega, namesOk0 (n := .mk 30 num tx ns ks) h2, h4⟩⟩
  have hL := C.lit 30
  rw [pb_f (by decide)] at hL
  have hR := C.row 30
  rw [pb_t (by decide)] at hR
  have hc1 := C.has (opShape 30) 75
  rw [pb_f (by decide)] at hc1
  have hc2 := C.has (opShape 30) 35
  rw [pb_f (by decide)] at hc2
  have hne : (∃ k, KindOK k ∧ txK k = tx) → tx ≠ [] := fun ⟨k, _, h⟩ => by rw [← h]; exact txK_ne
  have hvn : ∀ s, varOk s → nameOk s := fun s h => h.1
  have hnm := C.nm
  have hvr := C.vr
  have hkr := C.kr
  have hnok := C.nok 30 num
  change CP L 316 [.agg [.d (.int .i64 30), .d (.int .i64 num), .d (.str tx), .d (.sl (encS ns)), .d (.sl (ks.map cT))]] _
  generalize aloneS (.mk 30 num tx ns ks) = P at hS ⊢
  refine CP.enter hf rfl rfl rfl ?_
  repeat' ((conv => whnf); first | (rw [wrap64 (by omega)]) | refine zG (fun _ => ?_) (fun _ => ?_) | refine zF (fun _ => ?_) (fun _ => ?_) | refine zH ?_ | (rw [zY]; intro _) | (rw [zX]; intro _) | refine zB (hL) ?_ | refine zB (hR) ?_ | refine next_y _ rfl (by decide) ?_ | refine next_n rfl ?_ | refine LW.unfold ?_ | refine zB (hc1) ?_ | refine zB (hc2) ?_ | refine Or.elim (Classical.em (∃ k, KindOK k ∧ txK k = tx)) (fun hE => zB ((hkr _).1 hE.choose hE.choose_spec.1 hE.choose_spec.2) ?_) (fun hE => zB ((hkr _).2 hE) ?_) | fail)
  all_goals (conv => whnf)
  all_goals first
    | exact fin_n fun h => by have h := hS.1 h; first | omega | grind
    | exact yL (by rw [hS]; (try simp only [ieq_iff]); first | omega | grind)
theorem k_shape_31 {L : Lk} (hf : FnR L 316 c316) (C : ShC L) (num : Int) (tx : Str) (ns : List Str) (ks : List Nd) : K_sh L (.mk 31 num tx ns ks) := by
  intro hk1 hk2
  change ks.length ≤ 4000000 at hk1
  change ns.length ≤ 4000000 at hk2
  have hS : aloneS (.mk 31 num tx ns ks) ↔ ks.length = 2 ∧ ns.length = 0 ∧ (True) ∧ num = 0 ∧ tx = [] := by
    have e1 : aloneS (.mk 31 num tx ns ks) ↔ (ks.length = 2 ∧ (ns.length : Int) = 0 ∧ namesOk (.mk 31 num tx ns ks) ∧ loadOk (.mk 31 num tx ns ks)) :=
      ⟨fun h => h.2.2 (show (31 : Int) ≠ 24 by decide), fun h => ⟨⟨show (1 : Int) ≤ 31 by decide, show (31 : Int) ≤ 43 by decide⟩, fun h => absurd (show (31 : Int) = 24 from h) (by decide), fun _ => h⟩⟩
    have e2 : loadOk (.mk 31 num tx ns ks) ↔ num = 0 ∧ tx = [] := by
      unfold loadOk
      dsimp only [Nd.sort, Nd.num, Nd.text]
      simp
    rw [e1, e2]
    exact ⟨fun ⟨h1, h2, _, h4⟩ => ⟨h1, by omega, trivial, h4⟩, fun ⟨h1, h2, _, h4⟩ => ⟨h1, by omega, namesOk0 (n := .mk 31 num tx ns ks) h2, h4⟩⟩
  have hL := C.lit 31
  rw [pb_f (by decide)] at hL
  have hR := C.row 31
  rw [pb_t (by decide)] at hR
  have hc1 := C.has (opShape 31) 75
  rw [pb_f (by decide)] at hc1
  have hc2 := C.has (opShape 31) 35
  rw [pb_f (by decide)] at hc2
  have hne : (∃ k, KindOK k ∧ txK k = tx) → tx ≠ [] := fun ⟨k, _, h⟩ => by rw [← h]; exact txK_ne
  have hvn : ∀ s, varOk s → nameOk s := fun s h => h.1
  have hnm := C.nm
  have hvr := C.vr
  have hkr := C.kr
  have hnok := C.nok 31 num
  change CP L 316 [.agg [.d (.int .i64 31), .d (.int .i64 num), .d (.str tx), .d (.sl (encS ns)), .d (.sl (ks.map cT))]] _
  generalize aloneS (.mk 31 num tx ns ks) = P at hS ⊢
  refine CP.enter hf rfl rfl rfl ?_
  repeat' ((conv => whnf); first | (rw [wrap64 (by omega)]) | refine zG (fun _ => ?_) (fun _ => ?_) | refine zF (fun _ => ?_) (fun _ => ?_) | refine zH ?_ | (rw [zY]; intro _) | (rw [zX]; intro _) | refine zB (hL) ?_ | refine zB (hR) ?_ | refine next_y _ rfl (by decide) ?_ | refine next_n rfl ?_ | refine LW.unfold ?_ | refine zB (hc1) ?_ | refine zB (hc2) ?_ | refine Or.elim (Classical.em (∃ k, KindOK k ∧ txK k = tx)) (fun hE => zB ((hkr _).1 hE.choose hE.choose_spec.1 hE.choose_spec.2) ?_) (fun hE => zB ((hkr _).2 hE) ?_) | fail)
  all_goals (conv => whnf)
  all_goals first
    | exact fin_n fun h => by have h := hS.1 h; first | omega | grind
    | exact yL (by rw [hS]; (try simp only [ieq_iff]); first | omega | grind)
theorem k_shape_32 {L : Lk} (hf : FnR L 316 c316) (C : ShC L) (num : Int) (tx : Str) (ns : List Str) (ks : List Nd) : K_sh L (.mk 32 num tx ns ks) := by
  intro hk1 hk2
  change ks.length ≤ 4000000 at hk1
  change ns.length ≤ 4000000 at hk2
  have hS : aloneS (.mk 32 num tx ns ks) ↔ ks.length = 3 ∧ ns.length = 1 ∧ (varOk (ns.getD 0 [])) ∧ num = 0 ∧ tx = [] := by
    have e1 : aloneS (.mk 32 num tx ns ks) ↔ (ks.length = 3 ∧ (ns.length : Int) = 1 ∧ namesOk (.mk 32 num tx ns ks) ∧ loadOk (.mk 32 num tx ns ks)) :=
      ⟨fun h => h.2.2 (show (32 : Int) ≠ 24 by decide), fun h => ⟨⟨show (1 : Int) ≤ 32 by decide, show (32 : Int) ≤ 43 by decide⟩, fun h => absurd (show (32 : Int) = 24 from h) (by decide), fun _ => h⟩⟩
    have e2 : loadOk (.mk 32 num tx ns ks) ↔ num = 0 ∧ tx = [] := by
      unfold loadOk
      dsimp only [Nd.sort, Nd.num, Nd.text]
      simp
    rw [e1, e2]
    exact ⟨fun ⟨h1, h2, h3, h4⟩ => ⟨h1, by omega, ((namesOk1 (n := .mk 32 num tx ns ks) (by show ns.length = 1; omega)).1 h3).2 (show binds (32 : Int) by unfold binds; decide), h4⟩, fun ⟨h1, h2, h3, h4⟩ => ⟨h1, by omega, (namesOk1 (n := .mk 32 num tx ns ks) h2).2 ⟨h3.1, fun _ => h3⟩, h4⟩⟩
  have hL := C.lit 32
  rw [pb_f (by decide)] at hL
  have hR := C.row 32
  rw [pb_t (by decide)] at hR
  have hc1 := C.has (opShape 32) 75
  rw [pb_f (by decide)] at hc1
  have hc2 := C.has (opShape 32) 35
  rw [pb_f (by decide)] at hc2
  have hne : (∃ k, KindOK k ∧ txK k = tx) → tx ≠ [] := fun ⟨k, _, h⟩ => by rw [← h]; exact txK_ne
  have hvn : ∀ s, varOk s → nameOk s := fun s h => h.1
  have hnm := C.nm
  have hvr := C.vr
  have hkr := C.kr
  have hnok := C.nok 32 num
  change CP L 316 [.agg [.d (.int .i64 32), .d (.int .i64 num), .d (.str tx), .d (.sl (encS ns)), .d (.sl (ks.map cT))]] _
  generalize aloneS (.mk 32 num tx ns ks) = P at hS ⊢
  refine CP.enter hf rfl rfl rfl ?_
  repeat' ((conv => whnf); first | (rw [wrap64 (by omega)]) | refine idx_g0 (by omega) ?_ | refine zM (fun _ => ?_) (fun _ => ?_) | refine zG (fun _ => ?_) (fun _ => ?_) | refine zF (fun _ => ?_) (fun _ => ?_) | refine zO (fun _ => ?_) (fun _ => ?_) | refine zH ?_ | (rw [zY]; intro _) | (rw [zX]; intro _) | refine zA (by first | omega | exact rfl | decide) ?_ | refine zB (hL) ?_ | refine zB (hR) ?_ | refine next_y _ rfl (by decide) ?_ | refine next_n rfl ?_ | refine LW.unfold ?_ | refine zB (hnm _) ?_ | refine zB (hvr _) ?_ | refine zB (hc1) ?_ | refine zB (hc2) ?_ | refine Or.elim (Classical.em (∃ k, KindOK k ∧ txK k = tx)) (fun hE => zB ((hkr _).1 hE.choose hE.choose_spec.1 hE.choose_spec.2) ?_) (fun hE => zB ((hkr _).2 hE) ?_) | fail)
  all_goals (conv => whnf)
  all_goals first
    | exact fin_n fun h => by have h := hS.1 h; first | omega | grind
    | exact yL (by rw [hS]; (try simp only [ieq_iff]); first | omega | grind)
theorem k_shape_33 {L : Lk} (hf : FnR L 316 c316) (C : ShC L) (num : Int) (tx : Str) (ns : List Str) (ks : List Nd) : K_sh L (.mk 33 num tx ns ks) := by
  intro hk1 hk2
  change ks.length ≤ 4000000 at hk1
  change ns.length ≤ 4000000 at hk2
  have hS : aloneS (.mk 33 num tx ns ks) ↔ ks.length = 2 ∧ ns.length = 1 ∧ (varOk (ns.getD 0 [])) ∧ num = 0 ∧ tx = [] := by
    have e1 : aloneS (.mk 33 num tx ns ks) ↔ (ks.length = 2 ∧ (ns.length : Int) = 1 ∧ namesOk (.mk 33 num tx ns ks) ∧ loadOk (.mk 33 num tx ns ks)) :=
      ⟨fun h => h.2.2 (show (33 : Int) ≠ 24 by decide), fun h => ⟨⟨show (1 : Int) ≤ 33 by decide, show (33 : Int) ≤ 43 by decide⟩, fun h => absurd (show (33 : Int) = 24 from h) (by decide), fun _ => h⟩⟩
    have e2 : loadOk (.mk 33 num tx ns ks) ↔ num = 0 ∧ tx = [] := by
      unfold loadOk
      dsimp only [Nd.sort, Nd.num, Nd.text]
      simp
    rw [e1, e2]
    exact ⟨fun ⟨h1, h2, h3, h4⟩ => ⟨h1, by omega, ((namesOk1 (n := .mk 33 num tx ns ks) (by show ns.length = 1; omega)).1 h3).2 (show binds (33 : Int) by unfold binds; decide), h4⟩, fun ⟨h1, h2, h3, h4⟩ => ⟨h1, by omega, (namesOk1 (n := .mk 33 num tx ns ks) h2).2 ⟨h3.1, fun _ => h3⟩, h4⟩⟩
  have hL := C.lit 33
  rw [pb_f (by decide)] at hL
  have hR := C.row 33
  rw [pb_t (by decide)] at hR
  have hc1 := C.has (opShape 33) 75
  rw [pb_f (by decide)] at hc1
  have hc2 := C.has (opShape 33) 35
  rw [pb_f (by decide)] at hc2
  have hne : (∃ k, KindOK k ∧ txK k = tx) → tx ≠ [] := fun ⟨k, _, h⟩ => by rw [← h]; exact txK_ne
  have hvn : ∀ s, varOk s → nameOk s := fun s h => h.1
  have hnm := C.nm
  have hvr := C.vr
  have hkr := C.kr
  have hnok := C.nok 33 num
  change CP L 316 [.agg [.d (.int .i64 33), .d (.int .i64 num), .d (.str tx), .d (.sl (encS ns)), .d (.sl (ks.map cT))]] _
  generalize aloneS (.mk 33 num tx ns ks) = P at hS ⊢
  refine CP.enter hf rfl rfl rfl ?_
  repeat' ((conv => whnf); first | (rw [wrap64 (by omega)]) | refine idx_g0 (by omega) ?_ | refine zM (fun _ => ?_) (fun _ => ?_) | refine zG (fun _ => ?_) (fun _ => ?_) | refine zF (fun _ => ?_) (fun _ => ?_) | refine zO (fun _ => ?_) (fun _ => ?_) | refine zH ?_ | (rw [zY]; intro _) | (rw [zX]; intro _) | refine zA (by first | omega | exact rfl | decide) ?_ | refine zB (hL) ?_ | refine zB (hR) ?_ | refine next_y _ rfl (by decide) ?_ | refine next_n rfl ?_ | refine LW.unfold ?_ | refine zB (hnm _) ?_ | refine zB (hvr _) ?_ | refine zB (hc1) ?_ | refine zB (hc2) ?_ | refine Or.elim (Classical.em (∃ k, KindOK k ∧ txK k = tx)) (fun hE => zB ((hkr _).1 hE.choose hE.choose_spec.1 hE.choose_spec.2) ?_) (fun hE => zB ((hkr _).2 hE) ?_) | fail)
  all_goals (conv => whnf)
  all_goals first
    | exact fin_n fun h => by have h := hS.1 h; first | omega | grind
    | exact yL (by rw [hS]; (try simp only [ieq_iff]); first | omega | grind)
theorem k_shape_34 {L : Lk} (hf : FnR L 316 c316) (C : ShC L) (num : Int) (tx : Str) (ns : List Str) (ks : List Nd) : K_sh L (.mk 34 num tx ns ks) := by
  intro hk1 hk2
  change ks.length ≤ 4000000 at hk1
  change ns.length ≤ 4000000 at hk2
  have hS : aloneS (.mk 34 num tx ns ks) ↔ ks.length = 2 ∧ ns.length = 1 ∧ (varOk (ns.getD 0 [])) ∧ num = 0 ∧ tx = [] := by
    have e1 : aloneS (.mk 34 num tx ns ks) ↔ (ks.length = 2 ∧ (ns.length : Int) = 1 ∧ namesOk (.mk 34 num tx ns ks) ∧ loadOk (.mk 34 num tx ns ks)) :=
      ⟨fun h => h.2.2 (show (34 : Int) ≠ 24 by decide), fun h => ⟨⟨show (1 : Int) ≤ 34 by decide, show (34 : Int) ≤ 43 by decide⟩, fun h => absurd (show (34 : Int) = 24 from h) (by decide), fun _ => h⟩⟩
    have e2 : loadOk (.mk 34 num tx ns ks) ↔ num = 0 ∧ tx = [] := by
      unfold loadOk
      dsimp only [Nd.sort, Nd.num, Nd.text]
      simp
    rw [e1, e2]
    exact ⟨fun ⟨h1, h2, h3, h4⟩ => ⟨h1, by omega, ((namesOk1 (n := .mk 34 num tx ns ks) (by show ns.length = 1; omega)).1 h3).2 (show binds (34 : Int) by unfold binds; decide), h4⟩, fun ⟨h1, h2, h3, h4⟩ => ⟨h1, by omega, (namesOk1 (n := .mk 34 num tx ns ks) h2).2 ⟨h3.1, fun _ => h3⟩, h4⟩⟩
  have hL := C.lit 34
  rw [pb_f (by decide)] at hL
  have hR := C.row 34
  rw [pb_t (by decide)] at hR
  have hc1 := C.has (opShape 34) 75
  rw [pb_f (by decide)] at hc1
  have hc2 := C.has (opShape 34) 35
  rw [pb_f (by decide)] at hc2
  have hne : (∃ k, KindOK k ∧ txK k = tx) → tx ≠ [] := fun ⟨k, _, h⟩ => by rw [← h]; exact txK_ne
  have hvn : ∀ s, varOk s → nameOk s := fun s h => h.1
  have hnm := C.nm
  have hvr := C.vr
  have hkr := C.kr
  have hnok := C.nok 34 num
  change CP L 316 [.agg [.d (.int .i64 34), .d (.int .i64 num), .d (.str tx), .d (.sl (encS ns)), .d (.sl (ks.map cT))]] _
  generalize aloneS (.mk 34 num tx ns ks) = P at hS ⊢
  refine CP.enter hf rfl rfl rfl ?_
  repeat' ((conv => whnf); first | (rw [wrap64 (by omega)]) | refine idx_g0 (by omega) ?_ | refine zM (fun _ => ?_) (fun _ => ?_) | refine zG (fun _ => ?_) (fun _ => ?_) | refine zF (fun _ => ?_) (fun _ => ?_) | refine zO (fun _ => ?_) (fun _ => ?_) | refine zH ?_ | (rw [zY]; intro _) | (rw [zX]; intro _) | refine zA (by first | omega | exact rfl | decide) ?_ | refine zB (hL) ?_ | refine zB (hR) ?_ | refine next_y _ rfl (by decide) ?_ | refine next_n rfl ?_ | refine LW.unfold ?_ | refine zB (hnm _) ?_ | refine zB (hvr _) ?_ | refine zB (hc1) ?_ | refine zB (hc2) ?_ | refine Or.elim (Classical.em (∃ k, KindOK k ∧ txK k = tx)) (fun hE => zB ((hkr _).1 hE.choose hE.choose_spec.1 hE.choose_spec.2) ?_) (fun hE => zB ((hkr _).2 hE) ?_) | fail)
  all_goals (conv => whnf)
  all_goals first
    | exact fin_n fun h => by have h := hS.1 h; first | omega | grind
    | exact yL (by rw [hS]; (try simp only [ieq_iff]); first | omega | grind)
theorem k_shape_35 {L : Lk} (hf : FnR L 316 c316) (C : ShC L) (num : Int) (tx : Str) (ns : List Str) (ks : List Nd) : K_sh L (.mk 35 num tx ns ks) := by
  intro hk1 hk2
  change ks.length ≤ 4000000 at hk1
  change ns.length ≤ 4000000 at hk2
  have hS : aloneS (.mk 35 num tx ns ks) ↔ ks.length = 3 ∧ ns.length = 2 ∧ (varOk (ns.getD 0 []) ∧ varOk (ns.getD 1 []) ∧ ns.getD 1 [] ≠ ns.getD 0 []) ∧ num = 0 ∧ tx = [] := by
    have e1 : aloneS (.mk 35 num tx ns ks) ↔ (ks.length = 3 ∧ (ns.length : Int) = 2 ∧ namesOk (.mk 35 num tx ns ks) ∧ loadOk (.mk 35 num tx ns ks)) :=
      ⟨fun h => h.2.2 (show (35 : Int) ≠ 24 by decide), fun h => ⟨⟨show (1 : Int) ≤ 35 by decide, show (35 : Int) ≤ 43 by decide⟩, fun h => absurd (show (35 : Int) = 24 from h) (by decide), fun _ => h⟩⟩
    have e2 : loadOk (.mk 35 num tx ns ks) ↔ num = 0 ∧ tx = [] := by
      unfold loadOk
      dsimp only [Nd.sort, Nd.num, Nd.text]
      simp
    rw [e1, e2]
    refine ⟨fun ⟨h1, h2, h3, h4⟩ => ?_, fun ⟨h1, h2, h3, h4⟩ => ⟨h1, by omega, (namesOk2 (n := .mk 35 num tx ns ks) h2).2 ⟨⟨h3.1.1, fun _ => h3.1⟩, h3.2.1.1, fun _ => h3.2.1, h3.2.2⟩, h4⟩⟩
    have h5 := (namesOk2 (n := .mk 35 num tx ns ks) (by show ns.length = 2; omega)).1 h3
    exact ⟨h1, by omega, ⟨h5.1.2 (show binds (35 : Int) by unfold binds; decide), h5.2.2.1 (show binds (35 : Int) by unfold binds; decide), h5.2.2.2⟩, h4⟩
  have hL := C.lit 35
  rw [pb_f (by decide)] at hL
  have hR := C.row 35
  rw [pb_t (by decide)] at hR
  have hc1 := C.has (opShape 35) 75
  rw [pb_f (by decide)] at hc1
  have hc2 := C.has (opShape 35) 35
  rw [pb_f (by decide)] at hc2
  have hne : (∃ k, KindOK k ∧ txK k = tx) → tx ≠ [] := fun ⟨k, _, h⟩ => by rw [← h]; exact txK_ne
  have hvn : ∀ s, varOk s → nameOk s := fun s h => h.1
  have hnm := C.nm
  have hvr := C.vr
  have hkr := C.kr
  have hnok := C.nok 35 num
  change CP L 316 [.agg [.d (.int .i64 35), .d (.int .i64 num), .d (.str tx), .d (.sl (encS ns)), .d (.sl (ks.map cT))]] _
  generalize aloneS (.mk 35 num tx ns ks) = P at hS ⊢
  refine CP.enter hf rfl rfl rfl ?_
  repeat' ((conv => whnf); first | (rw [wrap64 (by omega)]) | refine idx_g0 (by omega) ?_ | refine idx_g1 (by omega) ?_ | refine zM (fun _ => ?_) (fun _ => ?_) | refine zG (fun _ => ?_) (fun _ => ?_) | refine zF (fun _ => ?_) (fun _ => ?_) | refine zO (fun _ => ?_) (fun _ => ?_) | refine zH ?_ | (rw [zY]; intro _) | (rw [zX]; intro _) | refine zA (by first | omega | exact rfl | decide) ?_ | refine zB (hL) ?_ | refine zB (hR) ?_ | refine next_y _ rfl (by decide) ?_ | refine next_n rfl ?_ | refine LW.unfold ?_ | refine zB (hnm _) ?_ | refine zB (hvr _) ?_ | refine zB (hc1) ?_ | refine zB (hc2) ?_ | refine Or.elim (Classical.em (∃ k, KindOK k ∧ txK k = tx)) (fun hE => zB ((hkr _).1 hE.choose hE.choose_spec.1 hE.choose_spec.2) ?_) (fun hE => zB ((hkr _).2 hE) ?_) | fail)
  all_goals (conv => whnf)
  all_goals first
    | exact fin_n fun h => by have h := hS.1 h; first | omega | grind
    | exact yL (by rw [hS]; (try simp only [ieq_iff]); first | omega | grind)
theorem k_shape_36 {L : Lk} (hf : FnR L 316 c316) (C : ShC L) (num : Int) (tx : Str) (ns : List Str) (ks : List Nd) : K_sh L (.mk 36 num tx ns ks) := by
  intro hk1 hk2
  change ks.length ≤ 4000000 at hk1
  change ns.length ≤ 4000000 at hk2
  have hS : aloneS (.mk 36 num tx ns ks) ↔ ks.length = 0 ∧ ns.length = 0 ∧ (True) ∧ num = 0 ∧ tx = [] := by
    have e1 : aloneS (.mk 36 num tx ns ks) ↔ (ks.length = 0 ∧ (ns.length : Int) = 0 ∧ namesOk (.mk 36 num tx ns ks) ∧ loadOk (.mk 36 num tx ns ks)) :=
      ⟨fun h => h.2.2 (show (36 : Int) ≠ 24 by decide), fun h => ⟨⟨show (1 : Int) ≤ 36 by decide, show (36 : Int) ≤ 43 by decide⟩, fun h => absurd (show (36 : Int) = 24 from h) (by decide), fun _ => h⟩⟩
    have e2 : loadOk (.mk 36 num tx ns ks) ↔ num = 0 ∧ tx = [] := by
      unfold loadOk
      dsimp only [Nd.sort, Nd.num, Nd.text]
      simp
    rw [e1, e2]
    exact ⟨fun ⟨h1, h2, _, h4⟩ => ⟨h1, by omega, trivial, h4⟩, fun ⟨h1, h2, _, h4⟩ => ⟨h1, by omega, namesOk0 (n := .mk 36 num tx ns ks) h2, h4⟩⟩
  have hL := C.lit 36
  rw [pb_f (by decide)] at hL
  have hR := C.row 36
  rw [pb_t (by decide)] at hR
  have hc1 := C.has (opShape 36) 75
  rw [pb_f (by decide)] at hc1
  have hc2 := C.has (opShape 36) 35
  rw [pb_f (by decide)] at hc2
  have hne : (∃ k, KindOK k ∧ txK k = tx) → tx ≠ [] := fun ⟨k, _, h⟩ => by rw [← h]; exact txK_ne
  have hvn : ∀ s, varOk s → nameOk s := fun s h => h.1
  have hnm := C.nm
  have hvr := C.vr
  have hkr := C.kr
  have hnok := C.nok 36 num
  change CP L 316 [.agg [.d (.int .i64 36), .d (.int .i64 num), .d (.str tx), .d (.sl (encS ns)), .d (.sl (ks.map cT))]] _
  generalize aloneS (.mk 36 num tx ns ks) = P at hS ⊢
  refine CP.enter hf rfl rfl rfl ?_
  repeat' ((conv => whnf); first | refine zG (fun _ => ?_) (fun _ => ?_) | refine zF (fun _ => ?_) (fun _ => ?_) | refine zH ?_ | (rw [zY]; intro _) | (rw [zX]; intro _) | refine zB (hL) ?_ | refine zB (hR) ?_ | refine next_n rfl ?_ | refine LW.unfold ?_ | refine zB (hc1) ?_ | refine zB (hc2) ?_ | refine Or.elim (Classical.em (∃ k, KindOK k ∧ txK k = tx)) (fun hE => zB ((hkr _).1 hE.choose hE.choose_spec.1 hE.choose_spec.2) ?_) (fun hE => zB ((hkr _).2 hE) ?_) | fail)
  all_goals (conv => whnf)
  all_goals first
    | exact fin_n fun h => by have h := hS.1 h; first | omega | grind
    | exact yL (by rw [hS]; (try simp only [ieq_iff]); first | omega | grind)
theorem k_shape_37 {L : Lk} (hf : FnR L 316 c316) (C : ShC L) (num : Int) (tx : Str) (ns : List Str) (ks : List Nd) : K_sh L (.mk 37 num tx ns ks) := by
  intro hk1 hk2
  change ks.length ≤ 4000000 at hk1
  change ns.length ≤ 4000000 at hk2
  have hS : aloneS (.mk 37 num tx ns ks) ↔ ks.length = 0 ∧ ns.length = 0 ∧ (True) ∧ (0 ≤ num ∧ num ≤ 99) ∧ tx = [] := by
    have e1 : aloneS (.mk 37 num tx ns ks) ↔ (ks.length = 0 ∧ (ns.length : Int) = 0 ∧ namesOk (.mk 37 num tx ns ks) ∧ loadOk (.mk 37 num tx ns ks)) :=
      ⟨fun h => h.2.2 (show (37 : Int) ≠ 24 by decide), fun h => ⟨⟨show (1 : Int) ≤ 37 by decide, show (37 : Int) ≤ 43 by decide⟩, fun h => absurd (show (37 : Int) = 24 from h) (by decide), fun _ => h⟩⟩
    have e2 : loadOk (.mk 37 num tx ns ks) ↔ (0 ≤ num ∧ num ≤ 99) ∧ tx = [] := by
      unfold loadOk
      dsimp only [Nd.sort, Nd.num, Nd.text]
      simp
    rw [e1, e2]
    exact ⟨fun ⟨h1, h2, _, h4⟩ => ⟨h1, by omega, trivial, h4⟩, fun ⟨h1, h2, _, h4⟩ => ⟨h1, by omega, namesOk0 (n := .mk 37 num tx ns ks) h2, h4⟩⟩
  have hL := C.lit 37
  rw [pb_f (by decide)] at hL
  have hR := C.row 37
  rw [pb_t (by decide)] at hR
  have hc1 := C.has (opShape 37) 75
  rw [pb_f (by decide)] at hc1
  have hc2 := C.has (opShape 37) 35
  rw [pb_t (by decide)] at hc2
  have hne : (∃ k, KindOK k ∧ txK k = tx) → tx ≠ [] := fun ⟨k, _, h⟩ => by rw [← h]; exact txK_ne
  have hvn : ∀ s, varOk s → nameOk s := fun s h => h.1
  have hnm := C.nm
  have hvr := C.vr
  have hkr := C.kr
  have hnok := C.nok 37 num
  change CP L 316 [.agg [.d (.int .i64 37), .d (.int .i64 num), .d (.str tx), .d (.sl (encS ns)), .d (.sl (ks.map cT))]] _
  generalize aloneS (.mk 37 num tx ns ks) = P at hS ⊢
  refine CP.enter hf rfl rfl rfl ?_
  repeat' ((conv => whnf); first | refine zG (fun _ => ?_) (fun _ => ?_) | refine zF (fun _ => ?_) (fun _ => ?_) | refine zO (fun _ => ?_) (fun _ => ?_) | refine zH ?_ | (rw [zY]; intro _) | (rw [zX]; intro _) | refine zB (hL) ?_ | refine zB (hR) ?_ | refine next_y _ rfl (by decide) ?_ | refine next_n rfl ?_ | refine LW.unfold ?_ | refine zB (hc1) ?_ | refine zB (hc2) ?_ | refine zB (hnok) ?_ | refine Or.elim (Classical.em (∃ k, KindOK k ∧ txK k = tx)) (fun hE => zB ((hkr _).1 hE.choose hE.choose_spec.1 hE.choose_spec.2) ?_) (fun hE => zB ((hkr _).2 hE) ?_) | fail)
  all_goals (conv => whnf)
  all_goals first
    | exact fin_n fun h => by have h := hS.1 h; first | omega | grind
    | exact yL (by rw [hS]; (try simp only [ieq_iff]); first | omega | grind)
theorem k_shape_38 {L : Lk} (hf : FnR L 316 c316) (C : ShC L) (num : Int) (tx : Str) (ns : List Str) (ks : List Nd) : K_sh L (.mk 38 num tx ns ks) := by
  intro hk1 hk2
  change ks.length ≤ 4000000 at hk1
  change ns.length ≤ 4000000 at hk2
  have hS : aloneS (.mk 38 num tx ns ks) ↔ ks.length = 1 ∧ ns.length = 0 ∧ (True) ∧ num = 0 ∧ tx = [] := by
    have e1 : aloneS (.mk 38 num tx ns ks) ↔ (ks.length = 1 ∧ (ns.length : Int) = 0 ∧ namesOk (.mk 38 num tx ns ks) ∧ loadOk (.mk 38 num tx ns ks)) :=
      ⟨fun h => h.2.2 (show (38 : Int) ≠ 24 by decide), fun h => ⟨⟨show (1 : Int) ≤ 38 by decide, show (38 : Int) ≤ 43 by decide⟩, fun h => absurd (show (38 : Int) = 24 from h) (by decide), fun _ => h⟩⟩
    have e2 : loadOk (.mk 38 num tx ns ks) ↔ num = 0 ∧ tx = [] := by
      unfold loadOk
      dsimp only [Nd.sort, Nd.num, Nd.text]
      simp
    rw [e1, e2]
    exact ⟨fun ⟨h1, h2, _, h4⟩ => ⟨h1, by omega, trivial, h4⟩, fun ⟨h1, h2, _, h4⟩ => ⟨h1, by omega, namesOk0 (n := .mk 38 num tx ns ks) h2, h4⟩⟩
  have hL := C.lit 38
  rw [pb_f (by decide)] at hL
  have hR := C.row 38
  rw [pb_t (by decide)] at hR
  have hc1 := C.has (opShape 38) 75
  rw [pb_f (by decide)] at hc1
  have hc2 := C.has (opShape 38) 35
  rw [pb_f (by decide)] at hc2
  have hne : (∃ k, KindOK k ∧ txK k = tx) → tx ≠ [] := fun ⟨k, _, h⟩ => by rw [← h]; exact txK_ne
  have hvn : ∀ s, varOk s → nameOk s := fun s h => h.1
  have hnm := C.nm
  have hvr := C.vr
  have hkr := C.kr
  have hnok := C.nok 38 num
  change CP L 316 [.agg [.d (.int .i64 38), .d (.int .i64 num), .d (.str tx), .d (.sl (encS ns)), .d (.sl (ks.map cT))]] _
  generalize aloneS (.mk 38 num tx ns ks) = P at hS ⊢
  refine CP.enter hf rfl rfl rfl ?_
  repeat' ((conv => whnf); first | (rw [wrap64 (by omega)]) | refine zG (fun _ => ?_) (fun _ => ?_) | refine zF (fun _ => ?_) (fun _ => ?_) | refine zH ?_ | (rw [zY]; intro _) | (rw [zX]; intro _) | refine zB (hL) ?_ | refine zB (hR) ?_ | refine next_y _ rfl (by decide) ?_ | refine next_n rfl ?_ | refine LW.unfold ?_ | refine zB (hc1) ?_ | refine zB (hc2) ?_ | refine Or.elim (Classical.em (∃ k, KindOK k ∧ txK k = tx)) (fun hE => zB ((hkr _).1 hE.choose hE.choose_spec.1 hE.choose_spec.2) ?_) (fun hE => zB ((hkr _).2 hE) ?_) | fail)
  all_goals (conv => whnf)
  all_goals first
    | exact fin_n fun h => by have h := hS.1 h; first | omega | grind
    | exact yL (by rw [hS]; (try simp only [ieq_iff]); first | omega | grind)
theorem k_shape_39 {L : Lk} (hf : FnR L 316 c316) (C : ShC L) (num : Int) (tx : Str) (ns : List Str) (ks : List Nd) : K_sh L (.mk 39 num tx ns ks) := by
  intro hk1 hk2
  change ks.length ≤ 4000000 at hk1
  change ns.length ≤ 4000000 at hk2
  have hS : aloneS (.mk 39 num tx ns ks) ↔ ks.length = 1 ∧ ns.length = 1 ∧ (nameOk (ns.getD 0 [])) ∧ (1 ≤ num ∧ num ≤ 12) ∧ tx = [] := by
    have e1 : aloneS (.mk 39 num tx ns ks) ↔ (ks.length = 1 ∧ (ns.length : Int) = 1 ∧ namesOk (.mk 39 num tx ns ks) ∧ loadOk (.mk 39 num tx ns ks)) :=
      ⟨fun h => h.2.2 (show (39 : Int) ≠ 24 by decide), fun h => ⟨⟨show (1 : Int) ≤ 39 by decide, show (39 : Int) ≤ 43 by decide⟩, fun h => absurd (show (39 : Int) = 24 from h) (by decide), fun _ => h⟩⟩
    have e2 : loadOk (.mk 39 num tx ns ks) ↔ (1 ≤ num ∧ num ≤ 12) ∧ tx = [] := by
      unfold loadOk
      dsimp only [Nd.sort, Nd.num, Nd.text]
      simp
    rw [e1, e2]
    exact ⟨fun ⟨h1, h2, h3, h4⟩ => ⟨h1, by omega, ((namesOk1 (n := .mk 39 num tx ns ks) (by show ns.length = 1; omega)).1 h3).1, h4⟩, fun ⟨h1, h2, h3, h4⟩ => ⟨h1, by omega, (namesOk1 (n := .mk 39 num tx ns ks) h2).2 ⟨h3, fun hb => absurd hb (show ¬ binds (39 : Int) by unfold binds; decide)⟩, h4⟩⟩
  have hL := C.lit 39
  rw [pb_f (by decide)] at hL
  have hR := C.row 39
  rw [pb_t (by decide)] at hR
  have hc1 := C.has (opShape 39) 75
  rw [pb_f (by decide)] at hc1
  have hc2 := C.has (opShape 39) 35
  rw [pb_t (by decide)] at hc2
  have hne : (∃ k, KindOK k ∧ txK k = tx) → tx ≠ [] := fun ⟨k, _, h⟩ => by rw [← h]; exact txK_ne
  have hvn : ∀ s, varOk s → nameOk s := fun s h => h.1
  have hnm := C.nm
  have hvr := C.vr
  have hkr := C.kr
  have hnok := C.nok 39 num
  change CP L 316 [.agg [.d (.int .i64 39), .d (.int .i64 num), .d (.str tx), .d (.sl (encS ns)), .d (.sl (ks.map cT))]] _
  generalize aloneS (.mk 39 num tx ns ks) = P at hS ⊢
  refine CP.enter hf rfl rfl rfl ?_
  repeat' ((conv => whnf); first | (rw [wrap64 (by omega)]) | refine idx_g0 (by omega) ?_ | refine zM (fun _ => ?_) (fun _ => ?_) | refine zG (fun _ => ?_) (fun _ => ?_) | refine zF (fun _ => ?_) (fun _ => ?_) | refine zO (fun _ => ?_) (fun _ => ?_) | refine zH ?_ | (rw [zY]; intro _) | (rw [zX]; intro _) | refine zA (by first | omega | exact rfl | decide) ?_ | refine zB (hL) ?_ | refine zB (hR) ?_ | refine next_y _ rfl (by decide) ?_ | refine next_n rfl ?_ | refine LW.unfold ?_ | refine zB (hnm _) ?_ | refine zB (hc1) ?_ | refine zB (hc2) ?_ | refine zB (hnok) ?_ | refine Or.elim (Classical.em (∃ k, KindOK k ∧ txK k = tx)) (fun hE => zB ((hkr _).1 hE.choose hE.choose_spec.1 hE.choose_spec.2) ?_) (fun hE => zB ((hkr _).2 hE) ?_) | fail)
  all_goals (conv => whnf)
  all_goals first
    | exact fin_n fun h => by have h := hS.1 h; first | omega | grind
    | exact yL (by rw [hS]; (try simp only [ieq_iff]); first | omega | grind)
theorem k_shape_40 {L : Lk} (hf : FnR L 316 c316) (C : ShC L) (num : Int) (tx : Str) (ns : List Str) (ks : List Nd) : K_sh L (.mk 40 num tx ns ks) := by
  intro hk1 hk2
  change ks.length ≤ 4000000 at hk1
  change ns.length ≤ 4000000 at hk2
  have hS : aloneS (.mk 40 num tx ns ks) ↔ ks.length = 2 ∧ ns.length = 0 ∧ (True) ∧ num = 0 ∧ tx = [] := by
    have e1 : aloneS (.mk 40 num tx ns ks) ↔ (ks.length = 2 ∧ (ns.length : Int) = 0 ∧ namesOk (.mk 40 num tx ns ks) ∧ loadOk (.mk 40 num tx ns ks)) :=
      ⟨fun h => h.2.2 (show (40 : Int) ≠ 24 by decide), fun h => ⟨⟨show (1 : Int) ≤ 40 by decide, show (40 : Int) ≤ 43 by decide⟩, fun h => absurd (show (40 : Int) = 24 from h) (by decide), fun _ => h⟩⟩
    have e2 : loadOk (.mk 40 num tx ns ks) ↔ num = 0 ∧ tx = [] := by
      unfold loadOk
      dsimp only [Nd.sort, Nd.num, Nd.text]
      simp
    rw [e1, e2]
    exact ⟨fun ⟨h1, h2, _, h4⟩ => ⟨h1, by omega, trivial, h4⟩, fun ⟨h1, h2, _, h4⟩ => ⟨h1, by omega, namesOk0 (n := .mk 40 num tx ns ks) h2, h4⟩⟩
  have hL := C.lit 40
  rw [pb_f (by decide)] at hL
  have hR := C.row 40
  rw [pb_t (by decide)] at hR
  have hc1 := C.has (opShape 40) 75
  rw [pb_f (by decide)] at hc1
  have hc2 := C.has (opShape 40) 35
  rw [pb_f (by decide)] at hc2
  have hne : (∃ k, KindOK k ∧ txK k = tx) → tx ≠ [] := fun ⟨k, _, h⟩ => by rw [← h]; exact txK_ne
  have hvn : ∀ s, varOk s → nameOk s := fun s h => h.1
  have hnm := C.nm
  have hvr := C.vr
  have hkr := C.kr
  have hnok := C.nok 40 num
  change CP L 316 [.agg [.d (.int .i64 40), .d (.int .i64 num), .d (.str tx), .d (.sl (encS ns)), .d (.sl (ks.map cT))]] _
  generalize aloneS (.mk 40 num tx ns ks) = P at hS ⊢
  refine CP.enter hf rfl rfl rfl ?_
  repeat' ((conv => whnf); first | (rw [wrap64 (by omega)]) | refine zG (fun _ => ?_) (fun _ => ?_) | refine zF (fun _ => ?_) (fun _ => ?_) | refine zH ?_ | (rw [zY]; intro _) | (rw [zX]; intro _) | refine zB (hL) ?_ | refine zB (hR) ?_ | refine next_y _ rfl (by decide) ?_ | refine next_n rfl ?_ | refine LW.unfold ?_ | refine zB (hc1) ?_ | refine zB (hc2) ?_ | refine Or.elim (Classical.em (∃ k, KindOK k ∧ txK k = tx)) (fun hE => zB ((hkr _).1 hE.choose hE.choose_spec.1 hE.choose_spec.2) ?_) (fun hE => zB ((hkr _).2 hE) ?_) | fail)
  all_goals (conv => whnf)
  all_goals first
    | exact fin_n fun h => by have h := hS.1 h; first | omega | grind
    | exact yL (by rw [hS]; (try simp only [ieq_iff]); first | omega | grind)
theorem k_shape_41 {L : Lk} (hf : FnR L 316 c316) (C : ShC L) (num : Int) (tx : Str) (ns : List Str) (ks : List Nd) : K_sh L (.mk 41 num tx ns ks) := by
  intro hk1 hk2
  change ks.length ≤ 4000000 at hk1
  change ns.length ≤ 4000000 at hk2
  have hS : aloneS (.mk 41 num tx ns ks) ↔ ks.length = 3 ∧ ns.length = 0 ∧ (True) ∧ num = 0 ∧ tx = [] := by
    have e1 : aloneS (.mk 41 num tx ns ks) ↔ (ks.length = 3 ∧ (ns.length : Int) = 0 ∧ namesOk (.mk 41 num tx ns ks) ∧ loadOk (.mk 41 num tx ns ks)) :=
      ⟨fun h => h.2.2 (show (41 : Int) ≠ 24 by decide), fun h => ⟨⟨show (1 : Int) ≤ 41 by decide, show (41 : Int) ≤ 43 by decide⟩, fun h => absurd (show (41 : Int) = 24 from h) (by decide), fun _ => h⟩⟩
    have e2 : loadOk (.mk 41 num tx ns ks) ↔ num = 0 ∧ tx = [] := by
      unfold loadOk
      dsimp only [Nd.sort, Nd.num, Nd.text]
      simp
    rw [e1, e2]
    exact ⟨fun ⟨h1, h2, _, h4⟩ => ⟨h1, by omega, trivial, h4⟩, fun ⟨h1, h2, _, h4⟩ => ⟨h1, by omega, namesOk0 (n := .mk 41 num tx ns ks) h2, h4⟩⟩
  have hL := C.lit 41
  rw [pb_f (by decide)] at hL
  have hR := C.row 41
  rw [pb_t (by decide)] at hR
  have hc1 := C.has (opShape 41) 75
  rw [pb_f (by decide)] at hc1
  have hc2 := C.has (opShape 41) 35
  rw [pb_f (by decide)] at hc2
  have hne : (∃ k, KindOK k ∧ txK k = tx) → tx ≠ [] := fun ⟨k, _, h⟩ => by rw [← h]; exact txK_ne
  have hvn : ∀ s, varOk s → nameOk s := fun s h => h.1
  have hnm := C.nm
  have hvr := C.vr
  have hkr := C.kr
  have hnok := C.nok 41 num
  change CP L 316 [.agg [.d (.int .i64 41), .d (.int .i64 num), .d (.str tx), .d (.sl (encS ns)), .d (.sl (ks.map cT))]] _
  generalize aloneS (.mk 41 num tx ns ks) = P at hS ⊢
  refine CP.enter hf rfl rfl rfl ?_
  repeat' ((conv => whnf); first | (rw [wrap64 (by omega)]) | refine zG (fun _ => ?_) (fun _ => ?_) | refine zF (fun _ => ?_) (fun _ => ?_) | refine zH ?_ | (rw [zY]; intro _) | (rw [zX]; intro _) | refine zB (hL) ?_ | refine zB (hR) ?_ | refine next_y _ rfl (by decide) ?_ | refine next_n rfl ?_ | refine LW.unfold ?_ | refine zB (hc1) ?_ | refine zB (hc2) ?_ | refine Or.elim (Classical.em (∃ k, KindOK k ∧ txK k = tx)) (fun hE => zB ((hkr _).1 hE.choose hE.choose_spec.1 hE.choose_spec.2) ?_) (fun hE => zB ((hkr _).2 hE) ?_) | fail)
  all_goals (conv => whnf)
  all_goals first
    | exact fin_n fun h => by have h := hS.1 h; first | omega | grind
    | exact yL (by rw [hS]; (try simp only [ieq_iff]); first | omega | grind)
theorem k_shape_42 {L : Lk} (hf : FnR L 316 c316) (C : ShC L) (num : Int) (tx : Str) (ns : List Str) (ks : List Nd) : K_sh L (.mk 42 num tx ns ks) := by
  intro hk1 hk2
  change ks.length ≤ 4000000 at hk1
  change ns.length ≤ 4000000 at hk2
  have hS : aloneS (.mk 42 num tx ns ks) ↔ ks.length = 2 ∧ ns.length = 1 ∧ (varOk (ns.getD 0 [])) ∧ num = 0 ∧ tx = [] := by
    have e1 : aloneS (.mk 42 num tx ns ks) ↔ (ks.length = 2 ∧ (ns.length : Int) = 1 ∧ namesOk (.mk 42 num tx ns ks) ∧ loadOk (.mk 42 num tx ns ks)) :=
      ⟨fun h => h.2.2 (show (42 : Int) ≠ 24 by decide), fun h => ⟨⟨show (1 : Int) ≤ 42 by decide, show (42 : Int) ≤ 43 by decide⟩, fun h => absurd (show (42 : Int) = 24 from h) (by decide), fun _ => h⟩⟩
    have e2 : loadOk (.mk 42 num tx ns ks) ↔ num = 0 ∧ tx = [] := by
      unfold loadOk
      dsimp only [Nd.sort, Nd.num, Nd.text]
      simp
    rw [e1, e2]
    exact ⟨fun ⟨h1, h2, h3, h4⟩ => ⟨h1, by omega, ((namesOk1 (n := .mk 42 num tx ns ks) (by show ns.length = 1; omega)).1 h3).2 (show binds (42 : Int) by unfold binds; decide), h4⟩, fun ⟨h1, h2, h3, h4⟩ => ⟨h1, by omega, (namesOk1 (n := .mk 42 num tx ns ks) h2).2 ⟨h3.1, fun _ => h3⟩, h4⟩⟩
  have hL := C.lit 42
  rw [pb_f (by decide)] at hL
  have hR := C.row 42
  rw [pb_t (by decide)] at hR
  have hc1 := C.has (opShape 42) 75
  rw [pb_f (by decide)] at hc1
  have hc2 := C.has (opShape 42) 35
  rw [pb_f (by decide)] at hc2
  have hne : (∃ k, KindOK k ∧ txK k = tx) → tx ≠ [] := fun ⟨k, _, h⟩ => by rw [← h]; exact txK_ne
  have hvn : ∀ s, varOk s → nameOk s := fun s h => h.1
  have hnm := C.nm
  have hvr := C.vr
  have hkr := C.kr
  have hnok := C.nok 42 num
  change CP L 316 [.agg [.d (.int .i64 42), .d (.int .i64 num), .d (.str tx), .d (.sl (encS ns)), .d (.sl (ks.map cT))]] _
  generalize aloneS (.mk 42 num tx ns ks) = P at hS ⊢
  refine CP.enter hf rfl rfl rfl ?_
  repeat' ((conv => whnf); first | (rw [wrap64 (by omega)]) | refine idx_g0 (by omega) ?_ | refine zM (fun _ => ?_) (fun _ => ?_) | refine zG (fun _ => ?_) (fun _ => ?_) | refine zF (fun _ => ?_) (fun _ => ?_) | refine zO (fun _ => ?_) (fun _ => ?_) | refine zH ?_ | (rw [zY]; intro _) | (rw [zX]; intro _) | refine zA (by first | omega | exact rfl | decide) ?_ | refine zB (hL) ?_ | refine zB (hR) ?_ | refine next_y _ rfl (by decide) ?_ | refine next_n rfl ?_ | refine LW.unfold ?_ | refine zB (hnm _) ?_ | refine zB (hvr _) ?_ | refine zB (hc1) ?_ | refine zB (hc2) ?_ | refine Or.elim (Classical.em (∃ k, KindOK k ∧ txK k = tx)) (fun hE => zB ((hkr _).1 hE.choose hE.choose_spec.1 hE.choose_spec.2) ?_) (fun hE => zB ((hkr _).2 hE) ?_) | fail)
  all_goals (conv => whnf)
  all_goals first
    | exact fin_n fun h => by have h := hS.1 h; first | omega | grind
    | exact yL (by rw [hS]; (try simp only [ieq_iff]); first | omega | grind)
theorem k_shape_43 {L : Lk} (hf : FnR L 316 c316) (C : ShC L) (num : Int) (tx : Str) (ns : List Str) (ks : List Nd) : K_sh L (.mk 43 num tx ns ks) := by
  intro hk1 hk2
  change ks.length ≤ 4000000 at hk1
  change ns.length ≤ 4000000 at hk2
  have hS : aloneS (.mk 43 num tx ns ks) ↔ ks.length = 2 ∧ ns.length = 1 ∧ (varOk (ns.getD 0 [])) ∧ num = 0 ∧ tx = [] := by
    have e1 : aloneS (.mk 43 num tx ns ks) ↔ (ks.length = 2 ∧ (ns.length : Int) = 1 ∧ namesOk (.mk 43 num tx ns ks) ∧ loadOk (.mk 43 num tx ns ks)) :=
      ⟨fun h => h.2.2 (show (43 : Int) ≠ 24 by decide), fun h => ⟨⟨show (1 : Int) ≤ 43 by decide, show (43 : Int) ≤ 43 by decide⟩, fun h => absurd (show (43 : Int) = 24 from h) (by decide), fun _ => h⟩⟩
    have e2 : loadOk (.mk 43 num tx ns ks) ↔ num = 0 ∧ tx = [] := by
      unfold loadOk
      dsimp only [Nd.sort, Nd.num, Nd.text]
      simp
    rw [e1, e2]
    exact ⟨fun ⟨h1, h2, h3, h4⟩ => ⟨h1, by omega, ((namesOk1 (n := .mk 43 num tx ns ks) (by show ns.length = 1; omega)).1 h3).2 (show binds (43 : Int) by unfold binds; decide), h4⟩, fun ⟨h1, h2, h3, h4⟩ => ⟨h1, by omega, (namesOk1 (n := .mk 43 num tx ns ks) h2).2 ⟨h3.1, fun _ => h3⟩, h4⟩⟩
  have hL := C.lit 43
  rw [pb_f (by decide)] at hL
  have hR := C.row 43
  rw [pb_t (by decide)] at hR
  have hc1 := C.has (opShape 43) 75
  rw [pb_f (by decide)] at hc1
  have hc2 := C.has (opShape 43) 35
  rw [pb_f (by decide)] at hc2
  have hne : (∃ k, KindOK k ∧ txK k = tx) → tx ≠ [] := fun ⟨k, _, h⟩ => by rw [← h]; exact txK_ne
  have hvn : ∀ s, varOk s → nameOk s := fun s h => h.1
  have hnm := C.nm
  have hvr := C.vr
  have hkr := C.kr
  have hnok := C.nok 43 num
  change CP L 316 [.agg [.d (.int .i64 43), .d (.int .i64 num), .d (.str tx), .d (.sl (encS ns)), .d (.sl (ks.map cT))]] _
  generalize aloneS (.mk 43 num tx ns ks) = P at hS ⊢
  refine CP.enter hf rfl rfl rfl ?_
  repeat' ((conv => whnf); first | (rw [wrap64 (by omega)]) | refine idx_g0 (by omega) ?_ | refine zM (fun _ => ?_) (fun _ => ?_) | refine zG (fun _ => ?_) (fun _ => ?_) | refine zF (fun _ => ?_) (fun _ => ?_) | refine zO (fun _ => ?_) (fun _ => ?_) | refine zH ?_ | (rw [zY]; intro _) | (rw [zX]; intro _) | refine zA (by first | omega | exact rfl | decide) ?_ | refine zB (hL) ?_ | refine zB (hR) ?_ | refine next_y _ rfl (by decide) ?_ | refine next_n rfl ?_ | refine LW.unfold ?_ | refine zB (hnm _) ?_ | refine zB (hvr _) ?_ | refine zB (hc1) ?_ | refine zB (hc2) ?_ | refine Or.elim (Classical.em (∃ k, KindOK k ∧ txK k = tx)) (fun hE => zB ((hkr _).1 hE.choose hE.choose_spec.1 hE.choose_spec.2) ?_) (fun hE => zB ((hkr _).2 hE) ?_) | fail)
  all_goals (conv => whnf)
  all_goals first
    | exact fin_n fun h => by have h := hS.1 h; first | omega | grind
    | exact yL (by rw [hS]; (try simp only [ieq_iff]); first | omega | grind)
end Go.Ab
namespace Go.Ab
open Go
set_option maxHeartbeats 4000000
attribute [local irreducible] Need IdxK FinK NextK CKs CQs ltS
theorem k_shape_lit {L : Lk} (hf : FnR L 316 c316) (C : ShC L) (hT : K_aloneT L 364) (hLi : ∀ t : Nd, 1 ≤ t.sort ∧ t.sort ≤ 3 → CP L 253 [aT t] (aT (.mk t.sort t.num t.text [] []))) (n : Nd) (h : n.sort = 1 ∨ n.sort = 2 ∨ n.sort = 3) : K_sh L n := by
  intro hk1 hk2
  have hS : aloneS n ↔ aloneT (.mk n.sort n.num n.text [] []) ∧ n.names.length = 0 ∧ n.kids.length = 0 := by
    have ek : (kidsOf n.sort).length = 0 := by rcases h with h | h | h <;> rw [h] <;> decide
    have en : nNames n.sort = 0 := by rcases h with h | h | h <;> rw [h] <;> decide
    constructor
    · rintro ⟨_, _, k⟩
      obtain ⟨k1, k2, k3, k4⟩ := k (by omega)
      exact ⟨k4.1 h, by omega, by omega⟩
    · rintro ⟨k1, k2, k3⟩
      refine ⟨by omega, fun h => by omega, fun _ => ⟨by omega, by omega, namesOk0 k2, fun _ => k1, fun h => by omega, fun h => by omega, fun h => by omega, fun h => by omega⟩⟩
  have hL := C.lit n.sort
  rw [pb_t (by omega)] at hL
  have hT := hT (.mk n.sort n.num n.text [] [])
  refine CP.enter hf rfl rfl rfl ?_
  repeat' ((conv => whnf); first | (rw [wrap64 (by omega)]) | refine zO (fun _ => ?_) (fun _ => ?_) | (rw [zY]; intro _) | (rw [zX]; intro _) | refine zB (hL) ?_ | refine zB (hLi n (by omega)) ?_ | refine zB (hT) ?_ | fail)
  all_goals (conv => whnf)
  all_goals first
    | exact yL (by rw [hS]; simp only [ieq_iff]; grind)
    | exact fin_n fun h => by have h := hS.1 h; grind
theorem k_shape_name {L : Lk} (hf : FnR L 316 c316) (C : ShC L) (n : Nd) (h : n.sort = 4) : K_sh L n := by
  intro hk1 hk2
  have hS : aloneS n ↔ n.num = 0 ∧ n.text = [] ∧ n.names.length = 1 ∧ varOk (n.names.getD 0 []) ∧ n.kids.length = 0 := by
    have ek : (kidsOf n.sort).length = 0 := by rw [h]; decide
    have en : nNames n.sort = 1 := by rw [h]; decide
    have eb : binds n.sort := by rw [h]; unfold binds; decide
    constructor
    · rintro ⟨_, _, k⟩
      obtain ⟨k1, k2, k3, k4⟩ := k (by omega)
      have k5 := k4.2.2.2.2 (by omega)
      exact ⟨k5.1, k5.2, by omega, ((namesOk1 (by omega)).1 k3).2 eb, by omega⟩
    · rintro ⟨k1, k2, k3, k4, k5⟩
      refine ⟨by omega, fun h => by omega, fun _ => ⟨by omega, by omega, (namesOk1 k3).2 ⟨k4.1, fun _ => k4⟩, fun h => by omega, fun h => by omega, fun h => by omega, fun h => by omega, fun _ => ⟨k1, k2⟩⟩⟩
  have hL := C.lit n.sort
  rw [pb_f (by omega)] at hL
  have hvr := C.vr
  refine CP.enter hf rfl rfl rfl ?_
  repeat' ((conv => whnf); first | (exfalso; omega) | refine idx_g0 (by omega) ?_ | refine zG (fun _ => ?_) (fun _ => ?_) | refine zF (fun _ => ?_) (fun _ => ?_) | refine zO (fun _ => ?_) (fun _ => ?_) | (rw [zY]; intro _) | (rw [zX]; intro _) | refine zA (by first | omega | exact rfl | decide) ?_ | refine zB (hL) ?_ | refine zB (hvr _) ?_ | fail)
  all_goals (conv => whnf)
  all_goals first
    | exact yL (by rw [hS]; simp only [ieq_iff]; grind)
    | exact fin_n fun h => by have h := hS.1 h; grind
theorem k_shape_form {L : Lk} (hf : FnR L 316 c316) (C : ShC L) (hR : K_rise L 314) (hCs : ∀ (l : List Str) (w : Str), CP L 366 [.d (.sl (encS l)), .d (.str w)] (.d (.bool (pb (w ∈ l))))) (n : Nd) (h : n.sort = 24) : K_sh L n := by
  intro hk1 hk2
  have hS : aloneS n ↔ n.num = 0 ∧ n.text = [] ∧ rise n.names ∧ n.names.length = n.kids.length ∧ [101, 110, 100] ∉ n.names :=
    ⟨fun k => k.2.1 h, fun k => ⟨by omega, fun _ => k, fun h => by omega⟩⟩
  have hL := C.lit n.sort
  rw [pb_f (by omega)] at hL
  have hRw := C.row n.sort
  rw [pb_t (by omega)] at hRw
  refine CP.enter hf rfl rfl rfl ?_
  repeat' ((conv => whnf); first | (exfalso; omega) | refine zG (fun _ => ?_) (fun _ => ?_) | refine zF (fun _ => ?_) (fun _ => ?_) | refine zO (fun _ => ?_) (fun _ => ?_) | (rw [zY]; intro _) | (rw [zX]; intro _) | refine zB (hL) ?_ | refine zB (hRw) ?_ | refine zB (hR _) ?_ | refine zB (hCs _ _) ?_ | fail)
  all_goals (conv => whnf)
  all_goals first
    | exact yL (by rw [hS]; simp only [ieq_iff]; grind)
    | exact fin_n fun h => by have h := hS.1 h; grind
theorem k_shape_out {L : Lk} (hf : FnR L 316 c316) (C : ShC L) (n : Nd) (h : ¬ (1 ≤ n.sort ∧ n.sort ≤ 43)) : K_sh L n := by
  intro hk1 hk2
  have hL := C.lit n.sort
  rw [pb_f (by omega)] at hL
  have hRw := C.row n.sort
  rw [pb_f (by omega)] at hRw
  refine CP.enter hf rfl rfl rfl ?_
  repeat' ((conv => whnf); first | (exfalso; omega) | refine zG (fun _ => ?_) (fun _ => ?_) | refine zB (hL) ?_ | refine zB (hRw) ?_ | fail)
  all_goals (conv => whnf)
  all_goals exact fin_n fun k => h k.1
theorem k_shapeOkN {L : Lk} (hf : FnR L 316 c316) (C : ShC L) (hT : K_aloneT L 364) (hLi : ∀ t : Nd, 1 ≤ t.sort ∧ t.sort ≤ 3 → CP L 253 [aT t] (aT (.mk t.sort t.num t.text [] []))) (hR : K_rise L 314)
    (hCs : ∀ (l : List Str) (w : Str), CP L 366 [.d (.sl (encS l)), .d (.str w)] (.d (.bool (pb (w ∈ l))))) : ∀ n : Nd, K_sh L n := by
  intro n
  by_cases h0 : 1 ≤ n.sort ∧ n.sort ≤ 43
  · by_cases h1 : n.sort = 1 ∨ n.sort = 2 ∨ n.sort = 3
    · exact k_shape_lit hf C hT hLi n h1
    by_cases h4 : n.sort = 4
    · exact k_shape_name hf C n h4
    by_cases h24 : n.sort = 24
    · exact k_shape_form hf C hR hCs n h24
    cases n with
    | mk op num tx ns ks =>
      dsimp only [Nd.sort] at h0 h1 h4 h24
      obtain ⟨o, ho⟩ : ∃ o : Nat, op = o := ⟨op.toNat, by omega⟩
      have ho2 : o < 44 := by omega
      subst ho
      match o, ho2 with
      | 0, _ => omega
      | 1, _ => exact absurd (by omega) h1
      | 2, _ => exact absurd (by omega) h1
      | 3, _ => exact absurd (by omega) h1
      | 4, _ => exact absurd rfl h4
      | 5, _ => exact k_shape_5 hf C num tx ns ks
      | 6, _ => exact k_shape_6 hf C num tx ns ks
      | 7, _ => exact k_shape_7 hf C num tx ns ks
      | 8, _ => exact k_shape_8 hf C num tx ns ks
      | 9, _ => exact k_shape_9 hf C num tx ns ks
      | 10, _ => exact k_shape_10 hf C num tx ns ks
      | 11, _ => exact k_shape_11 hf C num tx ns ks
      | 12, _ => exact k_shape_12 hf C num tx ns ks
      | 13, _ => exact k_shape_13 hf C num tx ns ks
      | 14, _ => exact k_shape_14 hf C num tx ns ks
      | 15, _ => exact k_shape_15 hf C num tx ns ks
      | 16, _ => exact k_shape_16 hf C num tx ns ks
      | 17, _ => exact k_shape_17 hf C num tx ns ks
      | 18, _ => exact k_shape_18 hf C num tx ns ks
      | 19, _ => exact k_shape_19 hf C num tx ns ks
      | 20, _ => exact k_shape_20 hf C num tx ns ks
      | 21, _ => exact k_shape_21 hf C num tx ns ks
      | 22, _ => exact k_shape_22 hf C num tx ns ks
      | 23, _ => exact k_shape_23 hf C num tx ns ks
      | 24, _ => exact absurd rfl h24
      | 25, _ => exact k_shape_25 hf C num tx ns ks
      | 26, _ => exact k_shape_26 hf C num tx ns ks
      | 27, _ => exact k_shape_27 hf C num tx ns ks
      | 28, _ => exact k_shape_28 hf C num tx ns ks
      | 29, _ => exact k_shape_29 hf C num tx ns ks
      | 30, _ => exact k_shape_30 hf C num tx ns ks
      | 31, _ => exact k_shape_31 hf C num tx ns ks
      | 32, _ => exact k_shape_32 hf C num tx ns ks
      | 33, _ => exact k_shape_33 hf C num tx ns ks
      | 34, _ => exact k_shape_34 hf C num tx ns ks
      | 35, _ => exact k_shape_35 hf C num tx ns ks
      | 36, _ => exact k_shape_36 hf C num tx ns ks
      | 37, _ => exact k_shape_37 hf C num tx ns ks
      | 38, _ => exact k_shape_38 hf C num tx ns ks
      | 39, _ => exact k_shape_39 hf C num tx ns ks
      | 40, _ => exact k_shape_40 hf C num tx ns ks
      | 41, _ => exact k_shape_41 hf C num tx ns ks
      | 42, _ => exact k_shape_42 hf C num tx ns ks
      | 43, _ => exact k_shape_43 hf C num tx ns ks
  · exact k_shape_out hf C n h0
theorem k_kidIsA {L : Lk} (hf : FnR L 317 c317) (hR : ∀ op : Int, CP L 254 [.d (.int .i64 op)] (.tup [.agg [.d (.str (opWord op)), .d (.str (opShape op))], .d (.bool (pb (5 ≤ op ∧ op ≤ 43)))])) :
    ∀ (t : Nd) (i : Nat), aloneS t → i < t.kids.length → CP L 317 [.d (.int .i64 t.sort), .d (.int .i64 i)] (.d (.bool (kaN t i))) := by
  intro t i ha hi
  by_cases h : t.sort = 24
  · rw [← kaN_f h]
    have hR := hR t.sort
    rw [pb_t (by omega)] at hR
    refine CP.enter hf rfl rfl rfl ?_
    repeat' ((conv => whnf); first | (exfalso; omega) | refine zG (fun _ => ?_) (fun _ => ?_) | refine zB (hR) ?_ | fail)
    all_goals (conv => whnf)
    all_goals exact yJ rfl
  · have hl := (ha.2.2 h).1
    rw [← kaN_n h (by omega)]
    exact k_kidIsAction hf hR t.sort i (by omega) h
def K_lookN (L : Lk) (t : Nd) : Prop := ∀ (a : Bool) (d : Int) (p : Nat), Sm t → 0 ≤ d ∧ d ≤ 25 → p ≤ 200 →
  (okN a d t ∧ p + t.size ≤ 200 → CT L 246 [aT t, .d (.bool a), .d (.int .i64 d), .ptr 0 0] 1 [.var 0 [.d (.int .i64 p)]] [] (.d (.bool true)) 1 [.var 0 [.d (.int .i64 ((p + t.size : Nat) : Int))]] []) ∧
  (¬ (okN a d t ∧ p + t.size ≤ 200) → CT L 246 [aT t, .d (.bool a), .d (.int .i64 d), .ptr 0 0] 1 [.var 0 [.d (.int .i64 p)]] [] (.d (.bool false)) 1 [.var 0 [.junk]] [])
theorem k_lookN {L : Lk} (hf : FnR L 246 c246) (hA : ∀ n : Nd, K_sh L n) (hIs : ∀ op : Int, CP L 315 [.d (.int .i64 op)] (.d (.bool (pb (36 ≤ op ∧ op ≤ 43)))))
    (hKa : ∀ (t : Nd) (i : Nat), aloneS t → i < t.kids.length → CP L 317 [.d (.int .i64 t.sort), .d (.int .i64 i)] (.d (.bool (kaN t i)))) : ∀ t : Nd, K_lookN L t := by
  refine Nd.ind fun t ihT => ?_
  intro a d p hs hd hp
  have hAt := hA t hs.kids hs.names
  have hks := hs.kids
  have hx : ∀ i (h : i < t.kids.length) (q : Nat), 0 ≤ d + 1 ∧ d + 1 ≤ 25 → q ≤ 200 → _ := fun i h q h1 h2 => ihT _ (List.getElem_mem h) (kaN t i) (d + 1) q (hs.kid h) h1 h2
  refine ⟨fun hok => ?_, fun hno => ?_⟩
  · have ht := okN_top hok.1
    have hal := (aloneS_iff.1 ht.2)
    have hsz := t.size_pos
    rw [pb_t hal.1] at hAt
    have hr := hal.1.1
    have hact := hIs t.sort
    have hact2 : pb (36 ≤ t.sort ∧ t.sort ≤ 43) = a := by
      cases a with
      | true => exact pb_t ⟨hal.2.1 rfl, hr.2⟩
      | false => exact pb_f fun h => by have := hal.2.2 h.1; cases this
    rw [hact2] at hact
    have hkid : ∀ i (h : i < t.kids.length), okN (kaN t i) (d + 1) t.kids[i] ∧ (p + 1 + sizes (t.kids.take i)) + t.kids[i].size ≤ 200 := fun i h => by
      have := okN_kid (i := i) (m := 200 - p) ⟨hok.1, by omega⟩ h; exact ⟨this.1, by omega⟩
    cases a
    all_goals refine CT.enter hf rfl (Nat.le_refl _) (Nat.le_refl _) ?_
    repeat' ((conv => whnf); first | (exfalso; omega) | (rw [wrap64 (by omega)]) | refine zI (fun _ => ?_) (fun _ => ?_) | (rw [zY]; intro _) | refine zA (by first | omega | exact rfl | decide) ?_ | refine yF (by omega) ?_ | refine zB (hact) ?_ | refine zB (hAt) ?_ | refine zC (hKa t i hal.1 (by omega)) ?_ | refine zD ((hx i (by omega) (p + 1 + sizes (t.kids.take i)) (by omega) (by have := (hkid i (by omega)).2; omega)).1 (hkid i (by omega))) [0] [] rfl rfl rfl rfl rfl ⟨rfl, trivial⟩ trivial ?_ | refine ih _ (by omega) (trivial) (by refine ⟨?_, ?_, ?_⟩ <;> (repeat' (first | exact trivial | (refine zW ?_; rw [sizes_take (by omega)]; omega) | (refine zW ?_; simp) | exact rfl | exact Nat.le_of_ble_eq_true rfl | exact Or.inl rfl | apply And.intro))) | ((fail_if_success (have _h := ih)); refine LW.count t.kids.length (fun i => True) (fun i => ⟨[(39, .d (.int .i64 i)), (2, .d (.int .i64 d)), (3, .ptr 0 0), (4, .ptr 1 0), (37, .d (.sl (t.kids.map cT))), (38, .d (.int .i64 t.kids.length))], 2, [.var 0 [.d (.int .i64 ((p + 1 + sizes (t.kids.take i) : Nat) : Int))], .var 0 [.d (.int .i64 t.sort), .d (.int .i64 t.num), .d (.str t.text), .d (.sl (encS t.names)), .d (.sl (t.kids.map cT))]], []⟩) (fun _ => ⟨rfl, rfl, rfl⟩) (fun i hi hI ih => ?_) (trivial) _ (by refine ⟨?_, ?_, ?_⟩ <;> (repeat' (first | exact trivial | (refine zW ?_; simp [sizes]) | exact rfl | exact Nat.le_of_ble_eq_true rfl | exact Or.inl rfl | apply And.intro)))) | fail)
    all_goals (conv => whnf)
    all_goals (refine yK ?_ ?_ ?_ ?_ <;> (repeat' (first | exact trivial | (refine zW ?_; rw [t.size_eq, ← sizes_all (l := t.kids) (i := i) (by omega)]; omega) | exact rfl  | exact Or.inl rfl  | apply And.intro)); done)
  · have hact := hIs t.sort
    by_cases hS : aloneS t
    · rw [pb_t hS] at hAt
      have hr := hS.1
      have hact2 : ∀ b : Bool, a = !b → pb (36 ≤ t.sort ∧ t.sort ≤ 43) = b → True := fun _ _ _ => trivial
      by_cases hac : pb (36 ≤ t.sort ∧ t.sort ≤ 43) = a
      · rw [hac] at hact
        have hal : aloneN a t := aloneS_iff.2 ⟨hS, by
          rw [← hac, pb_iff]; exact ⟨fun h => h.1, fun h => ⟨h, hr.2⟩⟩⟩
        cases a
        all_goals refine CT.enter hf rfl (Nat.le_refl _) (Nat.le_refl _) ?_
        repeat' ((conv => whnf); first | (rw [wrap64 (by omega)]) | refine zI (fun _ => ?_) (fun _ => ?_) | (rw [zY]; intro _) | refine zA (by first | omega | exact rfl | decide) ?_ | refine yF (by omega) ?_ | refine zB (hact) ?_ | refine zB (hAt) ?_ | refine zC (hKa t i hS (by omega)) ?_ | (refine Or.elim (Classical.em (okN (kaN t i) (d + 1) (t.kids[i]'(by omega)) ∧ (p + 1 + sizes (t.kids.take i)) + (t.kids[i]'(by omega)).size ≤ 200)) (fun hP => ?_) (fun hP => ?_) <;> first | refine zD ((hx i (by omega) (p + 1 + sizes (t.kids.take i)) (by omega) (by omega)).1 hP) [0] [] rfl rfl rfl rfl rfl ⟨rfl, trivial⟩ trivial ?_ | refine zD ((hx i (by omega) (p + 1 + sizes (t.kids.take i)) (by omega) (by omega)).2 hP) [0] [] rfl rfl rfl rfl rfl ⟨rfl, trivial⟩ trivial ?_) | refine ih _ (by omega) (Pf.get ?_) (by refine ⟨?_, ?_, ?_⟩ <;> (repeat' (first | exact trivial | (refine zW ?_; rw [sizes_take (by omega)]; omega) | (refine zW ?_; simp) | exact rfl | exact Nat.le_of_ble_eq_true rfl | exact Or.inl rfl | apply And.intro))) | ((fail_if_success (have _h := ih)); refine LW.count t.kids.length (fun i => (AllB i fun j => ∀ h : j < t.kids.length, okN (kaN t j) (d + 1) t.kids[j]) ∧ p + 1 + sizes (t.kids.take i) ≤ 200) (fun i => ⟨[(39, .d (.int .i64 i)), (2, .d (.int .i64 d)), (3, .ptr 0 0), (4, .ptr 1 0), (37, .d (.sl (t.kids.map cT))), (38, .d (.int .i64 t.kids.length))], 2, [.var 0 [.d (.int .i64 ((p + 1 + sizes (t.kids.take i) : Nat) : Int))], .var 0 [.d (.int .i64 t.sort), .d (.int .i64 t.num), .d (.str t.text), .d (.sl (encS t.names)), .d (.sl (t.kids.map cT))]], []⟩) (fun _ => ⟨rfl, rfl, rfl⟩) (fun i hi hI ih => ?_) (Pf.get ?_) _ (by refine ⟨?_, ?_, ?_⟩ <;> (repeat' (first | exact trivial | (refine zW ?_; simp [sizes]) | exact rfl | exact Nat.le_of_ble_eq_true rfl | exact Or.inl rfl | apply And.intro)))) | fail)
        all_goals (conv => whnf)
        all_goals first
          | (refine yK ?_ ?_ ?_ ?_ <;> (repeat' (first | exact trivial | exact rfl  | exact Or.inl rfl  | apply And.intro)); done)
          | exact ⟨⟨.zero, by simp [sizes]; omega⟩⟩
          | exact ⟨⟨hI.1.snoc fun _ => hP.1, by rw [sizes_take (by omega)]; omega⟩⟩
          | (have h1 := okN_done (i := i) (d := d) (t := t) (by omega) hal (by omega) hI.1
             exact absurd ⟨h1.1, by omega⟩ hno)
      · have hac2 : pb (36 ≤ t.sort ∧ t.sort ≤ 43) = !a := by revert hac; cases a <;> cases pb (36 ≤ t.sort ∧ t.sort ≤ 43) <;> simp
        rw [hac2] at hact
        cases a
        all_goals refine CT.enter hf rfl (Nat.le_refl _) (Nat.le_refl _) ?_
        repeat' ((conv => whnf); first | (rw [wrap64 (by omega)]) | refine zI (fun _ => ?_) (fun _ => ?_) | refine zB (hact) ?_ | fail)
        all_goals (conv => whnf)
        all_goals (refine yK ?_ ?_ ?_ ?_ <;> (repeat' (first | exact trivial | exact rfl  | exact Or.inl rfl  | apply And.intro)); done)
    · rw [pb_f hS] at hAt
      refine CT.enter hf rfl (Nat.le_refl _) (Nat.le_refl _) ?_
      repeat' ((conv => whnf); first | (rw [wrap64 (by omega)]) | refine zI (fun _ => ?_) (fun _ => ?_) | refine zH ?_ | refine zJ (fun _ => ?_) (fun _ => ?_) | refine zB (hact) ?_ | refine zB (hAt) ?_ | fail)
      all_goals (conv => whnf)
      all_goals (refine yK ?_ ?_ ?_ ?_ <;> (repeat' (first | exact trivial | exact rfl  | exact Or.inl rfl  | apply And.intro)); done)
theorem k_isOkN {L : Lk} (hf : FnR L 168 c168) (hN : ∀ t : Nd, K_lookN L t) (hT : K_textN L 104) : ∀ (n : Nd) (a : Bool), Sm n → CP L 168 [aT n, .d (.bool a)] (.d (.bool (pb (LiftOK a n)))) := by
  intro n a hs
  have hp := n.size_pos
  by_cases hP : okN a 1 n ∧ 0 + n.size ≤ 200
  · have h1 := (hN n a 1 0 hs (by omega) (by omega)).1 hP
    refine CP.enter hf rfl rfl rfl ?_
    repeat' ((conv => whnf); first | intro _ | refine zD h1 [1] [] rfl rfl rfl rfl rfl ⟨rfl, trivial⟩ trivial ?_ | refine zB (hT n a 1 hP.1 hs) ?_ | fail)
    all_goals (conv => whnf)
    all_goals exact yL (by simp only [LiftOK, ile_iff]; exact ⟨fun h => ⟨⟨hP.1, by omega⟩, by omega⟩, fun h => by have := h.2; omega⟩)
  · have h1 := (hN n a 1 0 hs (by omega) (by omega)).2 hP
    refine CP.enter hf rfl rfl rfl ?_
    repeat' ((conv => whnf); first | refine zD h1 [1] [] rfl rfl rfl rfl rfl ⟨rfl, trivial⟩ trivial ?_ | fail)
    all_goals (conv => whnf)
    all_goals exact fin_n fun h => hP ⟨h.1.1, by have := h.1.2; omega⟩
theorem k_LiftOk_i {L : Lk} (hf : FnR L 95 c95) (hI : ∀ (n : Nd) (a : Bool), Sm n → CP L 168 [aT n, .d (.bool a)] (.d (.bool (pb (LiftOK a n))))) : K_LiftOk L 95 := by
  intro n hs
  refine CP.enter hf rfl rfl rfl ?_
  repeat' ((conv => whnf); first | refine zB (hI n true hs) ?_ | fail)
  all_goals (conv => whnf)
  all_goals exact yJ rfl
end Go.Ab
