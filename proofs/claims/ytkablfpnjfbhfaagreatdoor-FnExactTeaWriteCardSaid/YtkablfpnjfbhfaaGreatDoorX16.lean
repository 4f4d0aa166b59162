import Derived.Test.YtkablfpnjfbhfaaGreatDoorX15
import Derived.Test.YtkablfpnjfbhfaaGreatDoorX13
namespace Go.Ab
open Go
set_option maxHeartbeats 4000000
attribute [local irreducible] Need IdxK FinK NextK CKs CQs ltS
def szI (left : Int) (c : Nat) : Int := if (c : Int) ≤ left then left - c else -1
theorem szI_y {left : Int} {c : Nat} (h : (c : Int) ≤ left) : szI left c = left - c := if_pos h
theorem szI_n {left : Int} {c : Nat} (h : left < c) : szI left c = -1 := if_neg (by omega)
theorem callSz {L : Lk} {f : Nat} {args : List AV} {left : Int} {c nb : Nat} {bx : List Bx} {rl : List (Nat × Nat)} {K : AV → Nat → List Bx → List (Nat × Nat) → Prop}
    (h : CP L f args (.d (.int .i64 (szI left c)))) (h1 : (c : Int) ≤ left → K (.d (.int .i64 (left - c))) nb bx rl) (h2 : left < c → K (.d (.int .i64 (-1))) nb bx rl) : CKs L f args nb bx rl K := by
  by_cases hc : (c : Int) ≤ left
  · rw [szI_y hc] at h; exact zB h (h1 hc)
  · rw [szI_n (by omega)] at h; exact zB h (h2 (by omega))
theorem sel_bneS {b : Bool} {x y : Prop} (h : y) : sel (b != b) x y := by cases b <;> exact h
def sumL {α : Type} (c : α → Nat) : List α → Nat
  | [] => 0
  | x :: r => c x + sumL c r
theorem sumL_snoc {α : Type} (c : α → Nat) : ∀ (l : List α) (x : α), sumL c (l ++ [x]) = sumL c l + c x
  | [], x => by simp [sumL]
  | y :: r, x => by simp [sumL, sumL_snoc c r x]; omega
theorem sumL_take {α : Type} (c : α → Nat) {l : List α} {i : Nat} (h : i < l.length) : sumL c (l.take (i + 1)) = sumL c (l.take i) + c l[i] := by
  rw [List.take_add_one, List.getElem?_eq_getElem h]; exact sumL_snoc _ _ _
theorem sumL_all {α : Type} (c : α → Nat) {l : List α} {i : Nat} (h : l.length ≤ i) : sumL c (l.take i) = sumL c l := by rw [List.take_of_length_le h]
theorem sumL_le {α : Type} (c : α → Nat) : ∀ (l : List α) (i : Nat), sumL c (l.take i) ≤ sumL c l
  | [], i => by simp [sumL]
  | x :: r, 0 => by simp [sumL]
  | x :: r, i + 1 => by simp [sumL]; exact sumL_le c r i
theorem sumL_get {α : Type} (c : α → Nat) : ∀ (l : List α) (i : Nat) (h : i < l.length), c l[i] ≤ sumL c l
  | x :: r, 0, h => by simp [sumL]
  | x :: r, i + 1, h => by have := sumL_get c r i (by simpa using h); simp [sumL]; omega
mutual
def Nd.wtK : Nd → Nat
  | .mk _ _ _ ns ks => 1 + wtS ns + wtKs ks
def wtKs : List Nd → Nat
  | [] => 0
  | k :: r => k.wtK + wtKs r
end
theorem Nd.wtK_eq (t : Nd) : t.wtK = 1 + wtS t.names + wtKs t.kids := by cases t; rfl
theorem wtS_sum : ∀ l : List Str, l.length + sumL List.length l = wtS l
  | [] => rfl
  | s :: r => by have := wtS_sum r; simp [sumL, wtS]; omega
theorem wts_sum : ∀ l : List Nd, l.length + sumL (fun t => t.wt - 1) l = wts l
  | [] => rfl
  | s :: r => by have := wts_sum r; have := s.wt_pos; simp [sumL, wts]; omega
theorem wtKs_sum : ∀ l : List Nd, l.length + sumL (fun t => t.wtK - 1) l = wtKs l
  | [] => rfl
  | s :: r => by have := wtKs_sum r; have := s.wtK_eq; simp [sumL, wtKs]; omega
theorem wtKs_get : ∀ (l : List Nd) (i : Nat) (h : i < l.length), l[i].wtK ≤ wtKs l
  | s :: r, 0, h => by simp [wtKs]
  | s :: r, i + 1, h => by have := wtKs_get r i (by simpa using h); simp [wtKs]; omega
theorem wtKs_len : ∀ l : List Nd, l.length ≤ wtKs l
  | [] => by simp [wtKs]
  | s :: r => by have := wtKs_len r; have := s.wtK_eq; simp [wtKs]; omega
def fillS {α : Type} (enc : α → List DV) (z : List DV) (l : List α) (i : Nat) : List (List DV) := (l.take i).map enc ++ List.replicate (l.length - i) z
theorem fill_len {α : Type} {enc : α → List DV} {z : List DV} {l : List α} {i : Nat} (h : i ≤ l.length) : l.length = (fillS enc z l i).length := by simp [fillS]; omega
theorem fill_zero {α : Type} {enc : α → List DV} {z : List DV} {l : List α} : List.replicate l.length z = fillS enc z l 0 := by simp [fillS]
theorem fill_all {α : Type} {enc : α → List DV} {z : List DV} {l : List α} {i : Nat} (h : i = l.length) : fillS enc z l i = l.map enc := by subst h; simp [fillS]
theorem fill_set {α : Type} {enc : α → List DV} {z d : List DV} {l : List α} {i : Nat} (h : i < l.length) (e : d = enc l[i]) : (fillS enc z l i).set i d = fillS enc z l (i + 1) := by
  subst e
  unfold fillS
  have h1 : ((l.take i).map enc).length = i := by simp; omega
  rw [List.set_append_right _ _ (by omega), h1, Nat.sub_self, List.take_add_one, List.getElem?_eq_getElem h]
  have h2 : l.length - i = (l.length - (i + 1)) + 1 := by omega
  rw [h2, List.replicate_succ]
  simp only [Option.toList_some, List.map_append, List.map_cons, List.map_nil, List.append_assoc, List.set_cons_zero]
  rfl
theorem l_szStringS {L : Lk} (hf : FnR L 144 c144) : ∀ (l : List Str) (left : Int), 0 ≤ left ∧ left ≤ 1048576 → CP L 144 [.d (.sl (encS l)), .d (.int .i64 left)] (.d (.int .i64 (szI left (l.length + sumL List.length l)))) := by
  intro l left hl
  have hle := sumL_le List.length l
  have hst : ∀ i (h : i < l.length), sumL List.length (l.take (i + 1)) = sumL List.length (l.take i) + List.length l[i] := fun i h => sumL_take _ h
  refine CP.enter hf rfl rfl rfl ?_
  repeat' ((conv => whnf); first | (rw [wrap64 (by omega)]) | (rw [zX]; intro _) | refine zI (fun _ => ?_) (fun _ => ?_) | intro _ | refine zA (by first | omega | exact rfl | decide) ?_ | refine yE (by omega) ?_ | refine ih _ (by omega) ((by have := hst i (by omega); (try dsimp only at *); omega)) (by refine ⟨?_, ?_, ?_⟩ <;> (repeat' (first | exact trivial | (refine zW ?_; have := hst i (by omega); (try dsimp only at *); (try rw [wrap64 (by omega)]); omega) | exact rfl | apply And.intro))) | ((fail_if_success (have _h := ih)); refine LW.count l.length (fun i => ((l.length + sumL List.length (l.take i) : Nat) : Int) ≤ left) (fun i => ⟨[(5, .d (.int .i64 i)), (0, .d (.sl (encS l))), (1, .d (.int .i64 (left - ((l.length + sumL List.length (l.take i) : Nat) : Int))))], 0, [], []⟩) (fun _ => ⟨rfl, rfl, rfl⟩) (fun i hi hI ih => ?_) (by simp [sumL]; omega) _ (by refine ⟨?_, ?_, ?_⟩ <;> (repeat' (first | exact trivial | (refine zW ?_; simp [sumL]) | exact rfl | apply And.intro)))) | fail)
  all_goals (conv => whnf)
  all_goals first
    | exact yJ (zW (by rw [szI_n (by have := hle l.length; rw [sumL_all _ (Nat.le_refl _)] at this; omega)]))
    | exact yJ (zW (by have := hst i (by omega); have := hle (i + 1); (try dsimp only at *); rw [szI_n (by omega)]))
    | exact yJ (zW (by have e := sumL_all List.length (l := l) (i := i) (by omega); rw [e] at hI ⊢; rw [szI_y (by omega)]))
theorem l_toStringS {L : Lk} (hf : FnR L 157 c157) : ∀ l : List Str, l.length ≤ 4000000 → CP L 157 [.d (.sl (encS l))] (.d (.sl (encS l))) := by
  intro l hl
  have hfl : ∀ i, i ≤ l.length → l.length = (fillS (fun s : Str => [DV.str s]) [.str []] l i).length := fun i h => fill_len h
  refine CP.enter hf rfl rfl rfl ?_
  repeat' ((conv => whnf); first | (rw [wrap64 (by omega)]) | (rw [zX]; intro _) | refine zA ⟨rfl, by omega, by omega, by decide, rfl⟩ ?_ | refine zA ⟨by omega, by omega⟩ ?_ | refine zA ⟨rfl, rfl, rfl, by have := hfl i (by omega); (try simp only [Int.toNat_natCast]); omega⟩ ?_ | refine zI (fun _ => ?_) (fun _ => ?_) | refine zA (by first | omega | exact rfl | decide) ?_ | refine yE (by omega) ?_ | refine zA (hfl i (by omega)) ?_ | refine ih _ (by omega) (trivial) (by refine ⟨?_, ?_, ?_⟩ <;> (repeat' (first | exact trivial | exact fill_set (by omega) (rfl) | exact rfl | exact Nat.le_of_ble_eq_true rfl | apply And.intro))) | ((fail_if_success (have _h := ih)); refine LW.count l.length (fun i => True) (fun i => ⟨[(4, .d (.int .i64 i)), (0, .d (.sl (encS l))), (3, .bsl 0 l.length)], 1, [.row 1 (fillS (fun s : Str => [DV.str s]) [.str []] l i)], []⟩) (fun _ => ⟨rfl, rfl, rfl⟩) (fun i hi hI ih => ?_) (trivial) _ (by refine ⟨?_, ?_, ?_⟩ <;> (repeat' (first | exact trivial | exact fill_zero | exact rfl | exact Nat.le_of_ble_eq_true rfl | apply And.intro)))) | fail)
  all_goals (conv => whnf)
  all_goals (refine yK ?_ ?_ ?_ ?_ <;> (repeat' (first | exact trivial | exact fill_all (by omega) | exact rfl    )); done)
theorem l_eqStringS {L : Lk} (hf : FnR L 180 c180) : ∀ l : List Str, CP L 180 [.d (.sl (encS l)), .d (.sl (encS l))] (.d (.bool true)) := by
  intro l
  by_cases hb : l.length ≤ 140737488355328
  · refine CP.enter hf rfl rfl rfl ?_
    repeat' ((conv => whnf); first | (rw [wrap64 (by omega)]) | (rw [zX]; intro _) | refine zH (zG (fun _ => ?_) (fun h => absurd rfl h)) | refine zH (zF (fun _ => ?_) (fun h => absurd rfl h)) | refine zI (fun _ => ?_) (fun _ => ?_) | refine zA (by first | omega | exact rfl | decide) ?_ | refine yE (by omega) ?_ | refine ih _ (by omega) (trivial) (by refine ⟨?_, ?_, ?_⟩ <;> (repeat' (first | exact trivial | exact rfl | apply And.intro))) | ((fail_if_success (have _h := ih)); refine LW.count l.length (fun i => True) (fun i => ⟨[(5, .d (.int .i64 i)), (0, .d (.sl (encS l))), (1, .d (.sl (encS l)))], 0, [], []⟩) (fun _ => ⟨rfl, rfl, rfl⟩) (fun i hi hI ih => ?_) (trivial) _ (by refine ⟨?_, ?_, ?_⟩ <;> (repeat' (first | exact trivial | exact rfl | apply And.intro)))) | fail)
    all_goals (conv => whnf)
    all_goals exact yJ rfl
  · refine CP.enter hf rfl rfl rfl ?_
    repeat' ((conv => whnf); first | (exfalso; omega) | (rw [zX]; intro _) | fail)
    all_goals (conv => whnf)
theorem l_toIntS {L : Lk} (hf : FnR L 162 c162) : ∀ l : List Int, l.length ≤ 4000000 → CP L 162 [.d (.sl (encI l))] (.d (.sl (encI l))) := by
  intro l hl
  have hfl : ∀ i, i ≤ l.length → l.length = (fillS (fun n : Int => [DV.int .i64 n]) [.int .i64 0] l i).length := fun i h => fill_len h
  refine CP.enter hf rfl rfl rfl ?_
  repeat' ((conv => whnf); first | (rw [wrap64 (by omega)]) | (rw [lenIs']; intro _) | refine zA ⟨rfl, by omega, by omega, by decide, rfl⟩ ?_ | refine zA ⟨by omega, by omega⟩ ?_ | refine zA ⟨rfl, rfl, rfl, by have := hfl i (by omega); (try simp only [Int.toNat_natCast]); omega⟩ ?_ | refine zI (fun _ => ?_) (fun _ => ?_) | refine zA (by first | omega | exact rfl | decide) ?_ | refine idx_I (by omega) ?_ | refine zA (hfl i (by omega)) ?_ | refine ih _ (by omega) (trivial) (by refine ⟨?_, ?_, ?_⟩ <;> (repeat' (first | exact trivial | exact fill_set (by omega) (rfl) | exact rfl | exact Nat.le_of_ble_eq_true rfl | apply And.intro))) | ((fail_if_success (have _h := ih)); refine LW.count l.length (fun i => True) (fun i => ⟨[(4, .d (.int .i64 i)), (0, .d (.sl (encI l))), (3, .bsl 0 l.length)], 1, [.row 1 (fillS (fun n : Int => [DV.int .i64 n]) [.int .i64 0] l i)], []⟩) (fun _ => ⟨rfl, rfl, rfl⟩) (fun i hi hI ih => ?_) (trivial) _ (by refine ⟨?_, ?_, ?_⟩ <;> (repeat' (first | exact trivial | exact fill_zero | exact rfl | exact Nat.le_of_ble_eq_true rfl | apply And.intro)))) | fail)
  all_goals (conv => whnf)
  all_goals (refine yK ?_ ?_ ?_ ?_ <;> (repeat' (first | exact trivial | exact fill_all (by omega) | exact rfl    )); done)
theorem l_eqIntS {L : Lk} (hf : FnR L 185 c185) : ∀ l : List Int, CP L 185 [.d (.sl (encI l)), .d (.sl (encI l))] (.d (.bool true)) := by
  intro l
  by_cases hb : l.length ≤ 140737488355328
  · refine CP.enter hf rfl rfl rfl ?_
    repeat' ((conv => whnf); first | (rw [wrap64 (by omega)]) | (rw [lenIs']; intro _) | refine zH (zG (fun _ => ?_) (fun h => absurd rfl h)) | refine zI (fun _ => ?_) (fun _ => ?_) | refine zA (by first | omega | exact rfl | decide) ?_ | refine idx_I (by omega) ?_ | refine ih _ (by omega) (trivial) (by refine ⟨?_, ?_, ?_⟩ <;> (repeat' (first | exact trivial | exact rfl | apply And.intro))) | ((fail_if_success (have _h := ih)); refine LW.count l.length (fun i => True) (fun i => ⟨[(5, .d (.int .i64 i)), (0, .d (.sl (encI l))), (1, .d (.sl (encI l)))], 0, [], []⟩) (fun _ => ⟨rfl, rfl, rfl⟩) (fun i hi hI ih => ?_) (trivial) _ (by refine ⟨?_, ?_, ?_⟩ <;> (repeat' (first | exact trivial | exact rfl | apply And.intro)))) | fail)
    all_goals (conv => whnf)
    all_goals exact yJ rfl
  · refine CP.enter hf rfl rfl rfl ?_
    repeat' ((conv => whnf); first | (exfalso; omega) | (rw [lenIs']; intro _) | fail)
    all_goals (conv => whnf)
theorem l_szIntS {L : Lk} (hf : FnR L 149 c149) : ∀ (l : List Int) (left : Int), 0 ≤ left ∧ left ≤ 1048576 → CP L 149 [.d (.sl (encI l)), .d (.int .i64 left)] (.d (.int .i64 (szI left l.length))) := by
  intro l left hl
  refine CP.enter hf rfl rfl rfl ?_
  repeat' ((conv => whnf); first | (rw [wrap64 (by omega)]) | (rw [lenIs']; intro _) | refine zI (fun _ => ?_) (fun _ => ?_) | fail)
  all_goals (conv => whnf)
  all_goals first
    | exact yJ (zW (by rw [szI_n (by omega)]))
    | exact yJ (zW (by rw [szI_y (by omega)]))
theorem l_szTreeS {L : Lk} (hf : FnR L 234 c234) (l : List Nd) (h : ∀ i (h : i < l.length) (left : Int), 0 ≤ left ∧ left ≤ 1048576 → CP L 143 [aT l[i], .d (.int .i64 left)] (.d (.int .i64 (szI left ((fun t => t.wt - 1) l[i]))))) :
    ∀ (left : Int), 0 ≤ left ∧ left ≤ 1048576 → CP L 234 [.d (.sl (l.map cT)), .d (.int .i64 left)] (.d (.int .i64 (szI left (l.length + sumL (fun t => t.wt - 1) l)))) := by
  intro left hl
  have hle := sumL_le (fun t => t.wt - 1) l
  have hst : ∀ i (h : i < l.length), sumL (fun t => t.wt - 1) (l.take (i + 1)) = sumL (fun t => t.wt - 1) (l.take i) + (fun t => t.wt - 1) l[i] := fun i h => sumL_take _ h
  refine CP.enter hf rfl rfl rfl ?_
  repeat' ((conv => whnf); first | (exfalso; omega) | (rw [wrap64 (by omega)]) | (rw [zY]; intro _) | refine zI (fun _ => ?_) (fun _ => ?_) | refine zA (by first | omega | exact rfl | decide) ?_ | refine yF (by omega) ?_ | refine callSz (h i (by omega) _ (by omega)) (fun _ => ?_) (fun _ => ?_) | refine ih _ (by omega) ((by have := hst i (by omega); (try dsimp only at *); omega)) (by refine ⟨?_, ?_, ?_⟩ <;> (repeat' (first | exact trivial | (refine zW ?_; have := hst i (by omega); (try dsimp only at *); (try rw [wrap64 (by omega)]); omega) | exact rfl | apply And.intro))) | ((fail_if_success (have _h := ih)); refine LW.count l.length (fun i => ((l.length + sumL (fun t => t.wt - 1) (l.take i) : Nat) : Int) ≤ left) (fun i => ⟨[(5, .d (.int .i64 i)), (0, .d (.sl (l.map cT))), (1, .d (.int .i64 (left - ((l.length + sumL (fun t => t.wt - 1) (l.take i) : Nat) : Int))))], 0, [], []⟩) (fun _ => ⟨rfl, rfl, rfl⟩) (fun i hi hI ih => ?_) (by simp [sumL]; omega) _ (by refine ⟨?_, ?_, ?_⟩ <;> (repeat' (first | exact trivial | (refine zW ?_; simp [sumL]) | exact rfl | apply And.intro)))) | fail)
  all_goals (conv => whnf)
  all_goals first
    | exact yJ (zW (by rw [szI_n (by have := hle l.length; rw [sumL_all _ (Nat.le_refl _)] at this; omega)]))
    | exact yJ (zW (by have := hst i (by omega); have := hle (i + 1); (try dsimp only at *); rw [szI_n (by omega)]))
    | exact yJ (zW (by have e := sumL_all (fun t => t.wt - 1) (l := l) (i := i) (by omega); rw [e] at hI ⊢; rw [szI_y (by omega)]))
theorem l_toTreeS {L : Lk} (hf : FnR L 240 c240) (l : List Nd) (hl : l.length ≤ 4000000) (h : ∀ i (h : i < l.length), CP L 156 [aT l[i]] (aT l[i])) : CP L 240 [.d (.sl (l.map cT))] (.d (.sl (l.map cT))) := by
  have hfl : ∀ i, i ≤ l.length → l.length = (fillS cT [.int .i64 0, .int .i64 0, .str [], .sl [], .sl []] l i).length := fun i h => fill_len h
  refine CP.enter hf rfl rfl rfl ?_
  repeat' ((conv => whnf); first | (rw [wrap64 (by omega)]) | (rw [zY]; intro _) | refine zA ⟨rfl, by omega, by omega, by decide, rfl⟩ ?_ | refine zA ⟨by omega, by omega⟩ ?_ | refine zA ⟨rfl, rfl, rfl, by have := hfl i (by omega); (try simp only [Int.toNat_natCast]); omega⟩ ?_ | refine zI (fun _ => ?_) (fun _ => ?_) | refine zA (by first | omega | exact rfl | decide) ?_ | refine yF (by omega) ?_ | refine zB (h i (by omega)) ?_ | refine zA (hfl i (by omega)) ?_ | refine ih _ (by omega) (trivial) (by refine ⟨?_, ?_, ?_⟩ <;> (repeat' (first | exact trivial | exact fill_set (by omega) ((cT_eq _).symm) | exact rfl | exact Nat.le_of_ble_eq_true rfl | apply And.intro))) | ((fail_if_success (have _h := ih)); refine LW.count l.length (fun i => True) (fun i => ⟨[(4, .d (.int .i64 i)), (0, .d (.sl (l.map cT))), (3, .bsl 0 l.length)], 1, [.row 5 (fillS cT [.int .i64 0, .int .i64 0, .str [], .sl [], .sl []] l i)], []⟩) (fun _ => ⟨rfl, rfl, rfl⟩) (fun i hi hI ih => ?_) (trivial) _ (by refine ⟨?_, ?_, ?_⟩ <;> (repeat' (first | exact trivial | exact fill_zero | exact rfl | exact Nat.le_of_ble_eq_true rfl | apply And.intro)))) | fail)
  all_goals (conv => whnf)
  all_goals (refine yK ?_ ?_ ?_ ?_ <;> (repeat' (first | exact trivial | exact fill_all (by omega) | exact rfl    )); done)
theorem l_eqTreeS {L : Lk} (hf : FnR L 255 c255) (l : List Nd) (h : ∀ i (h : i < l.length), CP L 179 [aT l[i], aT l[i]] (.d (.bool true))) : CP L 255 [.d (.sl (l.map cT)), .d (.sl (l.map cT))] (.d (.bool true)) := by
  by_cases hb : l.length ≤ 140737488355328
  · refine CP.enter hf rfl rfl rfl ?_
    repeat' ((conv => whnf); first | (rw [wrap64 (by omega)]) | (rw [zY]; intro _) | refine zH (zG (fun _ => ?_) (fun h => absurd rfl h)) | refine zI (fun _ => ?_) (fun _ => ?_) | refine zA (by first | omega | exact rfl | decide) ?_ | refine yF (by omega) ?_ | refine zC (h i (by omega)) ?_ | refine ih _ (by omega) (trivial) (by refine ⟨?_, ?_, ?_⟩ <;> (repeat' (first | exact trivial | exact rfl | apply And.intro))) | ((fail_if_success (have _h := ih)); refine LW.count l.length (fun i => True) (fun i => ⟨[(5, .d (.int .i64 i)), (0, .d (.sl (l.map cT))), (1, .d (.sl (l.map cT)))], 0, [], []⟩) (fun _ => ⟨rfl, rfl, rfl⟩) (fun i hi hI ih => ?_) (trivial) _ (by refine ⟨?_, ?_, ?_⟩ <;> (repeat' (first | exact trivial | exact rfl | apply And.intro)))) | fail)
    all_goals (conv => whnf)
    all_goals exact yJ rfl
  · refine CP.enter hf rfl rfl rfl ?_
    repeat' ((conv => whnf); first | (exfalso; omega) | (rw [zY]; intro _) | fail)
    all_goals (conv => whnf)
theorem l_szTree {L : Lk} (hf : FnR L 143 c143) (hfS : FnR L 234 c234) (hS : ∀ (l : List Str) (left : Int), 0 ≤ left ∧ left ≤ 1048576 → CP L 144 [.d (.sl (encS l)), .d (.int .i64 left)] (.d (.int .i64 (szI left (l.length + sumL List.length l))))) :
    ∀ (t : Nd) (left : Int), 0 ≤ left ∧ left ≤ 1048576 → CP L 143 [aT t, .d (.int .i64 left)] (.d (.int .i64 (szI left (t.wt - 1)))) := by
  refine Nd.ind fun t ihT => ?_
  intro left hl
  have hk := l_szTreeS hfS t.kids (fun i h left hl => ihT _ (List.getElem_mem h) left hl)
  have hn := hS t.names
  rw [wtS_sum] at hn
  rw [wts_sum] at hk
  have hw := t.wt_eq
  refine CP.enter hf rfl rfl rfl ?_
  repeat' ((conv => whnf); first | (exfalso; omega) | (rw [wrap64 (by omega)]) | refine zI (fun _ => ?_) (fun _ => ?_) | intro _ | refine callSz (hn _ (by omega)) (fun _ => ?_) (fun _ => ?_) | refine callSz (hk _ (by omega)) (fun _ => ?_) (fun _ => ?_) | fail)
  all_goals (conv => whnf)
  all_goals first
    | exact yJ (zW (by rw [szI_n (by omega)]))
    | exact yJ (zW (by rw [szI_y (by omega)]; omega))
theorem l_toTree {L : Lk} (hf : FnR L 156 c156) (hfS : FnR L 240 c240) (hS : ∀ l : List Str, l.length ≤ 4000000 → CP L 157 [.d (.sl (encS l))] (.d (.sl (encS l)))) :
    ∀ t : Nd, t.wt ≤ 4000000 → CP L 156 [aT t] (aT t) := by
  refine Nd.ind fun t ihT => ?_
  intro hl
  have hw := t.wt_eq
  have h1 := wtS_len t.names
  have h2 := wts_len t.kids
  have hk := l_toTreeS hfS t.kids (by omega) (fun i h => ihT _ (List.getElem_mem h) (by have := wts_get t.kids i h; omega))
  have hn := hS t.names (by omega)
  refine CP.enter hf rfl rfl rfl ?_
  repeat' ((conv => whnf); first | refine zB (hn) ?_ | refine zB (hk) ?_ | fail)
  all_goals (conv => whnf)
  all_goals (refine yK ?_ ?_ ?_ ?_ <;> (repeat' (first | exact trivial | exact rfl    | apply And.intro)); done)
theorem l_eqTree {L : Lk} (hf : FnR L 179 c179) (hfS : FnR L 255 c255) (hS : ∀ l : List Str, CP L 180 [.d (.sl (encS l)), .d (.sl (encS l))] (.d (.bool true))) : ∀ t : Nd, CP L 179 [aT t, aT t] (.d (.bool true)) := by
  refine Nd.ind fun t ihT => ?_
  have hk := l_eqTreeS hfS t.kids (fun i h => ihT _ (List.getElem_mem h))
  have hn := hS t.names
  refine CP.enter hf rfl rfl rfl ?_
  repeat' ((conv => whnf); first | refine zH (zG (fun _ => ?_) (fun h => absurd rfl h)) | refine zH (zF (fun _ => ?_) (fun h => absurd rfl h)) | refine zB (hn) ?_ | refine zB (hk) ?_ | fail)
  all_goals (conv => whnf)
  all_goals exact yJ rfl
theorem l_szLiftNodeS {L : Lk} (hf : FnR L 146 c146) (l : List Nd) (h : ∀ i (h : i < l.length) (left : Int), 0 ≤ left ∧ left ≤ 1048576 → CP L 62 [aT l[i], .d (.int .i64 left)] (.d (.int .i64 (szI left ((fun t => t.wt - 1) l[i]))))) :
    ∀ (left : Int), 0 ≤ left ∧ left ≤ 1048576 → CP L 146 [.d (.sl (l.map cT)), .d (.int .i64 left)] (.d (.int .i64 (szI left (l.length + sumL (fun t => t.wt - 1) l)))) := by
  intro left hl
  have hle := sumL_le (fun t => t.wt - 1) l
  have hst : ∀ i (h : i < l.length), sumL (fun t => t.wt - 1) (l.take (i + 1)) = sumL (fun t => t.wt - 1) (l.take i) + (fun t => t.wt - 1) l[i] := fun i h => sumL_take _ h
  refine CP.enter hf rfl rfl rfl ?_
  repeat' ((conv => whnf); first | (exfalso; omega) | (rw [wrap64 (by omega)]) | (rw [zY]; intro _) | refine zI (fun _ => ?_) (fun _ => ?_) | refine zA (by first | omega | exact rfl | decide) ?_ | refine yF (by omega) ?_ | refine callSz (h i (by omega) _ (by omega)) (fun _ => ?_) (fun _ => ?_) | refine ih _ (by omega) ((by have := hst i (by omega); (try dsimp only at *); omega)) (by refine ⟨?_, ?_, ?_⟩ <;> (repeat' (first | exact trivial | (refine zW ?_; have := hst i (by omega); (try dsimp only at *); (try rw [wrap64 (by omega)]); omega) | exact rfl | apply And.intro))) | ((fail_if_success (have _h := ih)); refine LW.count l.length (fun i => ((l.length + sumL (fun t => t.wt - 1) (l.take i) : Nat) : Int) ≤ left) (fun i => ⟨[(5, .d (.int .i64 i)), (0, .d (.sl (l.map cT))), (1, .d (.int .i64 (left - ((l.length + sumL (fun t => t.wt - 1) (l.take i) : Nat) : Int))))], 0, [], []⟩) (fun _ => ⟨rfl, rfl, rfl⟩) (fun i hi hI ih => ?_) (by simp [sumL]; omega) _ (by refine ⟨?_, ?_, ?_⟩ <;> (repeat' (first | exact trivial | (refine zW ?_; simp [sumL]) | exact rfl | apply And.intro)))) | fail)
  all_goals (conv => whnf)
  all_goals first
    | exact yJ (zW (by rw [szI_n (by have := hle l.length; rw [sumL_all _ (Nat.le_refl _)] at this; omega)]))
    | exact yJ (zW (by have := hst i (by omega); have := hle (i + 1); (try dsimp only at *); rw [szI_n (by omega)]))
    | exact yJ (zW (by have e := sumL_all (fun t => t.wt - 1) (l := l) (i := i) (by omega); rw [e] at hI ⊢; rw [szI_y (by omega)]))
theorem l_toLiftNodeS {L : Lk} (hf : FnR L 159 c159) (l : List Nd) (hl : l.length ≤ 4000000) (h : ∀ i (h : i < l.length), CP L 85 [aT l[i]] (aT l[i])) : CP L 159 [.d (.sl (l.map cT))] (.d (.sl (l.map cT))) := by
  have hfl : ∀ i, i ≤ l.length → l.length = (fillS cT [.int .i64 0, .int .i64 0, .str [], .sl [], .sl []] l i).length := fun i h => fill_len h
  refine CP.enter hf rfl rfl rfl ?_
  repeat' ((conv => whnf); first | (rw [wrap64 (by omega)]) | (rw [zY]; intro _) | refine zA ⟨rfl, by omega, by omega, by decide, rfl⟩ ?_ | refine zA ⟨by omega, by omega⟩ ?_ | refine zA ⟨rfl, rfl, rfl, by have := hfl i (by omega); (try simp only [Int.toNat_natCast]); omega⟩ ?_ | refine zI (fun _ => ?_) (fun _ => ?_) | refine zA (by first | omega | exact rfl | decide) ?_ | refine yF (by omega) ?_ | refine zB (h i (by omega)) ?_ | refine zA (hfl i (by omega)) ?_ | refine ih _ (by omega) (trivial) (by refine ⟨?_, ?_, ?_⟩ <;> (repeat' (first | exact trivial | exact fill_set (by omega) ((cT_eq _).symm) | exact rfl | exact Nat.le_of_ble_eq_true rfl | apply And.intro))) | ((fail_if_success (have _h := ih)); refine LW.count l.length (fun i => True) (fun i => ⟨[(4, .d (.int .i64 i)), (0, .d (.sl (l.map cT))), (3, .bsl 0 l.length)], 1, [.row 5 (fillS cT [.int .i64 0, .int .i64 0, .str [], .sl [], .sl []] l i)], []⟩) (fun _ => ⟨rfl, rfl, rfl⟩) (fun i hi hI ih => ?_) (trivial) _ (by refine ⟨?_, ?_, ?_⟩ <;> (repeat' (first | exact trivial | exact fill_zero | exact rfl | exact Nat.le_of_ble_eq_true rfl | apply And.intro)))) | fail)
  all_goals (conv => whnf)
  all_goals (refine yK ?_ ?_ ?_ ?_ <;> (repeat' (first | exact trivial | exact fill_all (by omega) | exact rfl    )); done)
theorem l_eqLiftNodeS {L : Lk} (hf : FnR L 182 c182) (l : List Nd) (h : ∀ i (h : i < l.length), CP L 108 [aT l[i], aT l[i]] (.d (.bool true))) : CP L 182 [.d (.sl (l.map cT)), .d (.sl (l.map cT))] (.d (.bool true)) := by
  by_cases hb : l.length ≤ 140737488355328
  · refine CP.enter hf rfl rfl rfl ?_
    repeat' ((conv => whnf); first | (rw [wrap64 (by omega)]) | (rw [zY]; intro _) | refine zH (zG (fun _ => ?_) (fun h => absurd rfl h)) | refine zI (fun _ => ?_) (fun _ => ?_) | refine zA (by first | omega | exact rfl | decide) ?_ | refine yF (by omega) ?_ | refine zC (h i (by omega)) ?_ | refine ih _ (by omega) (trivial) (by refine ⟨?_, ?_, ?_⟩ <;> (repeat' (first | exact trivial | exact rfl | apply And.intro))) | ((fail_if_success (have _h := ih)); refine LW.count l.length (fun i => True) (fun i => ⟨[(5, .d (.int .i64 i)), (0, .d (.sl (l.map cT))), (1, .d (.sl (l.map cT)))], 0, [], []⟩) (fun _ => ⟨rfl, rfl, rfl⟩) (fun i hi hI ih => ?_) (trivial) _ (by refine ⟨?_, ?_, ?_⟩ <;> (repeat' (first | exact trivial | exact rfl | apply And.intro)))) | fail)
    all_goals (conv => whnf)
    all_goals exact yJ rfl
  · refine CP.enter hf rfl rfl rfl ?_
    repeat' ((conv => whnf); first | (exfalso; omega) | (rw [zY]; intro _) | fail)
    all_goals (conv => whnf)
theorem l_szLiftNode {L : Lk} (hf : FnR L 62 c62) (hfS : FnR L 146 c146) (hS : ∀ (l : List Str) (left : Int), 0 ≤ left ∧ left ≤ 1048576 → CP L 144 [.d (.sl (encS l)), .d (.int .i64 left)] (.d (.int .i64 (szI left (l.length + sumL List.length l))))) :
    ∀ (t : Nd) (left : Int), 0 ≤ left ∧ left ≤ 1048576 → CP L 62 [aT t, .d (.int .i64 left)] (.d (.int .i64 (szI left (t.wt - 1)))) := by
  refine Nd.ind fun t ihT => ?_
  intro left hl
  have hk := l_szLiftNodeS hfS t.kids (fun i h left hl => ihT _ (List.getElem_mem h) left hl)
  have hn := hS t.names
  rw [wtS_sum] at hn
  rw [wts_sum] at hk
  have hw := t.wt_eq
  refine CP.enter hf rfl rfl rfl ?_
  repeat' ((conv => whnf); first | (exfalso; omega) | (rw [wrap64 (by omega)]) | refine zI (fun _ => ?_) (fun _ => ?_) | intro _ | refine callSz (hn _ (by omega)) (fun _ => ?_) (fun _ => ?_) | refine callSz (hk _ (by omega)) (fun _ => ?_) (fun _ => ?_) | fail)
  all_goals (conv => whnf)
  all_goals first
    | exact yJ (zW (by rw [szI_n (by omega)]))
    | exact yJ (zW (by rw [szI_y (by omega)]; omega))
theorem l_toLiftNode {L : Lk} (hf : FnR L 85 c85) (hfS : FnR L 159 c159) (hS : ∀ l : List Str, l.length ≤ 4000000 → CP L 157 [.d (.sl (encS l))] (.d (.sl (encS l)))) :
    ∀ t : Nd, t.wt ≤ 4000000 → CP L 85 [aT t] (aT t) := by
  refine Nd.ind fun t ihT => ?_
  intro hl
  have hw := t.wt_eq
  have h1 := wtS_len t.names
  have h2 := wts_len t.kids
  have hk := l_toLiftNodeS hfS t.kids (by omega) (fun i h => ihT _ (List.getElem_mem h) (by have := wts_get t.kids i h; omega))
  have hn := hS t.names (by omega)
  refine CP.enter hf rfl rfl rfl ?_
  repeat' ((conv => whnf); first | refine zB (hn) ?_ | refine zB (hk) ?_ | fail)
  all_goals (conv => whnf)
  all_goals (refine yK ?_ ?_ ?_ ?_ <;> (repeat' (first | exact trivial | exact rfl    | apply And.intro)); done)
theorem l_eqLiftNode {L : Lk} (hf : FnR L 108 c108) (hfS : FnR L 182 c182) (hS : ∀ l : List Str, CP L 180 [.d (.sl (encS l)), .d (.sl (encS l))] (.d (.bool true))) : ∀ t : Nd, CP L 108 [aT t, aT t] (.d (.bool true)) := by
  refine Nd.ind fun t ihT => ?_
  have hk := l_eqLiftNodeS hfS t.kids (fun i h => ihT _ (List.getElem_mem h))
  have hn := hS t.names
  refine CP.enter hf rfl rfl rfl ?_
  repeat' ((conv => whnf); first | refine zH (zG (fun _ => ?_) (fun h => absurd rfl h)) | refine zH (zF (fun _ => ?_) (fun h => absurd rfl h)) | refine zB (hn) ?_ | refine zB (hk) ?_ | fail)
  all_goals (conv => whnf)
  all_goals exact yJ rfl
theorem l_szKindS {L : Lk} (hf : FnR L 145 c145) (l : List Nd) (h : ∀ i (h : i < l.length) (left : Int), 0 ≤ left ∧ left ≤ 1048576 → CP L 61 [aK l[i], .d (.int .i64 left)] (.d (.int .i64 (szI left ((fun t => t.wtK - 1) l[i]))))) :
    ∀ (left : Int), 0 ≤ left ∧ left ≤ 1048576 → CP L 145 [.d (.sl (l.map cK)), .d (.int .i64 left)] (.d (.int .i64 (szI left (l.length + sumL (fun t => t.wtK - 1) l)))) := by
  intro left hl
  have hle := sumL_le (fun t => t.wtK - 1) l
  have hst : ∀ i (h : i < l.length), sumL (fun t => t.wtK - 1) (l.take (i + 1)) = sumL (fun t => t.wtK - 1) (l.take i) + (fun t => t.wtK - 1) l[i] := fun i h => sumL_take _ h
  refine CP.enter hf rfl rfl rfl ?_
  repeat' ((conv => whnf); first | (exfalso; omega) | (rw [wrap64 (by omega)]) | (rw [zZ]; intro _) | refine zI (fun _ => ?_) (fun _ => ?_) | refine zA (by first | omega | exact rfl | decide) ?_ | refine yG (by omega) ?_ | refine callSz (h i (by omega) _ (by omega)) (fun _ => ?_) (fun _ => ?_) | refine ih _ (by omega) ((by have := hst i (by omega); (try dsimp only at *); omega)) (by refine ⟨?_, ?_, ?_⟩ <;> (repeat' (first | exact trivial | (refine zW ?_; have := hst i (by omega); (try dsimp only at *); (try rw [wrap64 (by omega)]); omega) | exact rfl | apply And.intro))) | ((fail_if_success (have _h := ih)); refine LW.count l.length (fun i => ((l.length + sumL (fun t => t.wtK - 1) (l.take i) : Nat) : Int) ≤ left) (fun i => ⟨[(5, .d (.int .i64 i)), (0, .d (.sl (l.map cK))), (1, .d (.int .i64 (left - ((l.length + sumL (fun t => t.wtK - 1) (l.take i) : Nat) : Int))))], 0, [], []⟩) (fun _ => ⟨rfl, rfl, rfl⟩) (fun i hi hI ih => ?_) (by simp [sumL]; omega) _ (by refine ⟨?_, ?_, ?_⟩ <;> (repeat' (first | exact trivial | (refine zW ?_; simp [sumL]) | exact rfl | apply And.intro)))) | fail)
  all_goals (conv => whnf)
  all_goals first
    | exact yJ (zW (by rw [szI_n (by have := hle l.length; rw [sumL_all _ (Nat.le_refl _)] at this; omega)]))
    | exact yJ (zW (by have := hst i (by omega); have := hle (i + 1); (try dsimp only at *); rw [szI_n (by omega)]))
    | exact yJ (zW (by have e := sumL_all (fun t => t.wtK - 1) (l := l) (i := i) (by omega); rw [e] at hI ⊢; rw [szI_y (by omega)]))
theorem l_toKindS {L : Lk} (hf : FnR L 158 c158) (l : List Nd) (hl : l.length ≤ 4000000) (h : ∀ i (h : i < l.length), CP L 84 [aK l[i]] (aK l[i])) : CP L 158 [.d (.sl (l.map cK))] (.d (.sl (l.map cK))) := by
  have hfl : ∀ i, i ≤ l.length → l.length = (fillS cK [.int .i64 0, .sl [], .sl []] l i).length := fun i h => fill_len h
  refine CP.enter hf rfl rfl rfl ?_
  repeat' ((conv => whnf); first | (rw [wrap64 (by omega)]) | (rw [zZ]; intro _) | refine zA ⟨rfl, by omega, by omega, by decide, rfl⟩ ?_ | refine zA ⟨by omega, by omega⟩ ?_ | refine zA ⟨rfl, rfl, rfl, by have := hfl i (by omega); (try simp only [Int.toNat_natCast]); omega⟩ ?_ | refine zI (fun _ => ?_) (fun _ => ?_) | refine zA (by first | omega | exact rfl | decide) ?_ | refine yG (by omega) ?_ | refine zB (h i (by omega)) ?_ | refine zA (hfl i (by omega)) ?_ | refine ih _ (by omega) (trivial) (by refine ⟨?_, ?_, ?_⟩ <;> (repeat' (first | exact trivial | exact fill_set (by omega) ((cK_eq _).symm) | exact rfl | exact Nat.le_of_ble_eq_true rfl | apply And.intro))) | ((fail_if_success (have _h := ih)); refine LW.count l.length (fun i => True) (fun i => ⟨[(4, .d (.int .i64 i)), (0, .d (.sl (l.map cK))), (3, .bsl 0 l.length)], 1, [.row 3 (fillS cK [.int .i64 0, .sl [], .sl []] l i)], []⟩) (fun _ => ⟨rfl, rfl, rfl⟩) (fun i hi hI ih => ?_) (trivial) _ (by refine ⟨?_, ?_, ?_⟩ <;> (repeat' (first | exact trivial | exact fill_zero | exact rfl | exact Nat.le_of_ble_eq_true rfl | apply And.intro)))) | fail)
  all_goals (conv => whnf)
  all_goals (refine yK ?_ ?_ ?_ ?_ <;> (repeat' (first | exact trivial | exact fill_all (by omega) | exact rfl    )); done)
theorem l_eqKindS {L : Lk} (hf : FnR L 181 c181) (l : List Nd) (h : ∀ i (h : i < l.length), CP L 107 [aK l[i], aK l[i]] (.d (.bool true))) : CP L 181 [.d (.sl (l.map cK)), .d (.sl (l.map cK))] (.d (.bool true)) := by
  by_cases hb : l.length ≤ 140737488355328
  · refine CP.enter hf rfl rfl rfl ?_
    repeat' ((conv => whnf); first | (rw [wrap64 (by omega)]) | (rw [zZ]; intro _) | refine zH (zG (fun _ => ?_) (fun h => absurd rfl h)) | refine zI (fun _ => ?_) (fun _ => ?_) | refine zA (by first | omega | exact rfl | decide) ?_ | refine yG (by omega) ?_ | refine zC (h i (by omega)) ?_ | refine ih _ (by omega) (trivial) (by refine ⟨?_, ?_, ?_⟩ <;> (repeat' (first | exact trivial | exact rfl | apply And.intro))) | ((fail_if_success (have _h := ih)); refine LW.count l.length (fun i => True) (fun i => ⟨[(5, .d (.int .i64 i)), (0, .d (.sl (l.map cK))), (1, .d (.sl (l.map cK)))], 0, [], []⟩) (fun _ => ⟨rfl, rfl, rfl⟩) (fun i hi hI ih => ?_) (trivial) _ (by refine ⟨?_, ?_, ?_⟩ <;> (repeat' (first | exact trivial | exact rfl | apply And.intro)))) | fail)
    all_goals (conv => whnf)
    all_goals exact yJ rfl
  · refine CP.enter hf rfl rfl rfl ?_
    repeat' ((conv => whnf); first | (exfalso; omega) | (rw [zZ]; intro _) | fail)
    all_goals (conv => whnf)
theorem l_szKind {L : Lk} (hf : FnR L 61 c61) (hfS : FnR L 145 c145) (hS : ∀ (l : List Str) (left : Int), 0 ≤ left ∧ left ≤ 1048576 → CP L 144 [.d (.sl (encS l)), .d (.int .i64 left)] (.d (.int .i64 (szI left (l.length + sumL List.length l))))) :
    ∀ (t : Nd) (left : Int), 0 ≤ left ∧ left ≤ 1048576 → CP L 61 [aK t, .d (.int .i64 left)] (.d (.int .i64 (szI left (t.wtK - 1)))) := by
  refine Nd.ind fun t ihT => ?_
  intro left hl
  have hk := l_szKindS hfS t.kids (fun i h left hl => ihT _ (List.getElem_mem h) left hl)
  have hn := hS t.names
  rw [wtS_sum] at hn
  rw [wtKs_sum] at hk
  have hw := t.wtK_eq
  refine CP.enter hf rfl rfl rfl ?_
  repeat' ((conv => whnf); first | (exfalso; omega) | refine zI (fun _ => ?_) (fun _ => ?_) | refine callSz (hn _ (by omega)) (fun _ => ?_) (fun _ => ?_) | refine callSz (hk _ (by omega)) (fun _ => ?_) (fun _ => ?_) | fail)
  all_goals (conv => whnf)
  all_goals first
    | exact yJ (zW (by rw [szI_n (by omega)]))
    | exact yJ (zW (by rw [szI_y (by omega)]; omega))
theorem l_toKind {L : Lk} (hf : FnR L 84 c84) (hfS : FnR L 158 c158) (hS : ∀ l : List Str, l.length ≤ 4000000 → CP L 157 [.d (.sl (encS l))] (.d (.sl (encS l)))) :
    ∀ t : Nd, t.wtK ≤ 4000000 → CP L 84 [aK t] (aK t) := by
  refine Nd.ind fun t ihT => ?_
  intro hl
  have hw := t.wtK_eq
  have h1 := wtS_len t.names
  have h2 := wtKs_len t.kids
  have hk := l_toKindS hfS t.kids (by omega) (fun i h => ihT _ (List.getElem_mem h) (by have := wtKs_get t.kids i h; omega))
  have hn := hS t.names (by omega)
  refine CP.enter hf rfl rfl rfl ?_
  repeat' ((conv => whnf); first | refine zB (hn) ?_ | refine zB (hk) ?_ | fail)
  all_goals (conv => whnf)
  all_goals (refine yK ?_ ?_ ?_ ?_ <;> (repeat' (first | exact trivial | exact rfl    | apply And.intro)); done)
theorem l_eqKind {L : Lk} (hf : FnR L 107 c107) (hfS : FnR L 181 c181) (hS : ∀ l : List Str, CP L 180 [.d (.sl (encS l)), .d (.sl (encS l))] (.d (.bool true))) : ∀ t : Nd, CP L 107 [aK t, aK t] (.d (.bool true)) := by
  refine Nd.ind fun t ihT => ?_
  have hk := l_eqKindS hfS t.kids (fun i h => ihT _ (List.getElem_mem h))
  have hn := hS t.names
  refine CP.enter hf rfl rfl rfl ?_
  repeat' ((conv => whnf); first | refine zH (zG (fun _ => ?_) (fun h => absurd rfl h)) | refine zB (hn) ?_ | refine zB (hk) ?_ | fail)
  all_goals (conv => whnf)
  all_goals exact yJ rfl
def Ev.sz (e : Ev) : Nat := e.typ.length + (e.body.wt - 1)
theorem Ev.sz_eq (e : Ev) : e.sz = e.typ.length + (e.body.wt - 1) := rfl
def Pw.sz (p : Pw) : Nat := p.data.length + p.keep.length
theorem Pw.sz_eq (p : Pw) : p.sz = p.data.length + p.keep.length := rfl
def Fs.sz (s : Fs) : Nat := (s.kind.wtK - 1) + (s.save.wt - 1) + (s.lift.wt - 1)
theorem Fs.sz_eq (s : Fs) : s.sz = (s.kind.wtK - 1) + (s.save.wt - 1) + (s.lift.wt - 1) := rfl
def Ft.sz (s : Ft) : Nat := s.typ.length + (s.act.wt - 1)
theorem Ft.sz_eq (s : Ft) : s.sz = s.typ.length + (s.act.wt - 1) := rfl
def Pl.sz (p : Pl) : Nat := p.name.length + (p.states.length + sumL Fs.sz p.states) + (p.start.wt - 1) + (p.steps.length + sumL Ft.sz p.steps)
theorem Pl.sz_eq (p : Pl) : p.sz = p.name.length + (p.states.length + sumL Fs.sz p.states) + (p.start.wt - 1) + (p.steps.length + sumL Ft.sz p.steps) := rfl
def Te.sz (e : Te) : Nat := e.key.length + e.event.sz + e.name.length + (e.form.wtK - 1) + (e.lift.wt - 1) + e.plan.sz + e.power.sz
theorem Te.sz_eq (e : Te) : e.sz = e.key.length + e.event.sz + e.name.length + (e.form.wtK - 1) + (e.lift.wt - 1) + e.plan.sz + e.power.sz := rfl
theorem l_szEvent {L : Lk} (hf : FnR L 60 c60) (hTree : ∀ (y : Nd) (left : Int), 0 ≤ left ∧ left ≤ 1048576 → CP L 143 [aT y, .d (.int .i64 left)] (.d (.int .i64 (szI left (y.wt - 1))))) : ∀ (x : Ev) (left : Int), 0 ≤ left ∧ left ≤ 1048576 → CP L 60 [.agg (av (eD x)), .d (.int .i64 left)] (.d (.int .i64 (szI left x.sz))) := by
  intro x left hl
  have hw := x.sz_eq
  refine CP.enter hf rfl rfl rfl ?_
  repeat' ((conv => whnf); first | (exfalso; omega) | (rw [wrap64 (by omega)]) | refine zI (fun _ => ?_) (fun _ => ?_) | intro _ | refine callSz (hTree x.body _ (by omega)) (fun _ => ?_) (fun _ => ?_) | fail)
  all_goals (conv => whnf)
  all_goals first
    | exact yJ (zW (by rw [szI_n (by omega)]))
    | exact yJ (zW (by rw [szI_y (by omega)]; omega))
theorem l_toEvent {L : Lk} (hf : FnR L 83 c83) (hTree : ∀ (y : Nd), y.wt ≤ 4000000 → CP L 156 [aT y] (aT y)) : ∀ x : Ev, x.sz ≤ 2000000 → CP L 83 [.agg (av (eD x))] (.agg (av (eD x))) := by
  intro x hl
  have hw := x.sz_eq
  refine CP.enter hf rfl rfl rfl ?_
  repeat' ((conv => whnf); first | refine zB (hTree x.body (by omega)) ?_ | fail)
  all_goals (conv => whnf)
  all_goals (refine yK ?_ ?_ ?_ ?_ <;> (repeat' (first | exact trivial | exact rfl    | apply And.intro)); done)
theorem l_eqEvent {L : Lk} (hf : FnR L 106 c106) (hTree : ∀ (y : Nd), CP L 179 [aT y, aT y] (.d (.bool true))) : ∀ x : Ev, CP L 106 [.agg (av (eD x)), .agg (av (eD x))] (.d (.bool true)) := by
  intro x
  refine CP.enter hf rfl rfl rfl ?_
  repeat' ((conv => whnf); first | refine zH (zG (fun _ => ?_) (fun h => absurd rfl h)) | refine zH (zF (fun _ => ?_) (fun h => absurd rfl h)) | refine zB (hTree x.body) ?_ | fail)
  all_goals (conv => whnf)
  all_goals exact yJ rfl
theorem l_szLogAct {L : Lk} (hf : FnR L 64 c64) (hIntS : ∀ (l : List Int) (left : Int), 0 ≤ left ∧ left ≤ 1048576 → CP L 149 [.d (.sl (encI l)), .d (.int .i64 left)] (.d (.int .i64 (szI left (l.length))))) : ∀ (x : Pw) (left : Int), 0 ≤ left ∧ left ≤ 1048576 → CP L 64 [.agg (av (wD x)), .d (.int .i64 left)] (.d (.int .i64 (szI left x.sz))) := by
  intro x left hl
  have hw := x.sz_eq
  refine CP.enter hf rfl rfl rfl ?_
  repeat' ((conv => whnf); first | (exfalso; omega) | (rw [wrap64 (by omega)]) | refine zI (fun _ => ?_) (fun _ => ?_) | intro _ | refine callSz (hIntS x.keep _ (by omega)) (fun _ => ?_) (fun _ => ?_) | fail)
  all_goals (conv => whnf)
  all_goals first
    | exact yJ (zW (by rw [szI_n (by omega)]))
    | exact yJ (zW (by rw [szI_y (by omega)]; omega))
theorem l_toLogAct {L : Lk} (hf : FnR L 87 c87) (hIntS : ∀ (l : List Int), l.length ≤ 4000000 → CP L 162 [.d (.sl (encI l))] (.d (.sl (encI l)))) : ∀ x : Pw, x.sz ≤ 2000000 → CP L 87 [.agg (av (wD x))] (.agg (av (wD x))) := by
  intro x hl
  have hw := x.sz_eq
  refine CP.enter hf rfl rfl rfl ?_
  repeat' ((conv => whnf); first | refine zB (hIntS x.keep (by omega)) ?_ | fail)
  all_goals (conv => whnf)
  all_goals (refine yK ?_ ?_ ?_ ?_ <;> (repeat' (first | exact trivial | exact rfl    | apply And.intro)); done)
theorem l_eqLogAct {L : Lk} (hf : FnR L 110 c110) (hIntS : ∀ (l : List Int), CP L 185 [.d (.sl (encI l)), .d (.sl (encI l))] (.d (.bool true))) : ∀ x : Pw, CP L 110 [.agg (av (wD x)), .agg (av (wD x))] (.d (.bool true)) := by
  intro x
  refine CP.enter hf rfl rfl rfl ?_
  repeat' ((conv => whnf); first | refine zH (zG (fun _ => ?_) (fun h => absurd rfl h)) | refine zH (zF (fun _ => ?_) (fun h => absurd rfl h)) | refine sel_bneS ?_ | refine zB (hIntS x.keep) ?_ | fail)
  all_goals (conv => whnf)
  all_goals exact yJ rfl
theorem l_szFoldState {L : Lk} (hf : FnR L 235 c235) (hKind : ∀ (y : Nd) (left : Int), 0 ≤ left ∧ left ≤ 1048576 → CP L 61 [aK y, .d (.int .i64 left)] (.d (.int .i64 (szI left (y.wtK - 1))))) (hLiftNode : ∀ (y : Nd) (left : Int), 0 ≤ left ∧ left ≤ 1048576 → CP L 62 [aT y, .d (.int .i64 left)] (.d (.int .i64 (szI left (y.wt - 1))))) : ∀ (x : Fs) (left : Int), 0 ≤ left ∧ left ≤ 1048576 → CP L 235 [.agg (av (fsD x)), .d (.int .i64 left)] (.d (.int .i64 (szI left x.sz))) := by
  intro x left hl
  have hw := x.sz_eq
  refine CP.enter hf rfl rfl rfl ?_
  repeat' ((conv => whnf); first | (exfalso; omega) | refine zI (fun _ => ?_) (fun _ => ?_) | refine callSz (hKind x.kind _ (by omega)) (fun _ => ?_) (fun _ => ?_) | refine callSz (hLiftNode x.save _ (by omega)) (fun _ => ?_) (fun _ => ?_) | refine callSz (hLiftNode x.lift _ (by omega)) (fun _ => ?_) (fun _ => ?_) | fail)
  all_goals (conv => whnf)
  all_goals first
    | exact yJ (zW (by rw [szI_n (by omega)]))
    | exact yJ (zW (by rw [szI_y (by omega)]; omega))
theorem l_toFoldState {L : Lk} (hf : FnR L 241 c241) (hKind : ∀ (y : Nd), y.wtK ≤ 4000000 → CP L 84 [aK y] (aK y)) (hLiftNode : ∀ (y : Nd), y.wt ≤ 4000000 → CP L 85 [aT y] (aT y)) : ∀ x : Fs, x.sz ≤ 2000000 → CP L 241 [.agg (av (fsD x))] (.agg (av (fsD x))) := by
  intro x hl
  have hw := x.sz_eq
  refine CP.enter hf rfl rfl rfl ?_
  repeat' ((conv => whnf); first | refine zB (hKind x.kind (by omega)) ?_ | refine zB (hLiftNode x.save (by omega)) ?_ | refine zB (hLiftNode x.lift (by omega)) ?_ | fail)
  all_goals (conv => whnf)
  all_goals (refine yK ?_ ?_ ?_ ?_ <;> (repeat' (first | exact trivial | exact rfl    | apply And.intro)); done)
theorem l_eqFoldState {L : Lk} (hf : FnR L 256 c256) (hKind : ∀ (y : Nd), CP L 107 [aK y, aK y] (.d (.bool true))) (hLiftNode : ∀ (y : Nd), CP L 108 [aT y, aT y] (.d (.bool true))) : ∀ x : Fs, CP L 256 [.agg (av (fsD x)), .agg (av (fsD x))] (.d (.bool true)) := by
  intro x
  refine CP.enter hf rfl rfl rfl ?_
  repeat' ((conv => whnf); first | refine zB (hKind x.kind) ?_ | refine zB (hLiftNode x.save) ?_ | refine zB (hLiftNode x.lift) ?_ | fail)
  all_goals (conv => whnf)
  all_goals exact yJ rfl
theorem l_szFoldStep {L : Lk} (hf : FnR L 236 c236) (hLiftNode : ∀ (y : Nd) (left : Int), 0 ≤ left ∧ left ≤ 1048576 → CP L 62 [aT y, .d (.int .i64 left)] (.d (.int .i64 (szI left (y.wt - 1))))) : ∀ (x : Ft) (left : Int), 0 ≤ left ∧ left ≤ 1048576 → CP L 236 [.agg (av (ftD x)), .d (.int .i64 left)] (.d (.int .i64 (szI left x.sz))) := by
  intro x left hl
  have hw := x.sz_eq
  refine CP.enter hf rfl rfl rfl ?_
  repeat' ((conv => whnf); first | (exfalso; omega) | (rw [wrap64 (by omega)]) | refine zI (fun _ => ?_) (fun _ => ?_) | intro _ | refine callSz (hLiftNode x.act _ (by omega)) (fun _ => ?_) (fun _ => ?_) | fail)
  all_goals (conv => whnf)
  all_goals first
    | exact yJ (zW (by rw [szI_n (by omega)]))
    | exact yJ (zW (by rw [szI_y (by omega)]; omega))
theorem l_toFoldStep {L : Lk} (hf : FnR L 242 c242) (hLiftNode : ∀ (y : Nd), y.wt ≤ 4000000 → CP L 85 [aT y] (aT y)) : ∀ x : Ft, x.sz ≤ 2000000 → CP L 242 [.agg (av (ftD x))] (.agg (av (ftD x))) := by
  intro x hl
  have hw := x.sz_eq
  refine CP.enter hf rfl rfl rfl ?_
  repeat' ((conv => whnf); first | refine zB (hLiftNode x.act (by omega)) ?_ | fail)
  all_goals (conv => whnf)
  all_goals (refine yK ?_ ?_ ?_ ?_ <;> (repeat' (first | exact trivial | exact rfl    | apply And.intro)); done)
theorem l_eqFoldStep {L : Lk} (hf : FnR L 257 c257) (hLiftNode : ∀ (y : Nd), CP L 108 [aT y, aT y] (.d (.bool true))) : ∀ x : Ft, CP L 257 [.agg (av (ftD x)), .agg (av (ftD x))] (.d (.bool true)) := by
  intro x
  refine CP.enter hf rfl rfl rfl ?_
  repeat' ((conv => whnf); first | refine zH (zF (fun _ => ?_) (fun h => absurd rfl h)) | refine zB (hLiftNode x.act) ?_ | fail)
  all_goals (conv => whnf)
  all_goals exact yJ rfl
theorem l_szFoldStateS {L : Lk} (hf : FnR L 147 c147) (l : List Fs) (h : ∀ i (h : i < l.length) (left : Int), 0 ≤ left ∧ left ≤ 1048576 → CP L 235 [.agg (av (fsD l[i])), .d (.int .i64 left)] (.d (.int .i64 (szI left (Fs.sz l[i]))))) :
    ∀ (left : Int), 0 ≤ left ∧ left ≤ 1048576 → CP L 147 [.d (.sl (l.map fsD)), .d (.int .i64 left)] (.d (.int .i64 (szI left (l.length + sumL Fs.sz l)))) := by
  intro left hl
  have hle := sumL_le Fs.sz l
  have hst : ∀ i (h : i < l.length), sumL Fs.sz (l.take (i + 1)) = sumL Fs.sz (l.take i) + Fs.sz l[i] := fun i h => sumL_take _ h
  refine CP.enter hf rfl rfl rfl ?_
  repeat' ((conv => whnf); first | (exfalso; omega) | (rw [wrap64 (by omega)]) | (rw [lenFs]; intro _) | refine zI (fun _ => ?_) (fun _ => ?_) | refine zA (by first | omega | exact rfl | decide) ?_ | refine idx_m (f := fsD) (xs := l) (by omega) ?_ | refine callSz (h i (by omega) _ (by omega)) (fun _ => ?_) (fun _ => ?_) | refine ih _ (by omega) ((by have := hst i (by omega); (try dsimp only at *); omega)) (by refine ⟨?_, ?_, ?_⟩ <;> (repeat' (first | exact trivial | (refine zW ?_; have := hst i (by omega); (try dsimp only at *); (try rw [wrap64 (by omega)]); omega) | exact rfl | apply And.intro))) | ((fail_if_success (have _h := ih)); refine LW.count l.length (fun i => ((l.length + sumL Fs.sz (l.take i) : Nat) : Int) ≤ left) (fun i => ⟨[(5, .d (.int .i64 i)), (0, .d (.sl (l.map fsD))), (1, .d (.int .i64 (left - ((l.length + sumL Fs.sz (l.take i) : Nat) : Int))))], 0, [], []⟩) (fun _ => ⟨rfl, rfl, rfl⟩) (fun i hi hI ih => ?_) (by simp [sumL]; omega) _ (by refine ⟨?_, ?_, ?_⟩ <;> (repeat' (first | exact trivial | (refine zW ?_; simp [sumL]) | exact rfl | apply And.intro)))) | fail)
  all_goals (conv => whnf)
  all_goals first
    | exact yJ (zW (by rw [szI_n (by have := hle l.length; rw [sumL_all _ (Nat.le_refl _)] at this; omega)]))
    | exact yJ (zW (by have := hst i (by omega); have := hle (i + 1); (try dsimp only at *); rw [szI_n (by omega)]))
    | exact yJ (zW (by have e := sumL_all Fs.sz (l := l) (i := i) (by omega); rw [e] at hI ⊢; rw [szI_y (by omega)]))
theorem l_toFoldStateS {L : Lk} (hf : FnR L 160 c160) (l : List Fs) (hl : l.length ≤ 4000000) (h : ∀ i (h : i < l.length), CP L 241 [.agg (av (fsD l[i]))] (.agg (av (fsD l[i])))) : CP L 160 [.d (.sl (l.map fsD))] (.d (.sl (l.map fsD))) := by
  have hfl : ∀ i, i ≤ l.length → l.length = (fillS fsD [.int .i64 0, .sl [], .sl [], .int .i64 0, .int .i64 0, .str [], .sl [], .sl [], .int .i64 0, .int .i64 0, .str [], .sl [], .sl []] l i).length := fun i h => fill_len h
  refine CP.enter hf rfl rfl rfl ?_
  repeat' ((conv => whnf); first | (rw [wrap64 (by omega)]) | (rw [lenFs]; intro _) | refine zA ⟨rfl, by omega, by omega, by decide, rfl⟩ ?_ | refine zA ⟨by omega, by omega⟩ ?_ | refine zA ⟨rfl, rfl, rfl, by have := hfl i (by omega); (try simp only [Int.toNat_natCast]); omega⟩ ?_ | refine zI (fun _ => ?_) (fun _ => ?_) | refine zA (by first | omega | exact rfl | decide) ?_ | refine idx_m (f := fsD) (xs := l) (by omega) ?_ | refine zB (h i (by omega)) ?_ | refine zA (hfl i (by omega)) ?_ | refine ih _ (by omega) (trivial) (by refine ⟨?_, ?_, ?_⟩ <;> (repeat' (first | exact trivial | exact fill_set (by omega) (rfl) | exact rfl | exact Nat.le_of_ble_eq_true rfl | apply And.intro))) | ((fail_if_success (have _h := ih)); refine LW.count l.length (fun i => True) (fun i => ⟨[(4, .d (.int .i64 i)), (0, .d (.sl (l.map fsD))), (3, .bsl 0 l.length)], 1, [.row 13 (fillS fsD [.int .i64 0, .sl [], .sl [], .int .i64 0, .int .i64 0, .str [], .sl [], .sl [], .int .i64 0, .int .i64 0, .str [], .sl [], .sl []] l i)], []⟩) (fun _ => ⟨rfl, rfl, rfl⟩) (fun i hi hI ih => ?_) (trivial) _ (by refine ⟨?_, ?_, ?_⟩ <;> (repeat' (first | exact trivial | exact fill_zero | exact rfl | exact Nat.le_of_ble_eq_true rfl | apply And.intro)))) | fail)
  all_goals (conv => whnf)
  all_goals (refine yK ?_ ?_ ?_ ?_ <;> (repeat' (first | exact trivial | exact fill_all (by omega) | exact rfl    )); done)
theorem l_eqFoldStateS {L : Lk} (hf : FnR L 183 c183) (l : List Fs) (h : ∀ i (h : i < l.length), CP L 256 [.agg (av (fsD l[i])), .agg (av (fsD l[i]))] (.d (.bool true))) : CP L 183 [.d (.sl (l.map fsD)), .d (.sl (l.map fsD))] (.d (.bool true)) := by
  by_cases hb : l.length ≤ 140737488355328
  · refine CP.enter hf rfl rfl rfl ?_
    repeat' ((conv => whnf); first | (rw [wrap64 (by omega)]) | (rw [lenFs]; intro _) | refine zH (zG (fun _ => ?_) (fun h => absurd rfl h)) | refine zI (fun _ => ?_) (fun _ => ?_) | refine zA (by first | omega | exact rfl | decide) ?_ | refine idx_m (f := fsD) (xs := l) (by omega) ?_ | refine zC (h i (by omega)) ?_ | refine ih _ (by omega) (trivial) (by refine ⟨?_, ?_, ?_⟩ <;> (repeat' (first | exact trivial | exact rfl | apply And.intro))) | ((fail_if_success (have _h := ih)); refine LW.count l.length (fun i => True) (fun i => ⟨[(5, .d (.int .i64 i)), (0, .d (.sl (l.map fsD))), (1, .d (.sl (l.map fsD)))], 0, [], []⟩) (fun _ => ⟨rfl, rfl, rfl⟩) (fun i hi hI ih => ?_) (trivial) _ (by refine ⟨?_, ?_, ?_⟩ <;> (repeat' (first | exact trivial | exact rfl | apply And.intro)))) | fail)
    all_goals (conv => whnf)
    all_goals exact yJ rfl
  · refine CP.enter hf rfl rfl rfl ?_
    repeat' ((conv => whnf); first | (exfalso; omega) | (rw [lenFs]; intro _) | fail)
    all_goals (conv => whnf)
theorem l_szFoldStepS {L : Lk} (hf : FnR L 148 c148) (l : List Ft) (h : ∀ i (h : i < l.length) (left : Int), 0 ≤ left ∧ left ≤ 1048576 → CP L 236 [.agg (av (ftD l[i])), .d (.int .i64 left)] (.d (.int .i64 (szI left (Ft.sz l[i]))))) :
    ∀ (left : Int), 0 ≤ left ∧ left ≤ 1048576 → CP L 148 [.d (.sl (l.map ftD)), .d (.int .i64 left)] (.d (.int .i64 (szI left (l.length + sumL Ft.sz l)))) := by
  intro left hl
  have hle := sumL_le Ft.sz l
  have hst : ∀ i (h : i < l.length), sumL Ft.sz (l.take (i + 1)) = sumL Ft.sz (l.take i) + Ft.sz l[i] := fun i h => sumL_take _ h
  refine CP.enter hf rfl rfl rfl ?_
  repeat' ((conv => whnf); first | (exfalso; omega) | (rw [wrap64 (by omega)]) | (rw [lenFt]; intro _) | refine zI (fun _ => ?_) (fun _ => ?_) | refine zA (by first | omega | exact rfl | decide) ?_ | refine idx_m (f := ftD) (xs := l) (by omega) ?_ | refine callSz (h i (by omega) _ (by omega)) (fun _ => ?_) (fun _ => ?_) | refine ih _ (by omega) ((by have := hst i (by omega); (try dsimp only at *); omega)) (by refine ⟨?_, ?_, ?_⟩ <;> (repeat' (first | exact trivial | (refine zW ?_; have := hst i (by omega); (try dsimp only at *); (try rw [wrap64 (by omega)]); omega) | exact rfl | apply And.intro))) | ((fail_if_success (have _h := ih)); refine LW.count l.length (fun i => ((l.length + sumL Ft.sz (l.take i) : Nat) : Int) ≤ left) (fun i => ⟨[(5, .d (.int .i64 i)), (0, .d (.sl (l.map ftD))), (1, .d (.int .i64 (left - ((l.length + sumL Ft.sz (l.take i) : Nat) : Int))))], 0, [], []⟩) (fun _ => ⟨rfl, rfl, rfl⟩) (fun i hi hI ih => ?_) (by simp [sumL]; omega) _ (by refine ⟨?_, ?_, ?_⟩ <;> (repeat' (first | exact trivial | (refine zW ?_; simp [sumL]) | exact rfl | apply And.intro)))) | fail)
  all_goals (conv => whnf)
  all_goals first
    | exact yJ (zW (by rw [szI_n (by have := hle l.length; rw [sumL_all _ (Nat.le_refl _)] at this; omega)]))
    | exact yJ (zW (by have := hst i (by omega); have := hle (i + 1); (try dsimp only at *); rw [szI_n (by omega)]))
    | exact yJ (zW (by have e := sumL_all Ft.sz (l := l) (i := i) (by omega); rw [e] at hI ⊢; rw [szI_y (by omega)]))
theorem l_toFoldStepS {L : Lk} (hf : FnR L 161 c161) (l : List Ft) (hl : l.length ≤ 4000000) (h : ∀ i (h : i < l.length), CP L 242 [.agg (av (ftD l[i]))] (.agg (av (ftD l[i])))) : CP L 161 [.d (.sl (l.map ftD))] (.d (.sl (l.map ftD))) := by
  have hfl : ∀ i, i ≤ l.length → l.length = (fillS ftD [.str [], .int .i64 0, .int .i64 0, .str [], .sl [], .sl []] l i).length := fun i h => fill_len h
  refine CP.enter hf rfl rfl rfl ?_
  repeat' ((conv => whnf); first | (rw [wrap64 (by omega)]) | (rw [lenFt]; intro _) | refine zA ⟨rfl, by omega, by omega, by decide, rfl⟩ ?_ | refine zA ⟨by omega, by omega⟩ ?_ | refine zA ⟨rfl, rfl, rfl, by have := hfl i (by omega); (try simp only [Int.toNat_natCast]); omega⟩ ?_ | refine zI (fun _ => ?_) (fun _ => ?_) | refine zA (by first | omega | exact rfl | decide) ?_ | refine idx_m (f := ftD) (xs := l) (by omega) ?_ | refine zB (h i (by omega)) ?_ | refine zA (hfl i (by omega)) ?_ | refine ih _ (by omega) (trivial) (by refine ⟨?_, ?_, ?_⟩ <;> (repeat' (first | exact trivial | exact fill_set (by omega) (rfl) | exact rfl | exact Nat.le_of_ble_eq_true rfl | apply And.intro))) | ((fail_if_success (have _h := ih)); refine LW.count l.length (fun i => True) (fun i => ⟨[(4, .d (.int .i64 i)), (0, .d (.sl (l.map ftD))), (3, .bsl 0 l.length)], 1, [.row 6 (fillS ftD [.str [], .int .i64 0, .int .i64 0, .str [], .sl [], .sl []] l i)], []⟩) (fun _ => ⟨rfl, rfl, rfl⟩) (fun i hi hI ih => ?_) (trivial) _ (by refine ⟨?_, ?_, ?_⟩ <;> (repeat' (first | exact trivial | exact fill_zero | exact rfl | exact Nat.le_of_ble_eq_true rfl | apply And.intro)))) | fail)
  all_goals (conv => whnf)
  all_goals (refine yK ?_ ?_ ?_ ?_ <;> (repeat' (first | exact trivial | exact fill_all (by omega) | exact rfl    )); done)
theorem l_eqFoldStepS {L : Lk} (hf : FnR L 184 c184) (l : List Ft) (h : ∀ i (h : i < l.length), CP L 257 [.agg (av (ftD l[i])), .agg (av (ftD l[i]))] (.d (.bool true))) : CP L 184 [.d (.sl (l.map ftD)), .d (.sl (l.map ftD))] (.d (.bool true)) := by
  by_cases hb : l.length ≤ 140737488355328
  · refine CP.enter hf rfl rfl rfl ?_
    repeat' ((conv => whnf); first | (rw [wrap64 (by omega)]) | (rw [lenFt]; intro _) | refine zH (zG (fun _ => ?_) (fun h => absurd rfl h)) | refine zI (fun _ => ?_) (fun _ => ?_) | refine zA (by first | omega | exact rfl | decide) ?_ | refine idx_m (f := ftD) (xs := l) (by omega) ?_ | refine zC (h i (by omega)) ?_ | refine ih _ (by omega) (trivial) (by refine ⟨?_, ?_, ?_⟩ <;> (repeat' (first | exact trivial | exact rfl | apply And.intro))) | ((fail_if_success (have _h := ih)); refine LW.count l.length (fun i => True) (fun i => ⟨[(5, .d (.int .i64 i)), (0, .d (.sl (l.map ftD))), (1, .d (.sl (l.map ftD)))], 0, [], []⟩) (fun _ => ⟨rfl, rfl, rfl⟩) (fun i hi hI ih => ?_) (trivial) _ (by refine ⟨?_, ?_, ?_⟩ <;> (repeat' (first | exact trivial | exact rfl | apply And.intro)))) | fail)
    all_goals (conv => whnf)
    all_goals exact yJ rfl
  · refine CP.enter hf rfl rfl rfl ?_
    repeat' ((conv => whnf); first | (exfalso; omega) | (rw [lenFt]; intro _) | fail)
    all_goals (conv => whnf)
theorem l_szFoldPlan {L : Lk} (hf : FnR L 63 c63) (hFoldStateS : ∀ (l : List Fs) (left : Int), 0 ≤ left ∧ left ≤ 1048576 → CP L 147 [.d (.sl (l.map fsD)), .d (.int .i64 left)] (.d (.int .i64 (szI left (l.length + sumL Fs.sz l))))) (hTree : ∀ (y : Nd) (left : Int), 0 ≤ left ∧ left ≤ 1048576 → CP L 143 [aT y, .d (.int .i64 left)] (.d (.int .i64 (szI left (y.wt - 1))))) (hFoldStepS : ∀ (l : List Ft) (left : Int), 0 ≤ left ∧ left ≤ 1048576 → CP L 148 [.d (.sl (l.map ftD)), .d (.int .i64 left)] (.d (.int .i64 (szI left (l.length + sumL Ft.sz l))))) : ∀ (x : Pl) (left : Int), 0 ≤ left ∧ left ≤ 1048576 → CP L 63 [.agg (av (plD x)), .d (.int .i64 left)] (.d (.int .i64 (szI left x.sz))) := by
  intro x left hl
  have hw := x.sz_eq
  refine CP.enter hf rfl rfl rfl ?_
  repeat' ((conv => whnf); first | (exfalso; omega) | (rw [wrap64 (by omega)]) | refine zI (fun _ => ?_) (fun _ => ?_) | intro _ | refine callSz (hFoldStateS x.states _ (by omega)) (fun _ => ?_) (fun _ => ?_) | refine callSz (hTree x.start _ (by omega)) (fun _ => ?_) (fun _ => ?_) | refine callSz (hFoldStepS x.steps _ (by omega)) (fun _ => ?_) (fun _ => ?_) | fail)
  all_goals (conv => whnf)
  all_goals first
    | exact yJ (zW (by rw [szI_n (by omega)]))
    | exact yJ (zW (by rw [szI_y (by omega)]; omega))
theorem l_toFoldPlan {L : Lk} (hf : FnR L 86 c86) (hFoldStateS : ∀ (l : List Fs), l.length + sumL Fs.sz l ≤ 2000000 → CP L 160 [.d (.sl (l.map fsD))] (.d (.sl (l.map fsD)))) (hTree : ∀ (y : Nd), y.wt ≤ 4000000 → CP L 156 [aT y] (aT y)) (hFoldStepS : ∀ (l : List Ft), l.length + sumL Ft.sz l ≤ 2000000 → CP L 161 [.d (.sl (l.map ftD))] (.d (.sl (l.map ftD)))) : ∀ x : Pl, x.sz ≤ 2000000 → CP L 86 [.agg (av (plD x))] (.agg (av (plD x))) := by
  intro x hl
  have hw := x.sz_eq
  refine CP.enter hf rfl rfl rfl ?_
  repeat' ((conv => whnf); first | refine zB (hFoldStateS x.states (by omega)) ?_ | refine zB (hTree x.start (by omega)) ?_ | refine zB (hFoldStepS x.steps (by omega)) ?_ | fail)
  all_goals (conv => whnf)
  all_goals (refine yK ?_ ?_ ?_ ?_ <;> (repeat' (first | exact trivial | exact rfl    | apply And.intro)); done)
theorem l_eqFoldPlan {L : Lk} (hf : FnR L 109 c109) (hFoldStateS : ∀ (l : List Fs), CP L 183 [.d (.sl (l.map fsD)), .d (.sl (l.map fsD))] (.d (.bool true))) (hTree : ∀ (y : Nd), CP L 179 [aT y, aT y] (.d (.bool true))) (hFoldStepS : ∀ (l : List Ft), CP L 184 [.d (.sl (l.map ftD)), .d (.sl (l.map ftD))] (.d (.bool true))) : ∀ x : Pl, CP L 109 [.agg (av (plD x)), .agg (av (plD x))] (.d (.bool true)) := by
  intro x
  refine CP.enter hf rfl rfl rfl ?_
  repeat' ((conv => whnf); first | refine zH (zF (fun _ => ?_) (fun h => absurd rfl h)) | refine zB (hFoldStateS x.states) ?_ | refine zB (hTree x.start) ?_ | refine zB (hFoldStepS x.steps) ?_ | fail)
  all_goals (conv => whnf)
  all_goals exact yJ rfl
theorem l_szTeaEvent {L : Lk} (hf : FnR L 21 c21) (hEvent : ∀ (y : Ev) (left : Int), 0 ≤ left ∧ left ≤ 1048576 → CP L 60 [.agg (av (eD y)), .d (.int .i64 left)] (.d (.int .i64 (szI left (y.sz))))) (hKind : ∀ (y : Nd) (left : Int), 0 ≤ left ∧ left ≤ 1048576 → CP L 61 [aK y, .d (.int .i64 left)] (.d (.int .i64 (szI left (y.wtK - 1))))) (hLiftNode : ∀ (y : Nd) (left : Int), 0 ≤ left ∧ left ≤ 1048576 → CP L 62 [aT y, .d (.int .i64 left)] (.d (.int .i64 (szI left (y.wt - 1))))) (hFoldPlan : ∀ (y : Pl) (left : Int), 0 ≤ left ∧ left ≤ 1048576 → CP L 63 [.agg (av (plD y)), .d (.int .i64 left)] (.d (.int .i64 (szI left (y.sz))))) (hLogAct : ∀ (y : Pw) (left : Int), 0 ≤ left ∧ left ≤ 1048576 → CP L 64 [.agg (av (wD y)), .d (.int .i64 left)] (.d (.int .i64 (szI left (y.sz))))) : ∀ (x : Te) (left : Int), 0 ≤ left ∧ left ≤ 1048576 → CP L 21 [.agg (av (teD x)), .d (.int .i64 left)] (.d (.int .i64 (szI left x.sz))) := by
  intro x left hl
  have hw := x.sz_eq
  refine CP.enter hf rfl rfl rfl ?_
  repeat' ((conv => whnf); first | (exfalso; omega) | (rw [wrap64 (by omega)]) | refine zI (fun _ => ?_) (fun _ => ?_) | intro _ | refine callSz (hEvent x.event _ (by omega)) (fun _ => ?_) (fun _ => ?_) | refine callSz (hKind x.form _ (by omega)) (fun _ => ?_) (fun _ => ?_) | refine callSz (hLiftNode x.lift _ (by omega)) (fun _ => ?_) (fun _ => ?_) | refine callSz (hFoldPlan x.plan _ (by omega)) (fun _ => ?_) (fun _ => ?_) | refine callSz (hLogAct x.power _ (by omega)) (fun _ => ?_) (fun _ => ?_) | fail)
  all_goals (conv => whnf)
  all_goals first
    | exact yJ (zW (by rw [szI_n (by omega)]))
    | exact yJ (zW (by rw [szI_y (by omega)]; omega))
theorem l_toTeaEvent {L : Lk} (hf : FnR L 24 c24) (hEvent : ∀ (y : Ev), y.sz ≤ 2000000 → CP L 83 [.agg (av (eD y))] (.agg (av (eD y)))) (hKind : ∀ (y : Nd), y.wtK ≤ 4000000 → CP L 84 [aK y] (aK y)) (hLiftNode : ∀ (y : Nd), y.wt ≤ 4000000 → CP L 85 [aT y] (aT y)) (hFoldPlan : ∀ (y : Pl), y.sz ≤ 2000000 → CP L 86 [.agg (av (plD y))] (.agg (av (plD y)))) (hLogAct : ∀ (y : Pw), y.sz ≤ 2000000 → CP L 87 [.agg (av (wD y))] (.agg (av (wD y)))) : ∀ x : Te, x.sz ≤ 2000000 → CP L 24 [.agg (av (teD x))] (.agg (av (teD x))) := by
  intro x hl
  have hw := x.sz_eq
  refine CP.enter hf rfl rfl rfl ?_
  repeat' ((conv => whnf); first | refine zB (hEvent x.event (by omega)) ?_ | refine zB (hKind x.form (by omega)) ?_ | refine zB (hLiftNode x.lift (by omega)) ?_ | refine zB (hFoldPlan x.plan (by omega)) ?_ | refine zB (hLogAct x.power (by omega)) ?_ | fail)
  all_goals (conv => whnf)
  all_goals (refine yK ?_ ?_ ?_ ?_ <;> (repeat' (first | exact trivial | exact rfl    | apply And.intro)); done)
theorem l_eqTeaEvent {L : Lk} (hf : FnR L 30 c30) (hEvent : ∀ (y : Ev), CP L 106 [.agg (av (eD y)), .agg (av (eD y))] (.d (.bool true))) (hKind : ∀ (y : Nd), CP L 107 [aK y, aK y] (.d (.bool true))) (hLiftNode : ∀ (y : Nd), CP L 108 [aT y, aT y] (.d (.bool true))) (hFoldPlan : ∀ (y : Pl), CP L 109 [.agg (av (plD y)), .agg (av (plD y))] (.d (.bool true))) (hLogAct : ∀ (y : Pw), CP L 110 [.agg (av (wD y)), .agg (av (wD y))] (.d (.bool true))) : ∀ x : Te, CP L 30 [.agg (av (teD x)), .agg (av (teD x))] (.d (.bool true)) := by
  intro x
  refine CP.enter hf rfl rfl rfl ?_
  repeat' ((conv => whnf); first | refine zH (zG (fun _ => ?_) (fun h => absurd rfl h)) | refine zH (zF (fun _ => ?_) (fun h => absurd rfl h)) | refine zB (hEvent x.event) ?_ | refine zB (hKind x.form) ?_ | refine zB (hLiftNode x.lift) ?_ | refine zB (hFoldPlan x.plan) ?_ | refine zB (hLogAct x.power) ?_ | fail)
  all_goals (conv => whnf)
  all_goals exact yJ rfl
theorem l_szTeaEventS {L : Lk} (hf : FnR L 6 c6) (l : List Te) (h : ∀ i (h : i < l.length) (left : Int), 0 ≤ left ∧ left ≤ 1048576 → CP L 21 [.agg (av (teD l[i])), .d (.int .i64 left)] (.d (.int .i64 (szI left (Te.sz l[i]))))) :
    ∀ (left : Int), 0 ≤ left ∧ left ≤ 1048576 → CP L 6 [.d (.sl (l.map teD)), .d (.int .i64 left)] (.d (.int .i64 (szI left (l.length + sumL Te.sz l)))) := by
  intro left hl
  have hle := sumL_le Te.sz l
  have hst : ∀ i (h : i < l.length), sumL Te.sz (l.take (i + 1)) = sumL Te.sz (l.take i) + Te.sz l[i] := fun i h => sumL_take _ h
  refine CP.enter hf rfl rfl rfl ?_
  repeat' ((conv => whnf); first | (exfalso; omega) | (rw [wrap64 (by omega)]) | (rw [lenTe]; intro _) | refine zI (fun _ => ?_) (fun _ => ?_) | refine zA (by first | omega | exact rfl | decide) ?_ | refine idx_m (f := teD) (xs := l) (by omega) ?_ | refine callSz (h i (by omega) _ (by omega)) (fun _ => ?_) (fun _ => ?_) | refine ih _ (by omega) ((by have := hst i (by omega); (try dsimp only at *); omega)) (by refine ⟨?_, ?_, ?_⟩ <;> (repeat' (first | exact trivial | (refine zW ?_; have := hst i (by omega); (try dsimp only at *); (try rw [wrap64 (by omega)]); omega) | exact rfl | apply And.intro))) | ((fail_if_success (have _h := ih)); refine LW.count l.length (fun i => ((l.length + sumL Te.sz (l.take i) : Nat) : Int) ≤ left) (fun i => ⟨[(5, .d (.int .i64 i)), (0, .d (.sl (l.map teD))), (1, .d (.int .i64 (left - ((l.length + sumL Te.sz (l.take i) : Nat) : Int))))], 0, [], []⟩) (fun _ => ⟨rfl, rfl, rfl⟩) (fun i hi hI ih => ?_) (by simp [sumL]; omega) _ (by refine ⟨?_, ?_, ?_⟩ <;> (repeat' (first | exact trivial | (refine zW ?_; simp [sumL]) | exact rfl | apply And.intro)))) | fail)
  all_goals (conv => whnf)
  all_goals first
    | exact yJ (zW (by rw [szI_n (by have := hle l.length; rw [sumL_all _ (Nat.le_refl _)] at this; omega)]))
    | exact yJ (zW (by have := hst i (by omega); have := hle (i + 1); (try dsimp only at *); rw [szI_n (by omega)]))
    | exact yJ (zW (by have e := sumL_all Te.sz (l := l) (i := i) (by omega); rw [e] at hI ⊢; rw [szI_y (by omega)]))
def zTeaEvent : List DV := [.int .i64 0, .str [], .str [], .int .i64 0, .int .i64 0, .int .i64 0, .str [], .sl [], .sl [], .int .i64 0, .int .i64 0, .str [], .int .i64 0, .sl [], .sl [], .int .i64 0, .int .i64 0, .str [], .sl [], .sl [], .str [], .sl [], .int .i64 0, .int .i64 0, .str [], .sl [], .sl [], .sl [], .int .i64 0, .str [], .bool false, .int .i64 0, .int .i64 0, .sl []]
theorem l_toTeaEventS {L : Lk} (hf : FnR L 8 c8) (l : List Te) (hl : l.length ≤ 4000000) (h : ∀ i (h : i < l.length), CP L 24 [.agg (av (teD l[i]))] (.agg (av (teD l[i])))) : CP L 8 [.d (.sl (l.map teD))] (.d (.sl (l.map teD))) := by
  have hfl : ∀ i, i ≤ l.length → l.length = (fillS teD zTeaEvent l i).length := fun i h => fill_len h
  refine CP.enter hf rfl rfl rfl ?_
  repeat' ((conv => whnf); first | (rw [wrap64 (by omega)]) | (rw [lenTe]; intro _) | refine zA ⟨rfl, by omega, by omega, by decide, rfl⟩ ?_ | refine zA ⟨by omega, by omega⟩ ?_ | refine zA ⟨rfl, rfl, rfl, by have := hfl i (by omega); (try simp only [Int.toNat_natCast]); omega⟩ ?_ | refine zI (fun _ => ?_) (fun _ => ?_) | refine zA (by first | omega | exact rfl | decide) ?_ | refine idx_m (f := teD) (xs := l) (by omega) ?_ | refine zB (h i (by omega)) ?_ | refine zA (hfl i (by omega)) ?_ | refine ih _ (by omega) (trivial) (by refine ⟨?_, ?_, ?_⟩ <;> (repeat' (first | exact trivial | exact fill_set (by omega) (rfl) | exact rfl | exact Nat.le_of_ble_eq_true rfl | apply And.intro))) | ((fail_if_success (have _h := ih)); refine LW.count l.length (fun i => True) (fun i => ⟨[(4, .d (.int .i64 i)), (0, .d (.sl (l.map teD))), (3, .bsl 0 l.length)], 1, [.row 34 (fillS teD zTeaEvent l i)], []⟩) (fun _ => ⟨rfl, rfl, rfl⟩) (fun i hi hI ih => ?_) (trivial) _ (by refine ⟨?_, ?_, ?_⟩ <;> (repeat' (first | exact trivial | exact fill_zero | exact rfl | exact Nat.le_of_ble_eq_true rfl | apply And.intro)))) | fail)
  all_goals (conv => whnf)
  all_goals (refine yK ?_ ?_ ?_ ?_ <;> (repeat' (first | exact trivial | exact fill_all (by omega) | exact rfl    )); done)
theorem l_eqTeaEventS {L : Lk} (hf : FnR L 10 c10) (l : List Te) (h : ∀ i (h : i < l.length), CP L 30 [.agg (av (teD l[i])), .agg (av (teD l[i]))] (.d (.bool true))) : CP L 10 [.d (.sl (l.map teD)), .d (.sl (l.map teD))] (.d (.bool true)) := by
  by_cases hb : l.length ≤ 140737488355328
  · refine CP.enter hf rfl rfl rfl ?_
    repeat' ((conv => whnf); first | (rw [wrap64 (by omega)]) | (rw [lenTe]; intro _) | refine zH (zG (fun _ => ?_) (fun h => absurd rfl h)) | refine zI (fun _ => ?_) (fun _ => ?_) | refine zA (by first | omega | exact rfl | decide) ?_ | refine idx_m (f := teD) (xs := l) (by omega) ?_ | refine zC (h i (by omega)) ?_ | refine ih _ (by omega) (trivial) (by refine ⟨?_, ?_, ?_⟩ <;> (repeat' (first | exact trivial | exact rfl | apply And.intro))) | ((fail_if_success (have _h := ih)); refine LW.count l.length (fun i => True) (fun i => ⟨[(5, .d (.int .i64 i)), (0, .d (.sl (l.map teD))), (1, .d (.sl (l.map teD)))], 0, [], []⟩) (fun _ => ⟨rfl, rfl, rfl⟩) (fun i hi hI ih => ?_) (trivial) _ (by refine ⟨?_, ?_, ?_⟩ <;> (repeat' (first | exact trivial | exact rfl | apply And.intro)))) | fail)
    all_goals (conv => whnf)
    all_goals exact yJ rfl
  · refine CP.enter hf rfl rfl rfl ?_
    repeat' ((conv => whnf); first | (exfalso; omega) | (rw [lenTe]; intro _) | fail)
    all_goals (conv => whnf)
end Go.Ab
namespace Go.Ab
open Go
set_option maxHeartbeats 4000000
attribute [local irreducible] Need IdxK FinK NextK CKs CQs ltS
theorem SmE_of {e : Te} (h : e.sz ≤ 1048576) : SmE e := by
  have h1 := e.sz_eq
  have h2 := e.plan.sz_eq
  have h3 := e.power.sz_eq
  refine ⟨⟨by omega⟩, ⟨fun i hi => ?_, fun i hi => ?_⟩, by omega⟩
  · have := sumL_get Fs.sz e.plan.states i hi
    have := e.plan.states[i].sz_eq
    omega
  · have := sumL_get Ft.sz e.plan.steps i hi
    have := e.plan.steps[i].sz_eq
    omega
theorem k_law3 {L : Lk} (hf : FnR L 3 c3) (hSz : ∀ (l : List Te) (left : Int), 0 ≤ left ∧ left ≤ 1048576 → CP L 6 [.d (.sl (l.map teD)), .d (.int .i64 left)] (.d (.int .i64 (szI left (l.length + sumL Te.sz l)))))
    (hTo : ∀ l : List Te, l.length + sumL Te.sz l ≤ 1048576 → CP L 8 [.d (.sl (l.map teD))] (.d (.sl (l.map teD)))) (hS : K_wrT L 7) (hI : K_wrT L 9) (hEq : ∀ l : List Te, CP L 10 [.d (.sl (l.map teD)), .d (.sl (l.map teD))] (.d (.bool true))) :
    ∀ l : List Te, CP L 3 [.d (.sl (l.map teD))] (.d (.bool true)) := by
  intro l
  have h1 := hSz l 1048576 (by omega)
  by_cases hl : l.length + sumL Te.sz l ≤ 1048576
  · rw [szI_y (by omega)] at h1
    have hs : ∀ i (h : i < l.length), SmE l[i] := fun i h => SmE_of (by have := sumL_get Te.sz l i h; omega)
    have h2 := hTo l hl
    have h3 := hS l hs
    have h4 := hI l hs
    have h5 := hEq l
    refine CP.enter hf rfl rfl rfl ?_
    repeat' ((conv => whnf); first | (exfalso; omega) | refine zH (zF (fun _ => ?_) (fun h => absurd rfl h)) | refine zI (fun _ => ?_) (fun _ => ?_) | refine zB (h1) ?_ | refine zB (h2) ?_ | refine zB (h3) ?_ | refine zB (h4) ?_ | refine zB (h5) ?_ | fail)
    all_goals (conv => whnf)
    all_goals exact yJ rfl
  · rw [szI_n (by omega)] at h1
    refine CP.enter hf rfl rfl rfl ?_
    repeat' ((conv => whnf); first | refine zB (h1) ?_ | fail)
    all_goals (conv => whnf)
    all_goals exact yJ rfl
end Go.Ab
namespace Go.Ab
open Go
set_option maxHeartbeats 4000000
attribute [local irreducible] Need IdxK FinK NextK CKs CQs ltS
def bBx (pv : AV) (s : Str) : Bx := .var 5 [pv, .rsl (s.map byteCell) (.row 0)]
def bPv (pv : AV) : Prop := pv = .d .nilp ∨ pv = .ptr 0 0
def K_cc (L : Lk) : Prop := ∀ (pv x : AV) (rl : List (Nat × Nat)), bPv pv → CT L 100 [.ptr 0 0] 1 [.var 5 [pv, x]] rl (.tup []) 1 [.var 5 [.ptr 0 0, x]] rl
theorem map_byte (s : Str) : (s.map byteCell).map cellByte = s := by
  rw [List.map_map]
  refine (List.map_congr_left fun b _ => ?_).trans (List.map_id s)
  show UInt8.ofNat ((b.toNat : Int)).toNat = b
  simp
def K_wS (L : Lk) : Prop := ∀ (pv : AV) (s t : Str), bPv pv → s.length + t.length ≤ 1000000000000 →
  CT L 26 [.ptr 0 0, .d (.str t)] 1 [bBx pv s] [(s.length, 1000)] (.tup [.d (.int .i64 t.length), .d .nili]) 1 [bBx (.ptr 0 0) (s ++ t)] [((s ++ t).length, 1000)]
theorem k_WriteString {L : Lk} (hf : FnR L 26 c26) (hC : K_cc L) : K_wS L := by
  intro pv s t hp hl
  rcases hp with rfl | rfl
  · refine CT.enter hf rfl (Nat.le_refl _) (Nat.le_refl _) ?_
    repeat' ((conv => whnf); first | intro _ | refine zD (hC (.d .nilp) (.rsl (s.map byteCell) (.row 0)) [(s.length, 1000)] (.inl rfl)) [0] [0] rfl rfl rfl rfl rfl ⟨rfl, trivial⟩ ⟨rfl, trivial⟩ ?_ | refine zA ⟨by simp only [List.length_map]; omega, by intro y hy; obtain ⟨b, _, rfl⟩ := List.mem_map.1 hy; rfl⟩ ?_ | refine zA ⟨by simp only [List.length_map], rfl⟩ ?_ | fail)
    all_goals (conv => whnf)
    all_goals try (refine yK ?_ ?_ ?_ ?_ <;> (repeat' (first | exact trivial | (show (_ : List (List DV)) = _; simp) | (show (_, _) = (_, _); simp) | exact rfl | exact Nat.le_of_ble_eq_true rfl  | exact Or.inr rfl | apply And.intro)); done)
  · refine CT.enter hf rfl (Nat.le_refl _) (Nat.le_refl _) ?_
    repeat' ((conv => whnf); first | intro _ | refine zD (hC (.ptr 0 0) (.rsl (s.map byteCell) (.row 0)) [(s.length, 1000)] (.inr rfl)) [0] [0] rfl rfl rfl rfl rfl ⟨rfl, trivial⟩ ⟨rfl, trivial⟩ ?_ | refine zA ⟨by simp only [List.length_map]; omega, by intro y hy; obtain ⟨b, _, rfl⟩ := List.mem_map.1 hy; rfl⟩ ?_ | refine zA ⟨by simp only [List.length_map], rfl⟩ ?_ | fail)
    all_goals (conv => whnf)
    all_goals try (refine yK ?_ ?_ ?_ ?_ <;> (repeat' (first | exact trivial | (show (_ : List (List DV)) = _; simp) | (show (_, _) = (_, _); simp) | exact rfl | exact Nat.le_of_ble_eq_true rfl  | exact Or.inr rfl | apply And.intro)); done)
def K_wB (L : Lk) : Prop := ∀ (pv : AV) (s : Str) (c : UInt8), bPv pv → s.length ≤ 1000000000000 →
  CT L 250 [.ptr 0 0, .d (.int .u8 c.toNat)] 1 [bBx pv s] [(s.length, 1000)] (.d .nili) 1 [bBx (.ptr 0 0) (s ++ [c])] [((s ++ [c]).length, 1000)]
theorem k_WriteByte {L : Lk} (hf : FnR L 250 c250) (hC : K_cc L) : K_wB L := by
  intro pv s c hp hl
  rcases hp with rfl | rfl
  · refine CT.enter hf rfl (Nat.le_refl _) (Nat.le_refl _) ?_
    repeat' ((conv => whnf); first | refine zD (hC (.d .nilp) (.rsl (s.map byteCell) (.row 0)) [(s.length, 1000)] (.inl rfl)) [0] [0] rfl rfl rfl rfl rfl ⟨rfl, trivial⟩ ⟨rfl, trivial⟩ ?_ | refine zA ⟨by simp only [List.length_map, List.length_cons, List.length_nil]; omega, by intro y hy; rw [List.mem_singleton.1 hy]; rfl⟩ ?_ | refine zA ⟨by simp only [List.length_map], rfl⟩ ?_ | fail)
    all_goals (conv => whnf)
    all_goals try (refine yK ?_ ?_ ?_ ?_ <;> (repeat' (first | exact trivial | (show (_ : List (List DV)) = _; simp [byteCell]) | (show (_, _) = (_, _); simp) | exact rfl | exact Nat.le_of_ble_eq_true rfl  | exact Or.inr rfl | apply And.intro)); done)
  · refine CT.enter hf rfl (Nat.le_refl _) (Nat.le_refl _) ?_
    repeat' ((conv => whnf); first | refine zD (hC (.ptr 0 0) (.rsl (s.map byteCell) (.row 0)) [(s.length, 1000)] (.inr rfl)) [0] [0] rfl rfl rfl rfl rfl ⟨rfl, trivial⟩ ⟨rfl, trivial⟩ ?_ | refine zA ⟨by simp only [List.length_map, List.length_cons, List.length_nil]; omega, by intro y hy; rw [List.mem_singleton.1 hy]; rfl⟩ ?_ | refine zA ⟨by simp only [List.length_map], rfl⟩ ?_ | fail)
    all_goals (conv => whnf)
    all_goals try (refine yK ?_ ?_ ?_ ?_ <;> (repeat' (first | exact trivial | (show (_ : List (List DV)) = _; simp [byteCell]) | (show (_, _) = (_, _); simp) | exact rfl | exact Nat.le_of_ble_eq_true rfl  | exact Or.inr rfl | apply And.intro)); done)
def K_bStr (L : Lk) : Prop := ∀ (pv : AV) (s : Str), bPv pv → s.length ≤ 1000000000000 → CT L 29 [.ptr 0 0] 1 [bBx pv s] [(s.length, 1000)] (.d (.str s)) 1 [bBx pv s] [(s.length, 1000)]
theorem k_String {L : Lk} (hf : FnR L 29 c29) : K_bStr L := by
  intro pv s hp hl
  have hb : ∀ x, x ∈ s.map byteCell → ∃ b : UInt8, x = byteCell b := fun x hx => by obtain ⟨b, _, rfl⟩ := List.mem_map.1 hx; exact ⟨b, rfl⟩
  rcases hp with rfl | rfl
  · refine CT.enter hf rfl (Nat.le_refl _) (Nat.le_refl _) ?_
    repeat' ((conv => whnf); first | refine zA (by first | omega | exact rfl | decide) ?_ | refine zA ⟨by simp only [List.length_map], by simp only [List.length_map], rfl, hb⟩ ?_ | refine zA (by simp only [List.length_map]; omega) ?_ | refine zA (by simp only [List.length_map]) ?_ | fail)
    all_goals (conv => whnf)
    all_goals try (refine yK ?_ ?_ ?_ ?_ <;> (repeat' (first | exact trivial | exact congrArg DV.str (map_byte s) | exact rfl | exact Nat.le_of_ble_eq_true rfl  | exact Or.inr rfl | apply And.intro)); done)
  · refine CT.enter hf rfl (Nat.le_refl _) (Nat.le_refl _) ?_
    repeat' ((conv => whnf); first | refine zA (by first | omega | exact rfl | decide) ?_ | refine zA ⟨by simp only [List.length_map], by simp only [List.length_map], rfl, hb⟩ ?_ | refine zA (by simp only [List.length_map]; omega) ?_ | refine zA (by simp only [List.length_map]) ?_ | fail)
    all_goals (conv => whnf)
    all_goals try (refine yK ?_ ?_ ?_ ?_ <;> (repeat' (first | exact trivial | exact congrArg DV.str (map_byte s) | exact rfl | exact Nat.le_of_ble_eq_true rfl  | exact Or.inr rfl | apply And.intro)); done)
def K_bLen (L : Lk) : Prop := ∀ (pv : AV) (s : Str), bPv pv → CT L 28 [.ptr 0 0] 1 [bBx pv s] [(s.length, 1000)] (.d (.int .i64 s.length)) 1 [bBx pv s] [(s.length, 1000)]
theorem k_Len {L : Lk} (hf : FnR L 28 c28) : K_bLen L := by
  intro pv s hp
  rcases hp with rfl | rfl
  · refine CT.enter hf rfl (Nat.le_refl _) (Nat.le_refl _) ?_
    repeat' ((conv => whnf); first | intro _ | fail)
    all_goals (conv => whnf)
    all_goals try (refine yK ?_ ?_ ?_ ?_ <;> (repeat' (first | exact trivial | (refine zW ?_; simp) | exact rfl | exact Nat.le_of_ble_eq_true rfl  | exact Or.inr rfl | apply And.intro)); done)
  · refine CT.enter hf rfl (Nat.le_refl _) (Nat.le_refl _) ?_
    repeat' ((conv => whnf); first | intro _ | fail)
    all_goals (conv => whnf)
    all_goals try (refine yK ?_ ?_ ?_ ?_ <;> (repeat' (first | exact trivial | (refine zW ?_; simp) | exact rfl | exact Nat.le_of_ble_eq_true rfl  | exact Or.inr rfl | apply And.intro)); done)
end Go.Ab
