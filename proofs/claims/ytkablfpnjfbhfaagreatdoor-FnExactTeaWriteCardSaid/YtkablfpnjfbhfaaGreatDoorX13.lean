import Derived.Test.YtkablfpnjfbhfaaGreatDoorX12
import Derived.Test.YtkablfpnjfbhfaaGreatDoorX11
namespace Go.Ab
open Go
set_option maxHeartbeats 4000000
attribute [local irreducible] Need IdxK FinK NextK CKs CQs ltS
def evWords : List Str := [[], [97, 112, 112, 101, 110, 100], [115, 121, 110, 99], [114, 111, 108, 108], [109, 101, 110, 100], [114, 101, 119, 114, 105, 116, 101], [118, 101, 114, 115, 105, 111, 110], [102, 111, 108, 100], [115, 110, 97, 112]]
theorem k_l85Words {L : Lk} (hf : FnR L 81 c81) : CP L 81 [] (.d (.sl (encS evWords))) := by
  refine CP.enter hf rfl rfl rfl ?_
  repeat' ((conv => whnf); first | refine zI (fun _ => ?_) (fun _ => ?_) | refine zM (fun _ => ?_) (fun _ => ?_) | refine zG (fun _ => ?_) (fun _ => ?_) | refine zF (fun _ => ?_) (fun _ => ?_) | refine zO (fun _ => ?_) (fun _ => ?_) | refine zH ?_ | refine zK ?_ | refine zL ?_ | refine zQ (fun _ => ?_) (fun _ _ => ?_) | refine zJ (fun _ => ?_) (fun _ => ?_) | (rw [zY]; intro _) | (rw [zZ]; intro _) | (rw [zX]; intro _) | intro _ | refine zA (by first | omega | exact rfl | decide) ?_ | refine yC (by omega) ?_ | refine yA (by omega) ?_ | refine yB (by omega) ?_ | refine yF (by omega) ?_ | refine yG (by omega) ?_ | refine yE (by omega) ?_ | refine yD (by omega) (by omega) (by omega) ?_ | refine yH (by omega) ?_ | refine yI (by omega) ?_ | fail)
  all_goals (conv => whnf)
  all_goals (refine yK ?_ ?_ ?_ ?_ <;> (repeat' (first | exact trivial | exact rfl    )); done)
def pwS (p : Pw) : Nat → Str
  | 0 => [112, 111, 119, 101, 114, 32] ++ dec p.after ++ [32] ++ dec p.moves
  | i + 1 => pwS p i ++ [32] ++ dec (p.keep.getD i 0)
theorem pwS_s {p : Pw} {i : Nat} (h : i < p.keep.length) : pwS p (i + 1) = pwS p i ++ [32] ++ dec p.keep[i] := by simp [pwS, h]
def pwT (p : Pw) : Str := if p.cuts = true then pwS p p.keep.length ++ [10] else []
def teT (e : Te) : Str :=
  if e.kind = 7 then foldT e.plan else
  if e.kind = 6 then (if e.lift.sort ≠ 0 then pwT e.power ++ evWords[6] ++ [32] ++ e.name ++ [32] ++ txK e.form ++ [32] ++ txN e.lift ++ [10] else pwT e.power ++ evWords[6] ++ [32] ++ e.name ++ [32] ++ txK e.form ++ [10]) else
  if e.kind = 1 then pwT e.power ++ evWords[1] ++ [32] ++ e.key ++ [32] ++ txE e.event ++ [10] else
  if e.kind = 5 then pwT e.power ++ evWords[5] ++ [32] ++ dec e.part ++ [32] ++ dec e.many ++ [10] else
  if e.kind = 8 then pwT e.power ++ evWords[8] ++ [32] ++ e.name ++ [32] ++ dec e.many ++ [10] else
  pwT e.power ++ evWords.getD e.kind.toNat [] ++ [10]
theorem numIn {n : Int} (h : numOk n) : inR .i64 n := by unfold numOk at h; unfold inR; simp only; omega
def K_teT (L : Lk) (f : Nat) : Prop := ∀ e : Te, teOk e → SmE e → CP L f [.agg (av (teD e))] (.d (.str (teT e)))
theorem k_l85Text {L : Lk} (hf : FnR L 23 c23) (hWd : CP L 81 [] (.d (.sl (encS evWords)))) (hDec : K_l6Dec L) (hFo : K_foldT L 78) (hK : K_textK L 79) (hN : K_textN L 80) (hE : K_EventWrite L 82) : K_teT L 23 := by
  intro e he hs
  have hc8 : e.kind = 1 ∨ e.kind = 2 ∨ e.kind = 3 ∨ e.kind = 4 ∨ e.kind = 5 ∨ e.kind = 6 ∨ e.kind = 7 ∨ e.kind = 8 := by have := he.1; omega
  have hkeep := hs.keep
  have hp' : e.power.cuts = true → numOk e.power.after ∧ numOk e.power.moves ∧ numsOk e.power.keep := fun hc => by
    have := he.2.1.1
    rcases this with h | h
    · exact absurd h.2.2.1 (by simp [hc])
    · exact h.2.2.2
  have hc0 : e.kind = 6 ∨ e.kind = 7 → e.power.cuts = false := fun h => by
    cases hcc : e.power.cuts with
    | false => rfl
    | true => have := he.2.1.2 hcc; omega
  have d1 := dec_len (numIn he.2.2.1.1)
  have d2 := dec_len (numIn he.2.2.1.2)
  by_cases hc : e.power.cuts = true
  · have d3 := dec_len (numIn (hp' hc).1)
    have d4 := dec_len (numIn (hp' hc).2.1)
    have decK : ∀ i (h : i < e.power.keep.length), (dec e.power.keep[i]).length ≤ 20 := fun i h => dec_len (numIn ((hp' hc).2.2 i h h))
    have hkl : ∀ i, i ≤ e.power.keep.length → (pwS e.power i).length ≤ 60 + i * 21 := by
      intro i
      induction i with
      | zero => intro _; simp [pwS]; omega
      | succ i ih => intro hi; have := ih (by omega); have := decK i (by omega); rw [pwS_s (by omega)]; simp; omega
    have hh : e.kind = 1 ∨ e.kind = 2 ∨ e.kind = 3 ∨ e.kind = 4 ∨ e.kind = 5 ∨ e.kind = 8 := by
      have : ¬ (e.kind = 6 ∨ e.kind = 7) := fun h => by have := hc0 h; rw [hc] at this; cases this
      omega
    rcases hh with hk | hk | hk | hk | hk | hk
    · have hD : teD e = .int .i64 e.kind :: (teD e).tail := rfl
      rw [hk] at hD
      rw [hD]
      have q1 := (he.2.2.2.1.1 hk).1.1.2
      have q2 := txE_len (he.2.2.2.1.1 hk).2
      have hw : (evWords[1]'(by decide)).length ≤ 8 := by decide
      refine CP.enter hf rfl rfl rfl ?_
      repeat' ((conv => whnf); first | refine sel_t hc ?_ | (rw [lenIs']; intro _) | refine idx_Si (xs := evWords) 1 rfl (by decide) ?_ | refine zA (by have := hkl i (by omega); have := decK i (by omega); (try simp only [List.length_append, List.length_cons, List.length_nil]); omega) ?_ | refine zA (by have := hkl i (by omega); (try simp only [List.length_append, List.length_cons, List.length_nil]); omega) ?_ | refine zI (fun _ => ?_) (fun _ => ?_) | refine zA (by first | omega | exact rfl | decide) ?_ | refine idx_I (by omega) ?_ | refine zC (hWd) ?_ | refine zC (hDec _ (numIn (hp' hc).1)) ?_ | refine zC (hDec _ (numIn (hp' hc).2.1)) ?_ | refine zB (hDec _ (numIn ((hp' hc).2.2 i (by omega) (by omega)))) ?_ | refine zC (hE e.event (he.2.2.2.1.1 hk).2) ?_ | refine zA (by (try simp only [List.length_append, List.length_cons, List.length_nil]); omega) ?_ | refine ih _ (by omega) (trivial) (by refine ⟨?_, ?_, ?_⟩ <;> (repeat' (first | exact trivial | exact yM (by omega) | exact yN (pwS_s (by omega)).symm | exact rfl | exact Nat.le_of_ble_eq_true rfl | exact Or.inl rfl | apply And.intro))) | ((fail_if_success (have _h := ih)); refine LW.count e.power.keep.length (fun i => True) (fun i => ⟨[(4, .d (.int .i64 i)), (3, .d (.str (pwS e.power i))), (1, .ptr 0 0)], 1, [.var 0 (av (.int .i64 1 :: (teD e).tail))], []⟩) (fun _ => ⟨rfl, rfl, rfl⟩) (fun i hi hI ih => ?_) (trivial) _ (by refine ⟨?_, ?_, ?_⟩ <;> (repeat' (first | exact trivial | exact rfl | exact Nat.le_of_ble_eq_true rfl | exact Or.inl rfl | apply And.intro)))) | fail)
      all_goals (conv => whnf)
      all_goals try first
        | (have hi' : i = e.power.keep.length := by omega
           exact yJ (yN (by simp only [teT, hk, pwT, hi']; simp [*, evWords])))
        | exact yJ (yN (by simp only [teT, hk, pwT]; simp [*, evWords]))
    · have hD : teD e = .int .i64 e.kind :: (teD e).tail := rfl
      rw [hk] at hD
      rw [hD]
      have hw : (evWords[2]'(by decide)).length ≤ 8 := by decide
      refine CP.enter hf rfl rfl rfl ?_
      repeat' ((conv => whnf); first | refine sel_t hc ?_ | (rw [lenIs']; intro _) | refine idx_Si (xs := evWords) 2 rfl (by decide) ?_ | refine zA (by have := hkl i (by omega); have := decK i (by omega); (try simp only [List.length_append, List.length_cons, List.length_nil]); omega) ?_ | refine zA (by have := hkl i (by omega); (try simp only [List.length_append, List.length_cons, List.length_nil]); omega) ?_ | refine zI (fun _ => ?_) (fun _ => ?_) | refine zA (by first | omega | exact rfl | decide) ?_ | refine idx_I (by omega) ?_ | refine zC (hWd) ?_ | refine zC (hDec _ (numIn (hp' hc).1)) ?_ | refine zC (hDec _ (numIn (hp' hc).2.1)) ?_ | refine zB (hDec _ (numIn ((hp' hc).2.2 i (by omega) (by omega)))) ?_ | refine zA (by (try simp only [List.length_append, List.length_cons, List.length_nil]); omega) ?_ | refine ih _ (by omega) (trivial) (by refine ⟨?_, ?_, ?_⟩ <;> (repeat' (first | exact trivial | exact yM (by omega) | exact yN (pwS_s (by omega)).symm | exact rfl | exact Nat.le_of_ble_eq_true rfl | exact Or.inl rfl | apply And.intro))) | ((fail_if_success (have _h := ih)); refine LW.count e.power.keep.length (fun i => True) (fun i => ⟨[(4, .d (.int .i64 i)), (3, .d (.str (pwS e.power i))), (1, .ptr 0 0)], 1, [.var 0 (av (.int .i64 2 :: (teD e).tail))], []⟩) (fun _ => ⟨rfl, rfl, rfl⟩) (fun i hi hI ih => ?_) (trivial) _ (by refine ⟨?_, ?_, ?_⟩ <;> (repeat' (first | exact trivial | exact rfl | exact Nat.le_of_ble_eq_true rfl | exact Or.inl rfl | apply And.intro)))) | fail)
      all_goals (conv => whnf)
      all_goals try first
        | (have hi' : i = e.power.keep.length := by omega
           exact yJ (yN (by simp only [teT, hk, pwT, hi']; simp [*, evWords])))
        | exact yJ (yN (by simp only [teT, hk, pwT]; simp [*, evWords]))
    · have hD : teD e = .int .i64 e.kind :: (teD e).tail := rfl
      rw [hk] at hD
      rw [hD]
      have hw : (evWords[3]'(by decide)).length ≤ 8 := by decide
      refine CP.enter hf rfl rfl rfl ?_
      repeat' ((conv => whnf); first | refine sel_t hc ?_ | (rw [lenIs']; intro _) | refine idx_Si (xs := evWords) 3 rfl (by decide) ?_ | refine zA (by have := hkl i (by omega); have := decK i (by omega); (try simp only [List.length_append, List.length_cons, List.length_nil]); omega) ?_ | refine zA (by have := hkl i (by omega); (try simp only [List.length_append, List.length_cons, List.length_nil]); omega) ?_ | refine zI (fun _ => ?_) (fun _ => ?_) | refine zA (by first | omega | exact rfl | decide) ?_ | refine idx_I (by omega) ?_ | refine zC (hWd) ?_ | refine zC (hDec _ (numIn (hp' hc).1)) ?_ | refine zC (hDec _ (numIn (hp' hc).2.1)) ?_ | refine zB (hDec _ (numIn ((hp' hc).2.2 i (by omega) (by omega)))) ?_ | refine zA (by (try simp only [List.length_append, List.length_cons, List.length_nil]); omega) ?_ | refine ih _ (by omega) (trivial) (by refine ⟨?_, ?_, ?_⟩ <;> (repeat' (first | exact trivial | exact yM (by omega) | exact yN (pwS_s (by omega)).symm | exact rfl | exact Nat.le_of_ble_eq_true rfl | exact Or.inl rfl | apply And.intro))) | ((fail_if_success (have _h := ih)); refine LW.count e.power.keep.length (fun i => True) (fun i => ⟨[(4, .d (.int .i64 i)), (3, .d (.str (pwS e.power i))), (1, .ptr 0 0)], 1, [.var 0 (av (.int .i64 3 :: (teD e).tail))], []⟩) (fun _ => ⟨rfl, rfl, rfl⟩) (fun i hi hI ih => ?_) (trivial) _ (by refine ⟨?_, ?_, ?_⟩ <;> (repeat' (first | exact trivial | exact rfl | exact Nat.le_of_ble_eq_true rfl | exact Or.inl rfl | apply And.intro)))) | fail)
      all_goals (conv => whnf)
      all_goals try first
        | (have hi' : i = e.power.keep.length := by omega
           exact yJ (yN (by simp only [teT, hk, pwT, hi']; simp [*, evWords])))
        | exact yJ (yN (by simp only [teT, hk, pwT]; simp [*, evWords]))
    · have hD : teD e = .int .i64 e.kind :: (teD e).tail := rfl
      rw [hk] at hD
      rw [hD]
      have hw : (evWords[4]'(by decide)).length ≤ 8 := by decide
      refine CP.enter hf rfl rfl rfl ?_
      repeat' ((conv => whnf); first | refine sel_t hc ?_ | (rw [lenIs']; intro _) | refine idx_Si (xs := evWords) 4 rfl (by decide) ?_ | refine zA (by have := hkl i (by omega); have := decK i (by omega); (try simp only [List.length_append, List.length_cons, List.length_nil]); omega) ?_ | refine zA (by have := hkl i (by omega); (try simp only [List.length_append, List.length_cons, List.length_nil]); omega) ?_ | refine zI (fun _ => ?_) (fun _ => ?_) | refine zA (by first | omega | exact rfl | decide) ?_ | refine idx_I (by omega) ?_ | refine zC (hWd) ?_ | refine zC (hDec _ (numIn (hp' hc).1)) ?_ | refine zC (hDec _ (numIn (hp' hc).2.1)) ?_ | refine zB (hDec _ (numIn ((hp' hc).2.2 i (by omega) (by omega)))) ?_ | refine zA (by (try simp only [List.length_append, List.length_cons, List.length_nil]); omega) ?_ | refine ih _ (by omega) (trivial) (by refine ⟨?_, ?_, ?_⟩ <;> (repeat' (first | exact trivial | exact yM (by omega) | exact yN (pwS_s (by omega)).symm | exact rfl | exact Nat.le_of_ble_eq_true rfl | exact Or.inl rfl | apply And.intro))) | ((fail_if_success (have _h := ih)); refine LW.count e.power.keep.length (fun i => True) (fun i => ⟨[(4, .d (.int .i64 i)), (3, .d (.str (pwS e.power i))), (1, .ptr 0 0)], 1, [.var 0 (av (.int .i64 4 :: (teD e).tail))], []⟩) (fun _ => ⟨rfl, rfl, rfl⟩) (fun i hi hI ih => ?_) (trivial) _ (by refine ⟨?_, ?_, ?_⟩ <;> (repeat' (first | exact trivial | exact rfl | exact Nat.le_of_ble_eq_true rfl | exact Or.inl rfl | apply And.intro)))) | fail)
      all_goals (conv => whnf)
      all_goals try first
        | (have hi' : i = e.power.keep.length := by omega
           exact yJ (yN (by simp only [teT, hk, pwT, hi']; simp [*, evWords])))
        | exact yJ (yN (by simp only [teT, hk, pwT]; simp [*, evWords]))
    · have hD : teD e = .int .i64 e.kind :: (teD e).tail := rfl
      rw [hk] at hD
      rw [hD]
      have hw : (evWords[5]'(by decide)).length ≤ 8 := by decide
      refine CP.enter hf rfl rfl rfl ?_
      repeat' ((conv => whnf); first | refine sel_t hc ?_ | (rw [lenIs']; intro _) | refine idx_Si (xs := evWords) 5 rfl (by decide) ?_ | refine zA (by have := hkl i (by omega); have := decK i (by omega); (try simp only [List.length_append, List.length_cons, List.length_nil]); omega) ?_ | refine zA (by have := hkl i (by omega); (try simp only [List.length_append, List.length_cons, List.length_nil]); omega) ?_ | refine zI (fun _ => ?_) (fun _ => ?_) | refine zA (by first | omega | exact rfl | decide) ?_ | refine idx_I (by omega) ?_ | refine zC (hWd) ?_ | refine zC (hDec _ (numIn (hp' hc).1)) ?_ | refine zC (hDec _ (numIn (hp' hc).2.1)) ?_ | refine zB (hDec _ (numIn ((hp' hc).2.2 i (by omega) (by omega)))) ?_ | refine zC (hDec _ (numIn he.2.2.1.1)) ?_ | refine zC (hDec _ (numIn he.2.2.1.2)) ?_ | refine zA (by (try simp only [List.length_append, List.length_cons, List.length_nil]); omega) ?_ | refine ih _ (by omega) (trivial) (by refine ⟨?_, ?_, ?_⟩ <;> (repeat' (first | exact trivial | exact yM (by omega) | exact yN (pwS_s (by omega)).symm | exact rfl | exact Nat.le_of_ble_eq_true rfl | exact Or.inl rfl | apply And.intro))) | ((fail_if_success (have _h := ih)); refine LW.count e.power.keep.length (fun i => True) (fun i => ⟨[(4, .d (.int .i64 i)), (3, .d (.str (pwS e.power i))), (1, .ptr 0 0)], 1, [.var 0 (av (.int .i64 5 :: (teD e).tail))], []⟩) (fun _ => ⟨rfl, rfl, rfl⟩) (fun i hi hI ih => ?_) (trivial) _ (by refine ⟨?_, ?_, ?_⟩ <;> (repeat' (first | exact trivial | exact rfl | exact Nat.le_of_ble_eq_true rfl | exact Or.inl rfl | apply And.intro)))) | fail)
      all_goals (conv => whnf)
      all_goals try first
        | (have hi' : i = e.power.keep.length := by omega
           exact yJ (yN (by simp only [teT, hk, pwT, hi']; simp [*, evWords])))
        | exact yJ (yN (by simp only [teT, hk, pwT]; simp [*, evWords]))
    · have hD : teD e = .int .i64 e.kind :: (teD e).tail := rfl
      rw [hk] at hD
      rw [hD]
      have q1 := (he.2.2.2.2.2.1.1 (.inr hk)).1.2
      have hw : (evWords[8]'(by decide)).length ≤ 8 := by decide
      refine CP.enter hf rfl rfl rfl ?_
      repeat' ((conv => whnf); first | refine sel_t hc ?_ | (rw [lenIs']; intro _) | refine idx_Si (xs := evWords) 8 rfl (by decide) ?_ | refine zA (by have := hkl i (by omega); have := decK i (by omega); (try simp only [List.length_append, List.length_cons, List.length_nil]); omega) ?_ | refine zA (by have := hkl i (by omega); (try simp only [List.length_append, List.length_cons, List.length_nil]); omega) ?_ | refine zI (fun _ => ?_) (fun _ => ?_) | refine zA (by first | omega | exact rfl | decide) ?_ | refine idx_I (by omega) ?_ | refine zC (hWd) ?_ | refine zC (hDec _ (numIn (hp' hc).1)) ?_ | refine zC (hDec _ (numIn (hp' hc).2.1)) ?_ | refine zB (hDec _ (numIn ((hp' hc).2.2 i (by omega) (by omega)))) ?_ | refine zC (hDec _ (numIn he.2.2.1.2)) ?_ | refine zA (by (try simp only [List.length_append, List.length_cons, List.length_nil]); omega) ?_ | refine ih _ (by omega) (trivial) (by refine ⟨?_, ?_, ?_⟩ <;> (repeat' (first | exact trivial | exact yM (by omega) | exact yN (pwS_s (by omega)).symm | exact rfl | exact Nat.le_of_ble_eq_true rfl | exact Or.inl rfl | apply And.intro))) | ((fail_if_success (have _h := ih)); refine LW.count e.power.keep.length (fun i => True) (fun i => ⟨[(4, .d (.int .i64 i)), (3, .d (.str (pwS e.power i))), (1, .ptr 0 0)], 1, [.var 0 (av (.int .i64 8 :: (teD e).tail))], []⟩) (fun _ => ⟨rfl, rfl, rfl⟩) (fun i hi hI ih => ?_) (trivial) _ (by refine ⟨?_, ?_, ?_⟩ <;> (repeat' (first | exact trivial | exact rfl | exact Nat.le_of_ble_eq_true rfl | exact Or.inl rfl | apply And.intro)))) | fail)
      all_goals (conv => whnf)
      all_goals try first
        | (have hi' : i = e.power.keep.length := by omega
           exact yJ (yN (by simp only [teT, hk, pwT, hi']; simp [*, evWords])))
        | exact yJ (yN (by simp only [teT, hk, pwT]; simp [*, evWords]))
  · have hcf : e.power.cuts = false := by cases hcc : e.power.cuts <;> simp_all
    rcases hc8 with hk | hk | hk | hk | hk | hk | hk | hk
    · have hD : teD e = .int .i64 e.kind :: (teD e).tail := rfl
      rw [hk] at hD
      rw [hD]
      have q1 := (he.2.2.2.1.1 hk).1.1.2
      have q2 := txE_len (he.2.2.2.1.1 hk).2
      have hw : (evWords[1]'(by decide)).length ≤ 8 := by decide
      refine CP.enter hf rfl rfl rfl ?_
      repeat' ((conv => whnf); first | refine sel_f hcf ?_ | refine idx_Si (xs := evWords) 1 rfl (by decide) ?_ | refine zA (by first | omega | exact rfl | decide) ?_ | refine zC (hWd) ?_ | refine zC (hE e.event (he.2.2.2.1.1 hk).2) ?_ | refine zA (by (try simp only [List.length_append, List.length_cons, List.length_nil]); omega) ?_ | fail)
      all_goals (conv => whnf)
      all_goals try first
        | exact yJ (yN (by simp only [teT, hk, pwT, hcf]; simp [*, evWords]))
        | (exfalso; omega)
    · have hD : teD e = .int .i64 e.kind :: (teD e).tail := rfl
      rw [hk] at hD
      rw [hD]
      have hw : (evWords[2]'(by decide)).length ≤ 8 := by decide
      refine CP.enter hf rfl rfl rfl ?_
      repeat' ((conv => whnf); first | refine sel_f hcf ?_ | refine idx_Si (xs := evWords) 2 rfl (by decide) ?_ | refine zA (by first | omega | exact rfl | decide) ?_ | refine zC (hWd) ?_ | fail)
      all_goals (conv => whnf)
      all_goals try first
        | exact yJ (yN (by simp only [teT, hk, pwT, hcf]; simp [*, evWords]))
        | (exfalso; omega)
    · have hD : teD e = .int .i64 e.kind :: (teD e).tail := rfl
      rw [hk] at hD
      rw [hD]
      have hw : (evWords[3]'(by decide)).length ≤ 8 := by decide
      refine CP.enter hf rfl rfl rfl ?_
      repeat' ((conv => whnf); first | refine sel_f hcf ?_ | refine idx_Si (xs := evWords) 3 rfl (by decide) ?_ | refine zA (by first | omega | exact rfl | decide) ?_ | refine zC (hWd) ?_ | fail)
      all_goals (conv => whnf)
      all_goals try first
        | exact yJ (yN (by simp only [teT, hk, pwT, hcf]; simp [*, evWords]))
        | (exfalso; omega)
    · have hD : teD e = .int .i64 e.kind :: (teD e).tail := rfl
      rw [hk] at hD
      rw [hD]
      have hw : (evWords[4]'(by decide)).length ≤ 8 := by decide
      refine CP.enter hf rfl rfl rfl ?_
      repeat' ((conv => whnf); first | refine sel_f hcf ?_ | refine idx_Si (xs := evWords) 4 rfl (by decide) ?_ | refine zA (by first | omega | exact rfl | decide) ?_ | refine zC (hWd) ?_ | fail)
      all_goals (conv => whnf)
      all_goals try first
        | exact yJ (yN (by simp only [teT, hk, pwT, hcf]; simp [*, evWords]))
        | (exfalso; omega)
    · have hD : teD e = .int .i64 e.kind :: (teD e).tail := rfl
      rw [hk] at hD
      rw [hD]
      have hw : (evWords[5]'(by decide)).length ≤ 8 := by decide
      refine CP.enter hf rfl rfl rfl ?_
      repeat' ((conv => whnf); first | refine sel_f hcf ?_ | refine idx_Si (xs := evWords) 5 rfl (by decide) ?_ | refine zA (by first | omega | exact rfl | decide) ?_ | refine zC (hWd) ?_ | refine zC (hDec _ (numIn he.2.2.1.1)) ?_ | refine zC (hDec _ (numIn he.2.2.1.2)) ?_ | refine zA (by (try simp only [List.length_append, List.length_cons, List.length_nil]); omega) ?_ | fail)
      all_goals (conv => whnf)
      all_goals try first
        | exact yJ (yN (by simp only [teT, hk, pwT, hcf]; simp [*, evWords]))
        | (exfalso; omega)
    · have hD : teD e = .int .i64 e.kind :: (teD e).tail := rfl
      rw [hk] at hD
      rw [hD]
      have q1 := (he.2.2.2.2.2.1.1 (.inl hk)).1.2
      have q2 := (he.2.2.2.2.2.2.1.1 hk).1
      have q3 : (txK e.form).length ≤ 550 := by have := txK_len _ _ q2.1; have := q2.2; omega
      have q4 : e.lift.sort ≠ 0 → okN true 1 e.lift := fun h => by
        rcases (he.2.2.2.2.2.2.1.1 hk).2 with h1 | h1
        · exact absurd h1.1 h
        · exact h1.1.1
      have q5 : e.lift.sort = 0 ∨ (txN e.lift).length ≤ 240000000 := by
        by_cases h : e.lift.sort = 0
        · exact .inl h
        · have := txN_len _ _ _ (q4 h); have := hs.lift.wt; exact .inr (by omega)
      have hw : (evWords[6]'(by decide)).length ≤ 8 := by decide
      refine CP.enter hf rfl rfl rfl ?_
      repeat' ((conv => whnf); first | refine sel_f hcf ?_ | refine zG (fun _ => ?_) (fun _ => ?_) | refine zH ?_ | refine zA (by first | omega | exact rfl | decide) ?_ | refine zC (hK e.form 1 q2) ?_ | refine zB (hN e.lift true 1 (q4 (by omega)) hs.lift) ?_ | refine zA (by (try simp only [List.length_append, List.length_cons, List.length_nil]); omega) ?_ | fail)
      all_goals (conv => whnf)
      all_goals try first
        | exact yJ (yN (by simp only [teT, hk, pwT, hcf]; simp [*, evWords]))
        | (exfalso; omega)
    · have hD : teD e = .int .i64 e.kind :: (teD e).tail := rfl
      rw [hk] at hD
      rw [hD]
      have hw : (evWords[7]'(by decide)).length ≤ 8 := by decide
      refine CP.enter hf rfl rfl rfl ?_
      repeat' ((conv => whnf); first | refine sel_f hcf ?_ | refine zB (hFo e.plan (he.2.2.2.2.2.2.2.1 hk) hs.plan) ?_ | fail)
      all_goals (conv => whnf)
      all_goals try first
        | exact yJ (yN (by simp only [teT, hk, pwT, hcf]; simp [*]))
        | (exfalso; omega)
    · have hD : teD e = .int .i64 e.kind :: (teD e).tail := rfl
      rw [hk] at hD
      rw [hD]
      have q1 := (he.2.2.2.2.2.1.1 (.inr hk)).1.2
      have hw : (evWords[8]'(by decide)).length ≤ 8 := by decide
      refine CP.enter hf rfl rfl rfl ?_
      repeat' ((conv => whnf); first | refine sel_f hcf ?_ | refine idx_Si (xs := evWords) 8 rfl (by decide) ?_ | refine zA (by first | omega | exact rfl | decide) ?_ | refine zC (hWd) ?_ | refine zC (hDec _ (numIn he.2.2.1.2)) ?_ | refine zA (by (try simp only [List.length_append, List.length_cons, List.length_nil]); omega) ?_ | fail)
      all_goals (conv => whnf)
      all_goals try first
        | exact yJ (yN (by simp only [teT, hk, pwT, hcf]; simp [*, evWords]))
        | (exfalso; omega)
end Go.Ab
namespace Go.Ab
open Go
set_option maxHeartbeats 4000000
attribute [local irreducible] Need IdxK FinK NextK CKs CQs ltS
theorem pwT_len {p : Pw} (h : wOk p) (hk : p.keep.length ≤ 4000000) : (pwT p).length ≤ 100000000 := by
  unfold pwT
  split
  · rename_i hc
    have hp : numOk p.after ∧ numOk p.moves ∧ numsOk p.keep := by
      rcases h with h | h
      · have := h.2.2.1; rw [hc] at this; cases this
      · exact h.2.2.2
    have d3 := dec_len (numIn hp.1)
    have d4 := dec_len (numIn hp.2.1)
    have hkl : ∀ i, i ≤ p.keep.length → (pwS p i).length ≤ 60 + i * 21 := by
      intro i
      induction i with
      | zero => intro _; simp [pwS]; omega
      | succ i ih => intro hi; have := ih (by omega); have := dec_len (numIn (hp.2.2 i (by omega) (by omega))); rw [pwS_s (by omega)]; simp; omega
    have := hkl p.keep.length (Nat.le_refl _)
    simp; omega
  · simp
theorem teT_len {e : Te} (he : teOk e) (hs : SmE e) : (teT e).length ≤ 5000000000 := by
  have hp := pwT_len he.2.1.1 hs.keep
  have d1 := dec_len (numIn he.2.2.1.1)
  have d2 := dec_len (numIn he.2.2.1.2)
  have w1 : (evWords[1]'(by decide)).length ≤ 8 := by decide
  have w5 : (evWords[5]'(by decide)).length ≤ 8 := by decide
  have w6 : (evWords[6]'(by decide)).length ≤ 8 := by decide
  have w8 : (evWords[8]'(by decide)).length ≤ 8 := by decide
  unfold teT
  split
  · rename_i h; have := foldT_len (he.2.2.2.2.2.2.2.1 h) hs.plan; omega
  split
  · rename_i hk
    have q1 := (he.2.2.2.2.2.1.1 (.inl hk)).1.2
    have q2 := (he.2.2.2.2.2.2.1.1 hk).1
    have q3 : (txK e.form).length ≤ 550 := by have := txK_len _ _ q2.1; have := q2.2; omega
    split
    · rename_i h
      have q4 : okN true 1 e.lift := by
        rcases (he.2.2.2.2.2.2.1.1 hk).2 with h1 | h1
        · exact absurd h1.1 h
        · exact h1.1.1
      have := txN_len _ _ _ q4
      have := hs.lift.wt
      simp only [List.length_append, List.length_cons, List.length_nil]; omega
    · simp only [List.length_append, List.length_cons, List.length_nil]; omega
  split
  · rename_i hk
    have q1 := (he.2.2.2.1.1 hk).1.1.2
    have q2 := txE_len (he.2.2.2.1.1 hk).2
    simp only [List.length_append, List.length_cons, List.length_nil]; omega
  split
  · simp only [List.length_append, List.length_cons, List.length_nil]; omega
  split
  · rename_i hk
    have q1 := (he.2.2.2.2.2.1.1 (.inr hk)).1.2
    simp only [List.length_append, List.length_cons, List.length_nil]; omega
  · have hw : (evWords.getD e.kind.toNat []).length ≤ 8 := by
      have h1 := he.1
      have key : ∀ m : Fin 9, (evWords.getD m.1 []).length ≤ 8 := by decide
      exact key ⟨e.kind.toNat, by omega⟩
    simp only [List.length_append, List.length_cons, List.length_nil]; omega
noncomputable def wrL : Str → List Te → Str
  | out, [] => out
  | out, e :: r => if pb (teOk e) = true then (if (out ++ teT e).length ≤ 60000 then wrL (out ++ teT e) r else []) else []
noncomputable def wrT (l : List Te) : Str := if l.length ≤ 200 then wrL [] l else []
theorem wrL_y {out : Str} {e : Te} {r : List Te} (h : teOk e) (h2 : (out ++ teT e).length ≤ 60000) : wrL out (e :: r) = wrL (out ++ teT e) r := by rw [wrL, if_pos (pb_t h), if_pos h2]
theorem wrL_n {out : Str} {e : Te} {r : List Te} (h : ¬ teOk e) : wrL out (e :: r) = [] := by rw [wrL, pb_f h]; rfl
theorem wrL_l {out : Str} {e : Te} {r : List Te} (h2 : ¬ (out ++ teT e).length ≤ 60000) : wrL out (e :: r) = [] := by
  by_cases h : teOk e
  · rw [wrL, if_pos (pb_t h), if_neg h2]
  · exact wrL_n h
theorem lenTe (l : List Te) : (l.map teD).length = l.length := by simp
def K_wrT (L : Lk) (f : Nat) : Prop := ∀ l : List Te, (∀ i (h : i < l.length), SmE l[i]) → CP L f [.d (.sl (l.map teD))] (.d (.str (wrT l)))
theorem k_TeaWrite_s {L : Lk} (hf : FnR L 7 c7) (hO : K_teOk L 22) (hT : K_teT L 23) : K_wrT L 7 := by
  intro l hs
  refine CP.enter hf rfl rfl rfl ?_
  repeat' ((conv => whnf); first | (rw [lenTe]; intro _) | refine zI (fun _ => ?_) (fun _ => ?_) | fail)
  all_goals (conv => whnf)
  · rename_i hl
    exact yJ (yN (by rw [wrT, if_neg (by omega)]))
  · rename_i hl
    refine LW.gen (S := Nat × Str) (fun x => l.length - x.1) (fun x => x.1 ≤ l.length ∧ wrL [] l = wrL x.2 (l.drop x.1) ∧ x.2.length ≤ 60000) (fun x => ⟨[(4, .d (.int .i64 x.1)), (0, .d (.sl (l.map teD))), (3, .d (.str x.2))], 0, [], []⟩) (fun _ => ⟨rfl, rfl, rfl⟩) ?_ (0, []) ⟨by omega, rfl, by simp⟩ _ (by refine ⟨?_, ?_, ?_⟩ <;> (repeat' (first | exact trivial  | exact rfl    | apply And.intro)))
    rintro ⟨i, out⟩ ⟨hi, hw, hlen⟩ ih
    dsimp only at hi hw hlen ih ⊢
    have hd : ∀ h : i < l.length, l.drop i = l[i] :: l.drop (i + 1) := fun h => List.drop_eq_getElem_cons h
    repeat' ((conv => whnf); first | (rw [lenTe]; intro _) | refine zA (by have := teT_len (e := l[i]'(by omega)) (by assumption) (hs i (by omega)); omega) ?_ | refine zI (fun _ => ?_) (fun _ => ?_) | refine zO (fun _ => ?_) (fun _ => ?_) | intro _ | refine zA (by first | omega | exact rfl | decide) ?_ | refine idx_m (f := teD) (by omega) ?_ | refine zB (hO (l[i]'(by omega)) (hs i (by omega))) ?_ | refine zB (hT (l[i]'(by omega)) (by assumption) (hs i (by omega))) ?_ | refine ih (i + 1, out ++ teT (l[i]'(by omega))) _ (by show l.length - (i + 1) < l.length - i; omega) ⟨by show i + 1 ≤ l.length; omega, by show wrL [] l = wrL (out ++ teT l[i]) (l.drop (i + 1)); rw [hw, hd (by omega), wrL_y (by assumption) (by omega)], by show (out ++ teT l[i]).length ≤ 60000; omega⟩ (by refine ⟨?_, ?_, ?_⟩ <;> (repeat' (first | exact trivial | exact yM (by omega) | exact rfl | apply And.intro))) | fail)
    all_goals (conv => whnf)
    all_goals try first
      | exact yJ (yN (by rw [wrT, if_pos (by omega), hw, hd (by omega), wrL_l (by omega)]))
      | exact yJ (yN (by rw [wrT, if_pos (by omega), hw, hd (by omega), wrL_n (by assumption)]))
      | exact yJ (yN (by rw [wrT, if_pos (by omega), hw, List.drop_of_length_le (by omega)]; rfl))
end Go.Ab
namespace Go.Ab
open Go
set_option maxHeartbeats 4000000
attribute [local irreducible] Need IdxK FinK NextK CKs CQs ltS
def opShapes : List Str := [[75], [75], [86], [86], [86, 86], [86, 86], [86, 86], [86, 86], [86, 86], [86, 86], [86, 86], [86, 86], [86, 86], [86], [86, 86, 86], [88, 86, 86], [78, 86], [78, 86, 86], [78, 86], [70], [86, 86], [86], [86, 86], [86, 86, 86], [86], [86], [86, 86], [88, 86, 86, 86], [88, 86, 86], [88, 86, 86], [88, 88, 86, 86, 86], [], [35], [86], [78, 35, 86], [65, 65], [86, 65, 65], [88, 86, 65], [88, 86, 65]]
def opRows : List (Str × Str) := opWords.zip opShapes
def rowD (r : Str × Str) : List DV := [.str r.1, .str r.2]
def rowsD : List DV := opRows.flatMap rowD
def opShape (op : Int) : Str := if 5 ≤ op ∧ op ≤ 43 then opShapes.getD (op - 5).toNat [] else []
theorem opRow_in {n : Nat} (h : n < 39) : opRows[n]'(by show n < 39; exact h) = (opWord (5 + n), opShape (5 + n)) := by
  have h1 := opWord_in (n := n) (by show n < 39; exact h)
  have h2 : opShape (5 + n) = opShapes[n]'(by show n < 39; exact h) := by
    rw [opShape, if_pos (by omega), show ((5 : Int) + n - 5).toNat = n by omega, List.getD_eq_getElem?_getD, List.getElem?_eq_getElem (by show n < 39; exact h)]; rfl
  rw [h1, h2]
  simp [opRows]
theorem k_rowOf {L : Lk} (hf : FnR L 254 c254) (hIn : K_in L 163) (hgl : L.gl 1 = rowsD) : ∀ op : Int, CP L 254 [.d (.int .i64 op)] (.tup [.agg [.d (.str (opWord op)), .d (.str (opShape op))], .d (.bool (pb (5 ≤ op ∧ op ≤ 43)))]) := by
  intro op
  refine CP.enter hf rfl rfl rfl ?_
  repeat' ((conv => whnf); first | (rw [wrap64 (by omega)]) | (rw [hgl]) | (rw [show op - 5 = (((op - 5).toNat : Nat) : Int) by omega]; refine idx_m (f := rowD) (xs := opRows) (by show (op - 5).toNat < 39; omega) ?_) | refine zO (fun _ => ?_) (fun _ => ?_) | refine zA (by first | omega | exact rfl | decide) ?_ | refine zB (hIn _ _ _) ?_ | fail)
  all_goals (conv => whnf)
  · have e := opRow_in (n := (op - 5).toNat) (by omega)
    rw [show (5 : Int) + ((op - 5).toNat : Int) = op by omega] at e
    rw [e, pb_t (by assumption)]
    (refine yK ?_ ?_ ?_ ?_ <;> (repeat' (first | exact trivial | exact rfl    | apply And.intro)); done)
  · rw [opWord_out (by assumption), opShape, if_neg (by assumption), pb_f (by assumption)]
    (refine yK ?_ ?_ ?_ ?_ <;> (repeat' (first | exact trivial | exact rfl    | apply And.intro)); done)
def ixV (w : Str) : Int := if firstIdx opWords w < 39 then (firstIdx opWords w : Int) else -1
theorem k_opOf1 {L : Lk} (hf : FnR L 415 c415) : ∀ (r : Str × Str) (w : Str), CT L 415 [.agg [.d (.str r.1), .d (.str r.2)], .ptr 0 0] 1 [.var 0 [.d (.str w)]] [] (.d (.bool (beqS r.1 w))) 1 [.var 0 [.d (.str w)]] [] := by
  intro r w
  refine CT.enter hf rfl (Nat.le_refl _) (Nat.le_refl _) ?_
  repeat' ((conv => whnf); first | refine zI (fun _ => ?_) (fun _ => ?_) | refine zM (fun _ => ?_) (fun _ => ?_) | refine zG (fun _ => ?_) (fun _ => ?_) | refine zF (fun _ => ?_) (fun _ => ?_) | refine zO (fun _ => ?_) (fun _ => ?_) | refine zH ?_ | refine zK ?_ | refine zL ?_ | refine zQ (fun _ => ?_) (fun _ _ => ?_) | refine zJ (fun _ => ?_) (fun _ => ?_) | (rw [zY]; intro _) | (rw [zZ]; intro _) | (rw [zX]; intro _) | intro _ | refine zA (by first | omega | exact rfl | decide) ?_ | refine yC (by omega) ?_ | refine yA (by omega) ?_ | refine yB (by omega) ?_ | refine yF (by omega) ?_ | refine yG (by omega) ?_ | refine yE (by omega) ?_ | refine yD (by omega) (by omega) (by omega) ?_ | refine yH (by omega) ?_ | refine yI (by omega) ?_ | fail)
  all_goals (conv => whnf)
  all_goals try (refine yK ?_ ?_ ?_ ?_ <;> (repeat' (first | exact trivial | exact rfl  | exact Or.inl rfl  | apply And.intro)); done)
theorem k_IndexFunc_row {L : Lk} (hf : FnR L 414 c414) (hC : ∀ (r : Str × Str) (w : Str), CT L 415 [.agg [.d (.str r.1), .d (.str r.2)], .ptr 0 0] 1 [.var 0 [.d (.str w)]] [] (.d (.bool (beqS r.1 w))) 1 [.var 0 [.d (.str w)]] []) :
    ∀ w : Str, CT L 414 [.d (.sl (opRows.map rowD)), .fn 415 [.ptr 0 0]] 1 [.var 0 [.d (.str w)]] [] (.d (.int .i64 (ixV w))) 1 [.var 0 [.d (.str w)]] [] := by
  intro w
  have hl : (opRows.map rowD).length = 39 := rfl
  have hr : opRows.length = 39 := rfl
  have hrow : ∀ i (h : i < opRows.length), opRows[i].1 = opWords[i]'(by show i < 39; omega) := fun i h => by simp [opRows]
  refine CT.enter hf rfl (Nat.le_refl _) (Nat.le_refl _) ?_
  repeat' ((conv => whnf); first | (rw [hl]; intro _) | refine idx_m (f := rowD) (xs := opRows) (by omega) ?_ | refine zI (fun _ => ?_) (fun _ => ?_) | refine zF (fun _ => ?_) (fun _ => ?_) | refine zA (by first | omega | exact rfl | decide) ?_ | refine zD (hC (opRows[i]'(by omega)) w) [0] [] rfl rfl rfl rfl rfl ⟨rfl, trivial⟩ trivial ?_ | refine ih _ (by omega) (Pf.get ?_) (by refine ⟨?_, ?_, ?_⟩ <;> (repeat' (first | exact trivial | exact yM (by omega) | exact rfl | exact Nat.le_of_ble_eq_true rfl | exact Or.inl rfl | apply And.intro))) | ((fail_if_success (have _h := ih)); refine LW.count 39 (fun i => ∀ j (h : j < opWords.length), j < i → opWords[j] ≠ w) (fun i => ⟨[(8, .d (.int .i64 i)), (7, .d (.int .i64 39)), (0, .d (.sl (opRows.map rowD))), (1, .fn 415 [.ptr 0 0])], 1, [.var 0 [.d (.str w)]], []⟩) (fun _ => ⟨rfl, rfl, rfl⟩) (fun i hi hI ih => ?_) (fun j h1 h2 => by omega) _ (by refine ⟨?_, ?_, ?_⟩ <;> (repeat' (first | exact trivial | exact rfl | exact Nat.le_of_ble_eq_true rfl | exact Or.inl rfl | apply And.intro)))) | fail)
  all_goals (conv => whnf)
  all_goals try first
    | (have hx : opWords[i]'(by show i < 39; omega) = w := by rw [← hrow i (by omega)]; assumption
       have e := firstIdx_of (l := opWords) (by show i < 39; omega) hx hI
       (refine yK ?_ ?_ ?_ ?_ <;> (repeat' (first | exact trivial | (refine zW ?_; rw [ixV, e, if_pos (by omega)]) | exact rfl  | exact Or.inl rfl  | apply And.intro)); done))
    | (have hx : opWords[i]'(by show i < 39; omega) ≠ w := by rw [← hrow i (by omega)]; assumption
       refine ⟨fun j h1 h2 => ?_⟩
       by_cases hj : j = i
       · subst hj; exact hx
       · exact hI j h1 (by omega))
    | (have e := firstIdx_none (l := opWords) (w := w) fun j h => hI j h (by have : opWords.length = 39 := rfl; omega)
       (refine yK ?_ ?_ ?_ ?_ <;> (repeat' (first | exact trivial | (refine zW ?_; rw [ixV, e]; rfl) | exact rfl  | exact Or.inl rfl  | apply And.intro)); done))
theorem chunks_rows : chunks 2 39 rowsD = opRows.map rowD := rfl
theorem k_opOf {L : Lk} (hf : FnR L 386 c386) (hgl : L.gl 1 = rowsD) (hX : ∀ w : Str, CT L 414 [.d (.sl (opRows.map rowD)), .fn 415 [.ptr 0 0]] 1 [.var 0 [.d (.str w)]] [] (.d (.int .i64 (ixV w))) 1 [.var 0 [.d (.str w)]] []) : K_opOf L 386 := by
  intro w
  refine CP.enter hf rfl rfl rfl ?_
  repeat' ((conv => whnf); first | (rw [hgl]) | (rw [chunks_rows]) | refine zI (fun _ => ?_) (fun _ => ?_) | refine zA (by first | omega | exact rfl | decide) ?_ | refine zD (hX w) [0] [] rfl rfl rfl rfl rfl ⟨rfl, trivial⟩ trivial ?_ | fail)
  all_goals (conv => whnf)
  all_goals
    by_cases h : firstIdx opWords w < 39
    · have e1 : ixV w = (firstIdx opWords w : Int) := by rw [ixV, if_pos h]
      have e2 : opOf w = 5 + (firstIdx opWords w : Int) := by rw [opOf, if_pos h]
      first
        | (exfalso; omega)
        | exact yJ (zW (by rw [e1, e2, wrap64 (by omega)]; omega))
    · have e1 : ixV w = -1 := by rw [ixV, if_neg h]
      have e2 : opOf w = 0 := by rw [opOf, if_neg h]
      first
        | (exfalso; omega)
        | exact yJ (zW (by rw [e2]))
theorem k_isVar {L : Lk} (hf : FnR L 365 c365) (hN : K_name L 89) (hO : K_opOf L 386) : K_var L 365 := by
  intro w
  refine CP.enter hf rfl rfl rfl ?_
  repeat' ((conv => whnf); first | refine zG (fun _ => ?_) (fun _ => ?_) | refine zF (fun _ => ?_) (fun _ => ?_) | refine zO (fun _ => ?_) (fun _ => ?_) | refine zH ?_ | refine zB (hN _) ?_ | refine zB (hO _) ?_ | fail)
  all_goals (conv => whnf)
  all_goals try exact yL (by simp only [varOk, zR]; grind)
theorem k_numOk {L : Lk} (hf : FnR L 368 c368) (hIn : K_in L 163) : ∀ op n : Int, CP L 368 [.d (.int .i64 op), .d (.int .i64 n)] (.d (.bool (pb (if op = 37 then 0 ≤ n ∧ n ≤ 99 else 1 ≤ n ∧ n ≤ 12)))) := by
  intro op n
  refine CP.enter hf rfl rfl rfl ?_
  repeat' ((conv => whnf); first | refine zG (fun _ => ?_) (fun _ => ?_) | refine zB (hIn _ _ _) ?_ | fail)
  all_goals (conv => whnf)
  all_goals try exact yL (by simp only [pb_iff]; grind)
theorem k_isAction {L : Lk} (hf : FnR L 315 c315) (hIn : K_in L 163) : ∀ op : Int, CP L 315 [.d (.int .i64 op)] (.d (.bool (pb (36 ≤ op ∧ op ≤ 43)))) := by
  intro op
  refine CP.enter hf rfl rfl rfl ?_
  repeat' ((conv => whnf); first | refine zB (hIn _ _ _) ?_ | fail)
  all_goals (conv => whnf)
  all_goals try exact yJ rfl
theorem k_isLiteral {L : Lk} (hf : FnR L 252 c252) (hIn : K_in L 163) : ∀ op : Int, CP L 252 [.d (.int .i64 op)] (.d (.bool (pb (1 ≤ op ∧ op ≤ 3)))) := by
  intro op
  refine CP.enter hf rfl rfl rfl ?_
  repeat' ((conv => whnf); first | refine zB (hIn _ _ _) ?_ | fail)
  all_goals (conv => whnf)
  all_goals try exact yJ rfl
theorem k_literal {L : Lk} (hf : FnR L 253 c253) : ∀ t : Nd, 1 ≤ t.sort ∧ t.sort ≤ 3 → CP L 253 [aT t] (aT (.mk t.sort t.num t.text [] [])) := by
  intro t h
  refine CP.enter hf rfl rfl rfl ?_
  repeat' ((conv => whnf); first | (rw [wrap64 (by omega)]) | refine zI (fun _ => ?_) (fun _ => ?_) | refine zM (fun _ => ?_) (fun _ => ?_) | refine zG (fun _ => ?_) (fun _ => ?_) | refine zF (fun _ => ?_) (fun _ => ?_) | refine zO (fun _ => ?_) (fun _ => ?_) | refine zH ?_ | refine zK ?_ | refine zL ?_ | refine zQ (fun _ => ?_) (fun _ _ => ?_) | refine zJ (fun _ => ?_) (fun _ => ?_) | (rw [zY]; intro _) | (rw [zZ]; intro _) | (rw [zX]; intro _) | intro _ | refine zA (by first | omega | exact rfl | decide) ?_ | refine yC (by omega) ?_ | refine yA (by omega) ?_ | refine yB (by omega) ?_ | refine yF (by omega) ?_ | refine yG (by omega) ?_ | refine yE (by omega) ?_ | refine yD (by omega) (by omega) (by omega) ?_ | refine yH (by omega) ?_ | refine yI (by omega) ?_ | fail)
  all_goals (conv => whnf)
  all_goals (refine yK ?_ ?_ ?_ ?_ <;> (repeat' (first | exact trivial | (refine zW ?_; (rw [wrap64 (n := t.sort - 1) (by omega), wrap64 (by omega)]); show t.sort - 1 + 1 = t.sort; omega) | exact rfl    | apply And.intro)); done)
def ixS (l : List Str) (w : Str) : Int := if firstIdx l w < l.length then (firstIdx l w : Int) else -1
theorem k_Index_str {L : Lk} (hf : FnR L 123 c123) : ∀ (l : List Str) (w : Str), CP L 123 [.d (.sl (encS l)), .d (.str w)] (.d (.int .i64 (ixS l w))) := by
  intro l w
  refine CP.enter hf rfl rfl rfl ?_
  repeat' ((conv => whnf); first | refine zI (fun _ => ?_) (fun _ => ?_) | refine zF (fun _ => ?_) (fun _ => ?_) | (rw [zX]; intro _) | refine zA (by first | omega | exact rfl | decide) ?_ | refine yE (by omega) ?_ | refine ih _ (by omega) (Pf.get ?_) (by refine ⟨?_, ?_, ?_⟩ <;> (repeat' (first | exact trivial | exact yM (by omega) | exact rfl | apply And.intro))) | ((fail_if_success (have _h := ih)); refine LW.count l.length (fun i => ∀ j (h : j < l.length), j < i → l[j] ≠ w) (fun i => ⟨[(8, .d (.int .i64 i)), (7, .d (.int .i64 l.length)), (0, .d (.sl (encS l))), (1, .d (.str w))], 0, [], []⟩) (fun _ => ⟨rfl, rfl, rfl⟩) (fun i hi hI ih => ?_) (fun j h1 h2 => by omega) _ (by refine ⟨?_, ?_, ?_⟩ <;> (repeat' (first | exact trivial | exact rfl | apply And.intro)))) | fail)
  all_goals (conv => whnf)
  all_goals try first
    | (have hx : l[i] = w := Eq.symm (by assumption)
       exact yJ (zW (by rw [ixS, firstIdx_of (by omega) hx hI, if_pos (by omega)])))
    | (refine ⟨fun j h1 h2 => ?_⟩
       by_cases hj : j = i
       · subst hj; exact Ne.symm (by assumption)
       · exact hI j h1 (by omega))
    | (have e := firstIdx_none (l := l) (w := w) fun j h => hI j h (by omega)
       exact yJ (zW (by rw [ixS, e, if_neg (by omega)])))
theorem mem_iff_ix {l : List Str} {w : Str} : w ∈ l ↔ 0 ≤ ixS l w := by
  by_cases h : w ∈ l
  · obtain ⟨j, hj, e⟩ := List.getElem_of_mem h
    have : firstIdx l w < l.length := by
      have key : ∀ (l : List Str), w ∈ l → firstIdx l w < l.length := by
        intro l
        induction l with
        | nil => intro h; cases h
        | cons x r ih =>
          intro h
          by_cases hx : x = w
          · simp [firstIdx, hx]
          · have := ih (by cases h with | head => exact absurd rfl hx | tail _ h => exact h)
            simp [firstIdx, hx]; omega
      exact key l h
    simp [ixS, this, h]
  · have : firstIdx l w = l.length := firstIdx_none fun j hj e => h (by rw [← e]; exact List.getElem_mem hj)
    simp [ixS, this, h]
theorem k_Contains_str {L : Lk} (hf : FnR L 366 c366) (hX : ∀ (l : List Str) (w : Str), CP L 123 [.d (.sl (encS l)), .d (.str w)] (.d (.int .i64 (ixS l w)))) : ∀ (l : List Str) (w : Str), CP L 366 [.d (.sl (encS l)), .d (.str w)] (.d (.bool (pb (w ∈ l)))) := by
  intro l w
  refine CP.enter hf rfl rfl rfl ?_
  repeat' ((conv => whnf); first | refine zB (hX _ _) ?_ | fail)
  all_goals (conv => whnf)
  all_goals try exact yL (by simp only [ile_iff]; exact mem_iff_ix.symm)
end Go.Ab
namespace Go.Ab
open Go
set_option maxHeartbeats 4000000
attribute [local irreducible] Need IdxK FinK NextK CKs CQs ltS
theorem next_y {s : Str} {p : Nat} {A : Int → Prop} {B : Prop} (b : UInt8) (h : s[p]? = some b) (hb : b.toNat < 128) (k : A b.toNat) : NextK s p A B := by
  unfold NextK
  refine ⟨fun b' h' => ?_, fun hl => ?_⟩
  · rw [h] at h'; cases h'; exact ⟨hb, k⟩
  · rw [List.getElem?_eq_none hl] at h; cases h
theorem next_n {s : Str} {p : Nat} {A : Int → Prop} {B : Prop} (h : s[p]? = none) (k : B) : NextK s p A B := by
  unfold NextK
  exact ⟨fun b hb => (by rw [h] at hb; cases hb), fun _ => k⟩
theorem k_kidIsAction {L : Lk} (hf : FnR L 317 c317) (hR : ∀ op : Int, CP L 254 [.d (.int .i64 op)] (.tup [.agg [.d (.str (opWord op)), .d (.str (opShape op))], .d (.bool (pb (5 ≤ op ∧ op ≤ 43)))])) :
    ∀ (op : Int) (i : Nat) (hi : i < (kidsOf op).length), op ≠ 24 → CP L 317 [.d (.int .i64 op), .d (.int .i64 i)] (.d (.bool (ieq ((kidsOf op)[i].toNat : Int) 97))) := by
  intro op i hi h24
  have h3 : i = 0 ∨ i = 1 ∨ i = 2 := by have := kidsOf_len op; omega
  have hop : op = 7 ∨ op = 8 ∨ op = 9 ∨ op = 10 ∨ op = 11 ∨ op = 12 ∨ op = 13 ∨ op = 14 ∨ op = 15 ∨ op = 16 ∨ op = 17 ∨ op = 18 ∨ op = 19 ∨ op = 20 ∨ op = 21 ∨ op = 22 ∨ op = 23 ∨ op = 25 ∨ op = 26 ∨ op = 27 ∨ op = 28 ∨ op = 29 ∨ op = 30 ∨ op = 31 ∨ op = 32 ∨ op = 33 ∨ op = 34 ∨ op = 35 ∨ op = 38 ∨ op = 39 ∨ op = 40 ∨ op = 41 ∨ op = 42 ∨ op = 43 := by
    unfold kidsOf at hi
    grind
  rcases hop with rfl | rfl | rfl | rfl | rfl | rfl | rfl | rfl | rfl | rfl | rfl | rfl | rfl | rfl | rfl | rfl | rfl | rfl | rfl | rfl | rfl | rfl | rfl | rfl | rfl | rfl | rfl | rfl | rfl | rfl | rfl | rfl | rfl | rfl <;> rcases h3 with rfl | rfl | rfl
  all_goals first
    | (exfalso; revert hi; decide)
    | refine CP.enter hf rfl rfl rfl ?_
  repeat' ((conv => whnf); first | (exfalso; omega) | refine zO (fun _ => ?_) (fun _ => ?_) | refine zB (hR _) ?_ | refine next_y _ rfl (by decide) ?_ | refine LW.unfold ?_ | fail)
  all_goals (conv => whnf)
  all_goals exact yJ rfl
end Go.Ab
namespace Go.Ab
open Go
set_option maxHeartbeats 4000000
attribute [local irreducible] Need IdxK FinK NextK CKs CQs ltS
theorem len0 {α : Type} {l : List α} (h : l.length = 0) : l = [] := List.eq_nil_of_length_eq_zero h
theorem len1 {α : Type} {l : List α} (h : l.length = 1) : ∃ a, l = [a] := by
  match l, h with | [a], _ => exact ⟨a, rfl⟩
theorem len2 {α : Type} {l : List α} (h : l.length = 2) : ∃ a b, l = [a, b] := by
  match l, h with | [a, b], _ => exact ⟨a, b, rfl⟩
theorem len3 {α : Type} {l : List α} (h : l.length = 3) : ∃ a b c, l = [a, b, c] := by
  match l, h with | [a, b, c], _ => exact ⟨a, b, c, rfl⟩
theorem idx_zT {a : Nd} {xs : List (List DV)} {K : List DV → Prop} (k : K [.int .i64 a.sort, .int .i64 a.num, .str a.text, .sl (encS a.names), .sl (a.kids.map cT)]) : IdxK (cT a :: xs) 0 K :=
  idx_z (by rw [cT_eq]; exact k)
theorem idx_zS {a : Str} {xs : List (List DV)} {K : List DV → Prop} (k : K [.str a]) : IdxK ([.str a] :: xs) 0 K := idx_z k
theorem row_eq {a b e : Nat} (h : a = b) : some (a, e) = some (b, e) := by rw [h]
theorem pair_eq {a b e : Nat} (h : a = b) : (a, e) = (b, e) := by rw [h]
def K_words (L : Lk) (t : Nd) : Prop := ∀ (a : Bool) (d : Int) (xs : List (List DV)), okN a d t → Sm t → xs.length + (wdN t).length ≤ 100000000 →
  CT L 178 [aT t, .rsl xs (.row 0)] 0 [] [(xs.length, 1)] (.rsl (xs ++ encS (wdN t)) (.row 0)) 0 [] [((xs ++ encS (wdN t)).length, 1)]
theorem wd_op {t : Nd} (h : t.sort ≠ 1 ∧ t.sort ≠ 2 ∧ t.sort ≠ 3 ∧ t.sort ≠ 4 ∧ t.sort ≠ 24) : wdN t = opWord t.sort :: (t.names ++ midW t.sort t.num t.text ++ (t.kids.map wdN).flatten) := by
  rw [wdN_eq, if_neg (by omega), if_neg (by omega), if_neg (by omega)]
theorem k_words_A0 {L : Lk} (hf : FnR L 178 c178) (hL : ∀ op : Int, CP L 252 [.d (.int .i64 op)] (.d (.bool (pb (1 ≤ op ∧ op ≤ 3)))))
    (hR : ∀ op : Int, CP L 254 [.d (.int .i64 op)] (.tup [.agg [.d (.str (opWord op)), .d (.str (opShape op))], .d (.bool (pb (5 ≤ op ∧ op ≤ 43)))]))
    (hI : ∀ n : Int, inR .i64 n → CP L 174 [.d (.int .i64 n)] (.d (.str (dec n)))) (num : Int) (tx : Str) (ns : List Str) (ks : List Nd)
    (ih : ∀ k, k ∈ ks → K_words L k) (op : Int) (hop : op = 7 ∨ op = 8 ∨ op = 9 ∨ op = 10 ∨ op = 11 ∨ op = 12 ∨ op = 13 ∨ op = 14) : K_words L (.mk op num tx ns ks) := by
  intro a d xs hok hs hl
  have hal := (okN_top hok).2
  obtain ⟨q1, q2, q3, q4⟩ := hal
  have q4 := q4 (by show op ≠ 24; omega)
  obtain ⟨q5, q6, q7, q8⟩ := q4
  have hks : ∀ i (h : i < ks.length), okN (kaN (.mk op num tx ns ks) i) (d + 1) ks[i] ∧ Sm ks[i] := fun i h => ⟨okN_any hok h, hs.kid h⟩
  have hw := wd_op (t := .mk op num tx ns ks) (by show op ≠ 1 ∧ op ≠ 2 ∧ op ≠ 3 ∧ op ≠ 4 ∧ op ≠ 24; omega)
  have hw2 : wdN (.mk op num tx ns ks) = opWord op :: (ns ++ midW op num tx ++ (ks.map wdN).flatten) := hw
  have hL := hL op
  rw [pb_f (by omega)] at hL
  have hR := hR op
  rw [hw2] at hl ⊢
  change CT L 178 [.agg [.d (.int .i64 op), .d (.int .i64 num), .d (.str tx), .d (.sl (encS ns)), .d (.sl (ks.map cT))], .rsl xs (.row 0)] 0 [] [(xs.length, 1)] _ 0 [] _
  change ks.length = (kidsOf op).length at q5
  change (ns.length : Int) = nNames op at q6
  unfold loadOk at q8
  dsimp only [Nd.sort, Nd.num, Nd.text] at q8
  obtain ⟨rfl, rfl⟩ := q8.2.2.2.2 (by omega)
  have hmid : ∀ o : Int, (o = 37 ∨ o = 39 → False) → midW o 0 [] = [] := fun o h => by simp [midW, show ¬ (o = 37 ∨ o = 39) from h]
  rw [hmid op (by omega)] at hl ⊢
  clear q1 q2 q3 q7 hw hw2 hs hok q8
  rcases hop with rfl | rfl | rfl | rfl | rfl | rfl | rfl | rfl
  all_goals
    (first
      | (have q5 : ks.length = 0 := q5; obtain rfl := len0 q5)
      | (have q5 : ks.length = 1 := q5; obtain ⟨k1, rfl⟩ := len1 q5; have h1 := hks 0 (by simp))
      | (have q5 : ks.length = 2 := q5; obtain ⟨k1, k2, rfl⟩ := len2 q5; have h1 := hks 0 (by simp); have h2 := hks 1 (by simp))
      | (have q5 : ks.length = 3 := q5; obtain ⟨k1, k2, k3, rfl⟩ := len3 q5; have h1 := hks 0 (by simp); have h2 := hks 1 (by simp); have h3 := hks 2 (by simp)))
    (first
      | (have q6 : (ns.length : Int) = 0 := q6; obtain rfl := len0 (Int.ofNat.inj q6))
      | (have q6 : (ns.length : Int) = 1 := q6; obtain ⟨n1, rfl⟩ := len1 (Int.ofNat.inj q6))
      | (have q6 : (ns.length : Int) = 2 := q6; obtain ⟨n1, n2, rfl⟩ := len2 (Int.ofNat.inj q6)))
  all_goals clear hks q5 q6
  all_goals simp only [List.nil_append, List.map_cons, List.map_nil, List.flatten_cons, List.flatten_nil, List.append_nil, List.length_cons, List.length_append] at hl
  all_goals refine CT.enter hf rfl (Nat.le_refl _) (by simp) ?_
  repeat' ((conv => whnf); first | refine idx_zT ?_ | refine zA ⟨by (try simp only [List.length_cons, List.length_nil]); omega, by intro y hy; simp at hy; subst hy; rfl⟩ ?_ | refine zA ⟨by simp <;> omega, rfl⟩ ?_ | refine zA ⟨by omega, by simp, by simp, by simp [encS, cT_eq]⟩ ?_ | refine zA (by first | omega | exact rfl | decide) ?_ | refine zB (hL) ?_ | refine zB (hR) ?_ | refine next_y _ rfl (by decide) ?_ | refine next_n rfl ?_ | refine LW.unfold ?_ | refine zD (ih k1 (by simp) _ _ _ h1.1 h1.2 (by (try simp only [List.length_append, List.length_cons, List.length_nil]); omega)) [] [0] rfl rfl rfl rfl rfl trivial ⟨row_eq (by simp <;> omega), trivial⟩ ?_ | refine zD (ih k2 (by simp) _ _ _ h2.1 h2.2 (by (try simp only [List.length_append, List.length_cons, List.length_nil, zX]); omega)) [] [0] rfl rfl rfl rfl rfl trivial ⟨row_eq (by simp <;> omega), trivial⟩ ?_ | fail)
  all_goals (conv => whnf)
  all_goals (refine yK ?_ ?_ ?_ ?_ <;> (repeat' (first | exact trivial | (show (_ : List (List DV)) = _; simp [encS, List.nil_append]) | exact pair_eq (by simp [List.nil_append]) | exact rfl | exact Nat.le_of_ble_eq_true rfl   | apply And.intro)); done)
theorem k_words_A1 {L : Lk} (hf : FnR L 178 c178) (hL : ∀ op : Int, CP L 252 [.d (.int .i64 op)] (.d (.bool (pb (1 ≤ op ∧ op ≤ 3)))))
    (hR : ∀ op : Int, CP L 254 [.d (.int .i64 op)] (.tup [.agg [.d (.str (opWord op)), .d (.str (opShape op))], .d (.bool (pb (5 ≤ op ∧ op ≤ 43)))]))
    (hI : ∀ n : Int, inR .i64 n → CP L 174 [.d (.int .i64 n)] (.d (.str (dec n)))) (num : Int) (tx : Str) (ns : List Str) (ks : List Nd)
    (ih : ∀ k, k ∈ ks → K_words L k) (op : Int) (hop : op = 15 ∨ op = 16 ∨ op = 17 ∨ op = 18 ∨ op = 19 ∨ op = 20 ∨ op = 21 ∨ op = 22) : K_words L (.mk op num tx ns ks) := by
  intro a d xs hok hs hl
  have hal := (okN_top hok).2
  obtain ⟨q1, q2, q3, q4⟩ := hal
  have q4 := q4 (by show op ≠ 24; omega)
  obtain ⟨q5, q6, q7, q8⟩ := q4
  have hks : ∀ i (h : i < ks.length), okN (kaN (.mk op num tx ns ks) i) (d + 1) ks[i] ∧ Sm ks[i] := fun i h => ⟨okN_any hok h, hs.kid h⟩
  have hw := wd_op (t := .mk op num tx ns ks) (by show op ≠ 1 ∧ op ≠ 2 ∧ op ≠ 3 ∧ op ≠ 4 ∧ op ≠ 24; omega)
  have hw2 : wdN (.mk op num tx ns ks) = opWord op :: (ns ++ midW op num tx ++ (ks.map wdN).flatten) := hw
  have hL := hL op
  rw [pb_f (by omega)] at hL
  have hR := hR op
  rw [hw2] at hl ⊢
  change CT L 178 [.agg [.d (.int .i64 op), .d (.int .i64 num), .d (.str tx), .d (.sl (encS ns)), .d (.sl (ks.map cT))], .rsl xs (.row 0)] 0 [] [(xs.length, 1)] _ 0 [] _
  change ks.length = (kidsOf op).length at q5
  change (ns.length : Int) = nNames op at q6
  unfold loadOk at q8
  dsimp only [Nd.sort, Nd.num, Nd.text] at q8
  obtain ⟨rfl, rfl⟩ := q8.2.2.2.2 (by omega)
  have hmid : ∀ o : Int, (o = 37 ∨ o = 39 → False) → midW o 0 [] = [] := fun o h => by simp [midW, show ¬ (o = 37 ∨ o = 39) from h]
  rw [hmid op (by omega)] at hl ⊢
  clear q1 q2 q3 q7 hw hw2 hs hok q8
  rcases hop with rfl | rfl | rfl | rfl | rfl | rfl | rfl | rfl
  all_goals
    (first
      | (have q5 : ks.length = 0 := q5; obtain rfl := len0 q5)
      | (have q5 : ks.length = 1 := q5; obtain ⟨k1, rfl⟩ := len1 q5; have h1 := hks 0 (by simp))
      | (have q5 : ks.length = 2 := q5; obtain ⟨k1, k2, rfl⟩ := len2 q5; have h1 := hks 0 (by simp); have h2 := hks 1 (by simp))
      | (have q5 : ks.length = 3 := q5; obtain ⟨k1, k2, k3, rfl⟩ := len3 q5; have h1 := hks 0 (by simp); have h2 := hks 1 (by simp); have h3 := hks 2 (by simp)))
    (first
      | (have q6 : (ns.length : Int) = 0 := q6; obtain rfl := len0 (Int.ofNat.inj q6))
      | (have q6 : (ns.length : Int) = 1 := q6; obtain ⟨n1, rfl⟩ := len1 (Int.ofNat.inj q6))
      | (have q6 : (ns.length : Int) = 2 := q6; obtain ⟨n1, n2, rfl⟩ := len2 (Int.ofNat.inj q6)))
  all_goals clear hks q5 q6
  all_goals simp only [List.nil_append, List.map_cons, List.map_nil, List.flatten_cons, List.flatten_nil, List.append_nil, List.length_cons, List.length_append, List.length_nil] at hl
  all_goals refine CT.enter hf rfl (Nat.le_refl _) (by simp) ?_
  repeat' ((conv => whnf); first | refine idx_zT ?_ | refine idx_zS ?_ | refine zA ⟨by (try simp only [List.length_append, List.length_cons, List.length_nil]); omega, by intro y hy; simp at hy; subst hy; rfl⟩ ?_ | refine zA ⟨by simp <;> omega, rfl⟩ ?_ | refine zA ⟨by omega, by simp [encS], by simp, by simp [encS, cT_eq]⟩ ?_ | refine zA (by first | omega | exact rfl | decide) ?_ | refine zB (hL) ?_ | refine zB (hR) ?_ | refine next_y _ rfl (by decide) ?_ | refine next_n rfl ?_ | refine LW.unfold ?_ | refine zD (ih k1 (by simp) _ _ _ h1.1 h1.2 (by (try simp only [List.length_append, List.length_cons, List.length_nil]); omega)) [] [0] rfl rfl rfl rfl rfl trivial ⟨row_eq (by simp <;> omega), trivial⟩ ?_ | refine zD (ih k2 (by simp) _ _ _ h2.1 h2.2 (by (try simp only [List.length_append, List.length_cons, List.length_nil, zX]); omega)) [] [0] rfl rfl rfl rfl rfl trivial ⟨row_eq (by simp <;> omega), trivial⟩ ?_ | refine zD (ih k3 (by simp) _ _ _ h3.1 h3.2 (by (try simp only [List.length_append, List.length_cons, List.length_nil, zX]); omega)) [] [0] rfl rfl rfl rfl rfl trivial ⟨row_eq (by simp <;> omega), trivial⟩ ?_ | fail)
  all_goals (conv => whnf)
  all_goals (refine yK ?_ ?_ ?_ ?_ <;> (repeat' (first | exact trivial | (show (_ : List (List DV)) = _; simp [encS, List.nil_append]) | exact pair_eq (by simp [List.nil_append]) | exact rfl | exact Nat.le_of_ble_eq_true rfl   | apply And.intro)); done)
theorem k_words_A2 {L : Lk} (hf : FnR L 178 c178) (hL : ∀ op : Int, CP L 252 [.d (.int .i64 op)] (.d (.bool (pb (1 ≤ op ∧ op ≤ 3)))))
    (hR : ∀ op : Int, CP L 254 [.d (.int .i64 op)] (.tup [.agg [.d (.str (opWord op)), .d (.str (opShape op))], .d (.bool (pb (5 ≤ op ∧ op ≤ 43)))]))
    (hI : ∀ n : Int, inR .i64 n → CP L 174 [.d (.int .i64 n)] (.d (.str (dec n)))) (num : Int) (tx : Str) (ns : List Str) (ks : List Nd)
    (ih : ∀ k, k ∈ ks → K_words L k) (op : Int) (hop : op = 23 ∨ op = 25 ∨ op = 26 ∨ op = 27 ∨ op = 28 ∨ op = 29 ∨ op = 30 ∨ op = 31) : K_words L (.mk op num tx ns ks) := by
  intro a d xs hok hs hl
  have hal := (okN_top hok).2
  obtain ⟨q1, q2, q3, q4⟩ := hal
  have q4 := q4 (by show op ≠ 24; omega)
  obtain ⟨q5, q6, q7, q8⟩ := q4
  have hks : ∀ i (h : i < ks.length), okN (kaN (.mk op num tx ns ks) i) (d + 1) ks[i] ∧ Sm ks[i] := fun i h => ⟨okN_any hok h, hs.kid h⟩
  have hw := wd_op (t := .mk op num tx ns ks) (by show op ≠ 1 ∧ op ≠ 2 ∧ op ≠ 3 ∧ op ≠ 4 ∧ op ≠ 24; omega)
  have hw2 : wdN (.mk op num tx ns ks) = opWord op :: (ns ++ midW op num tx ++ (ks.map wdN).flatten) := hw
  have hL := hL op
  rw [pb_f (by omega)] at hL
  have hR := hR op
  rw [hw2] at hl ⊢
  change CT L 178 [.agg [.d (.int .i64 op), .d (.int .i64 num), .d (.str tx), .d (.sl (encS ns)), .d (.sl (ks.map cT))], .rsl xs (.row 0)] 0 [] [(xs.length, 1)] _ 0 [] _
  change ks.length = (kidsOf op).length at q5
  change (ns.length : Int) = nNames op at q6
  unfold loadOk at q8
  dsimp only [Nd.sort, Nd.num, Nd.text] at q8
  obtain ⟨rfl, rfl⟩ := q8.2.2.2.2 (by omega)
  have hmid : ∀ o : Int, (o = 37 ∨ o = 39 → False) → midW o 0 [] = [] := fun o h => by simp [midW, show ¬ (o = 37 ∨ o = 39) from h]
  rw [hmid op (by omega)] at hl ⊢
  clear q1 q2 q3 q7 hw hw2 hs hok q8
  rcases hop with rfl | rfl | rfl | rfl | rfl | rfl | rfl | rfl
  all_goals
    (first
      | (have q5 : ks.length = 0 := q5; obtain rfl := len0 q5)
      | (have q5 : ks.length = 1 := q5; obtain ⟨k1, rfl⟩ := len1 q5; have h1 := hks 0 (by simp))
      | (have q5 : ks.length = 2 := q5; obtain ⟨k1, k2, rfl⟩ := len2 q5; have h1 := hks 0 (by simp); have h2 := hks 1 (by simp))
      | (have q5 : ks.length = 3 := q5; obtain ⟨k1, k2, k3, rfl⟩ := len3 q5; have h1 := hks 0 (by simp); have h2 := hks 1 (by simp); have h3 := hks 2 (by simp)))
    (first
      | (have q6 : (ns.length : Int) = 0 := q6; obtain rfl := len0 (Int.ofNat.inj q6))
      | (have q6 : (ns.length : Int) = 1 := q6; obtain ⟨n1, rfl⟩ := len1 (Int.ofNat.inj q6))
      | (have q6 : (ns.length : Int) = 2 := q6; obtain ⟨n1, n2, rfl⟩ := len2 (Int.ofNat.inj q6)))
  all_goals clear hks q5 q6
  all_goals simp only [List.nil_append, List.map_cons, List.map_nil, List.flatten_cons, List.flatten_nil, List.append_nil, List.length_cons, List.length_append, List.length_nil] at hl
  all_goals refine CT.enter hf rfl (Nat.le_refl _) (by simp) ?_
  repeat' ((conv => whnf); first | refine idx_zT ?_ | refine idx_zS ?_ | refine zA ⟨by (try simp only [List.length_append, List.length_cons, List.length_nil]); omega, by intro y hy; simp at hy; subst hy; rfl⟩ ?_ | refine zA ⟨by simp <;> omega, rfl⟩ ?_ | refine zA ⟨by omega, by simp [encS], by simp, by simp [encS, cT_eq]⟩ ?_ | refine zA (by first | omega | exact rfl | decide) ?_ | refine zB (hL) ?_ | refine zB (hR) ?_ | refine next_y _ rfl (by decide) ?_ | refine next_n rfl ?_ | refine LW.unfold ?_ | refine zD (ih k1 (by simp) _ _ _ h1.1 h1.2 (by (try simp only [List.length_append, List.length_cons, List.length_nil]); omega)) [] [0] rfl rfl rfl rfl rfl trivial ⟨row_eq (by simp <;> omega), trivial⟩ ?_ | refine zD (ih k2 (by simp) _ _ _ h2.1 h2.2 (by (try simp only [List.length_append, List.length_cons, List.length_nil, zX]); omega)) [] [0] rfl rfl rfl rfl rfl trivial ⟨row_eq (by simp <;> omega), trivial⟩ ?_ | refine zD (ih k3 (by simp) _ _ _ h3.1 h3.2 (by (try simp only [List.length_append, List.length_cons, List.length_nil, zX]); omega)) [] [0] rfl rfl rfl rfl rfl trivial ⟨row_eq (by simp <;> omega), trivial⟩ ?_ | fail)
  all_goals (conv => whnf)
  all_goals (refine yK ?_ ?_ ?_ ?_ <;> (repeat' (first | exact trivial | (show (_ : List (List DV)) = _; simp [encS, List.nil_append]) | exact pair_eq (by simp [List.nil_append]) | exact rfl | exact Nat.le_of_ble_eq_true rfl   | apply And.intro)); done)
theorem k_words_A3 {L : Lk} (hf : FnR L 178 c178) (hL : ∀ op : Int, CP L 252 [.d (.int .i64 op)] (.d (.bool (pb (1 ≤ op ∧ op ≤ 3)))))
    (hR : ∀ op : Int, CP L 254 [.d (.int .i64 op)] (.tup [.agg [.d (.str (opWord op)), .d (.str (opShape op))], .d (.bool (pb (5 ≤ op ∧ op ≤ 43)))]))
    (hI : ∀ n : Int, inR .i64 n → CP L 174 [.d (.int .i64 n)] (.d (.str (dec n)))) (num : Int) (tx : Str) (ns : List Str) (ks : List Nd)
    (ih : ∀ k, k ∈ ks → K_words L k) (op : Int) (hop : op = 32 ∨ op = 33 ∨ op = 34 ∨ op = 35 ∨ op = 36 ∨ op = 38 ∨ op = 40 ∨ op = 41) : K_words L (.mk op num tx ns ks) := by
  intro a d xs hok hs hl
  have hal := (okN_top hok).2
  obtain ⟨q1, q2, q3, q4⟩ := hal
  have q4 := q4 (by show op ≠ 24; omega)
  obtain ⟨q5, q6, q7, q8⟩ := q4
  have hks : ∀ i (h : i < ks.length), okN (kaN (.mk op num tx ns ks) i) (d + 1) ks[i] ∧ Sm ks[i] := fun i h => ⟨okN_any hok h, hs.kid h⟩
  have hw := wd_op (t := .mk op num tx ns ks) (by show op ≠ 1 ∧ op ≠ 2 ∧ op ≠ 3 ∧ op ≠ 4 ∧ op ≠ 24; omega)
  have hw2 : wdN (.mk op num tx ns ks) = opWord op :: (ns ++ midW op num tx ++ (ks.map wdN).flatten) := hw
  have hL := hL op
  rw [pb_f (by omega)] at hL
  have hR := hR op
  rw [hw2] at hl ⊢
  change CT L 178 [.agg [.d (.int .i64 op), .d (.int .i64 num), .d (.str tx), .d (.sl (encS ns)), .d (.sl (ks.map cT))], .rsl xs (.row 0)] 0 [] [(xs.length, 1)] _ 0 [] _
  change ks.length = (kidsOf op).length at q5
  change (ns.length : Int) = nNames op at q6
  unfold loadOk at q8
  dsimp only [Nd.sort, Nd.num, Nd.text] at q8
  obtain ⟨rfl, rfl⟩ := q8.2.2.2.2 (by omega)
  have hmid : ∀ o : Int, (o = 37 ∨ o = 39 → False) → midW o 0 [] = [] := fun o h => by simp [midW, show ¬ (o = 37 ∨ o = 39) from h]
  rw [hmid op (by omega)] at hl ⊢
  clear q1 q2 q3 q7 hw hw2 hs hok q8
  rcases hop with rfl | rfl | rfl | rfl | rfl | rfl | rfl | rfl
  all_goals
    (first
      | (have q5 : ks.length = 0 := q5; obtain rfl := len0 q5)
      | (have q5 : ks.length = 1 := q5; obtain ⟨k1, rfl⟩ := len1 q5; have h1 := hks 0 (by simp))
      | (have q5 : ks.length = 2 := q5; obtain ⟨k1, k2, rfl⟩ := len2 q5; have h1 := hks 0 (by simp); have h2 := hks 1 (by simp))
      | (have q5 : ks.length = 3 := q5; obtain ⟨k1, k2, k3, rfl⟩ := len3 q5; have h1 := hks 0 (by simp); have h2 := hks 1 (by simp); have h3 := hks 2 (by simp)))
    (first
      | (have q6 : (ns.length : Int) = 0 := q6; obtain rfl := len0 (Int.ofNat.inj q6))
      | (have q6 : (ns.length : Int) = 1 := q6; obtain ⟨n1, rfl⟩ := len1 (Int.ofNat.inj q6))
      | (have q6 : (ns.length : Int) = 2 := q6; obtain ⟨n1, n2, rfl⟩ := len2 (Int.ofNat.inj q6)))
  all_goals clear hks q5 q6
  all_goals simp only [List.nil_append, List.map_cons, List.map_nil, List.flatten_cons, List.flatten_nil, List.append_nil, List.length_cons, List.length_append, List.length_nil] at hl
  all_goals refine CT.enter hf rfl (Nat.le_refl _) (by simp) ?_
  repeat' ((conv => whnf); first | refine idx_zT ?_ | refine idx_zS ?_ | refine zA ⟨by (try simp only [List.length_append, List.length_cons, List.length_nil]); omega, by intro y hy; simp at hy; subst hy; rfl⟩ ?_ | refine zA ⟨by simp <;> omega, rfl⟩ ?_ | refine zA ⟨by omega, by simp [encS], by simp, by simp [encS, cT_eq]⟩ ?_ | refine zA (by first | omega | exact rfl | decide) ?_ | refine zB (hL) ?_ | refine zB (hR) ?_ | refine next_y _ rfl (by decide) ?_ | refine next_n rfl ?_ | refine LW.unfold ?_ | refine zD (ih k1 (by simp) _ _ _ h1.1 h1.2 (by (try simp only [List.length_append, List.length_cons, List.length_nil]); omega)) [] [0] rfl rfl rfl rfl rfl trivial ⟨row_eq (by simp <;> omega), trivial⟩ ?_ | refine zD (ih k2 (by simp) _ _ _ h2.1 h2.2 (by (try simp only [List.length_append, List.length_cons, List.length_nil, zX]); omega)) [] [0] rfl rfl rfl rfl rfl trivial ⟨row_eq (by simp <;> omega), trivial⟩ ?_ | refine zD (ih k3 (by simp) _ _ _ h3.1 h3.2 (by (try simp only [List.length_append, List.length_cons, List.length_nil, zX]); omega)) [] [0] rfl rfl rfl rfl rfl trivial ⟨row_eq (by simp <;> omega), trivial⟩ ?_ | fail)
  all_goals (conv => whnf)
  all_goals (refine yK ?_ ?_ ?_ ?_ <;> (repeat' (first | exact trivial | (show (_ : List (List DV)) = _; simp [encS, List.nil_append]) | exact pair_eq (by simp [List.nil_append]) | exact rfl | exact Nat.le_of_ble_eq_true rfl   | apply And.intro)); done)
theorem k_words_A4 {L : Lk} (hf : FnR L 178 c178) (hL : ∀ op : Int, CP L 252 [.d (.int .i64 op)] (.d (.bool (pb (1 ≤ op ∧ op ≤ 3)))))
    (hR : ∀ op : Int, CP L 254 [.d (.int .i64 op)] (.tup [.agg [.d (.str (opWord op)), .d (.str (opShape op))], .d (.bool (pb (5 ≤ op ∧ op ≤ 43)))]))
    (hI : ∀ n : Int, inR .i64 n → CP L 174 [.d (.int .i64 n)] (.d (.str (dec n)))) (num : Int) (tx : Str) (ns : List Str) (ks : List Nd)
    (ih : ∀ k, k ∈ ks → K_words L k) (op : Int) (hop : op = 42 ∨ op = 43) : K_words L (.mk op num tx ns ks) := by
  intro a d xs hok hs hl
  have hal := (okN_top hok).2
  obtain ⟨q1, q2, q3, q4⟩ := hal
  have q4 := q4 (by show op ≠ 24; omega)
  obtain ⟨q5, q6, q7, q8⟩ := q4
  have hks : ∀ i (h : i < ks.length), okN (kaN (.mk op num tx ns ks) i) (d + 1) ks[i] ∧ Sm ks[i] := fun i h => ⟨okN_any hok h, hs.kid h⟩
  have hw := wd_op (t := .mk op num tx ns ks) (by show op ≠ 1 ∧ op ≠ 2 ∧ op ≠ 3 ∧ op ≠ 4 ∧ op ≠ 24; omega)
  have hw2 : wdN (.mk op num tx ns ks) = opWord op :: (ns ++ midW op num tx ++ (ks.map wdN).flatten) := hw
  have hL := hL op
  rw [pb_f (by omega)] at hL
  have hR := hR op
  rw [hw2] at hl ⊢
  change CT L 178 [.agg [.d (.int .i64 op), .d (.int .i64 num), .d (.str tx), .d (.sl (encS ns)), .d (.sl (ks.map cT))], .rsl xs (.row 0)] 0 [] [(xs.length, 1)] _ 0 [] _
  change ks.length = (kidsOf op).length at q5
  change (ns.length : Int) = nNames op at q6
  unfold loadOk at q8
  dsimp only [Nd.sort, Nd.num, Nd.text] at q8
  obtain ⟨rfl, rfl⟩ := q8.2.2.2.2 (by omega)
  have hmid : ∀ o : Int, (o = 37 ∨ o = 39 → False) → midW o 0 [] = [] := fun o h => by simp [midW, show ¬ (o = 37 ∨ o = 39) from h]
  rw [hmid op (by omega)] at hl ⊢
  clear q1 q2 q3 q7 hw hw2 hs hok q8
  rcases hop with rfl | rfl
  all_goals
    (first
      | (have q5 : ks.length = 0 := q5; obtain rfl := len0 q5)
      | (have q5 : ks.length = 1 := q5; obtain ⟨k1, rfl⟩ := len1 q5; have h1 := hks 0 (by simp))
      | (have q5 : ks.length = 2 := q5; obtain ⟨k1, k2, rfl⟩ := len2 q5; have h1 := hks 0 (by simp); have h2 := hks 1 (by simp))
      | (have q5 : ks.length = 3 := q5; obtain ⟨k1, k2, k3, rfl⟩ := len3 q5; have h1 := hks 0 (by simp); have h2 := hks 1 (by simp); have h3 := hks 2 (by simp)))
    (first
      | (have q6 : (ns.length : Int) = 0 := q6; obtain rfl := len0 (Int.ofNat.inj q6))
      | (have q6 : (ns.length : Int) = 1 := q6; obtain ⟨n1, rfl⟩ := len1 (Int.ofNat.inj q6))
      | (have q6 : (ns.length : Int) = 2 := q6; obtain ⟨n1, n2, rfl⟩ := len2 (Int.ofNat.inj q6)))
  all_goals clear hks q5 q6
  all_goals simp only [List.map_cons, List.map_nil, List.flatten_cons, List.flatten_nil, List.append_nil, List.length_cons, List.length_append, List.length_nil] at hl
  all_goals refine CT.enter hf rfl (Nat.le_refl _) (by simp) ?_
  repeat' ((conv => whnf); first | refine idx_zT ?_ | refine idx_zS ?_ | refine zA ⟨by (try simp only [List.length_append, List.length_cons, List.length_nil]); omega, by intro y hy; simp at hy; subst hy; rfl⟩ ?_ | refine zA ⟨by simp <;> omega, rfl⟩ ?_ | refine zA ⟨by omega, by simp [encS], by simp, by simp [encS, cT_eq]⟩ ?_ | refine zA (by first | omega | exact rfl | decide) ?_ | refine zB (hL) ?_ | refine zB (hR) ?_ | refine next_y _ rfl (by decide) ?_ | refine next_n rfl ?_ | refine LW.unfold ?_ | refine zD (ih k1 (by simp) _ _ _ h1.1 h1.2 (by (try simp only [List.length_append, List.length_cons, List.length_nil]); omega)) [] [0] rfl rfl rfl rfl rfl trivial ⟨row_eq (by simp <;> omega), trivial⟩ ?_ | refine zD (ih k2 (by simp) _ _ _ h2.1 h2.2 (by (try simp only [List.length_append, List.length_cons, List.length_nil, zX]); omega)) [] [0] rfl rfl rfl rfl rfl trivial ⟨row_eq (by simp <;> omega), trivial⟩ ?_ | fail)
  all_goals (conv => whnf)
  all_goals (refine yK ?_ ?_ ?_ ?_ <;> (repeat' (first | exact trivial | (show (_ : List (List DV)) = _; simp [encS, List.nil_append]) | exact pair_eq (by simp [List.nil_append]) | exact rfl | exact Nat.le_of_ble_eq_true rfl   | apply And.intro)); done)
theorem k_words_B {L : Lk} (hf : FnR L 178 c178) (hL : ∀ op : Int, CP L 252 [.d (.int .i64 op)] (.d (.bool (pb (1 ≤ op ∧ op ≤ 3)))))
    (hR : ∀ op : Int, CP L 254 [.d (.int .i64 op)] (.tup [.agg [.d (.str (opWord op)), .d (.str (opShape op))], .d (.bool (pb (5 ≤ op ∧ op ≤ 43)))]))
    (hI : ∀ n : Int, inR .i64 n → CP L 174 [.d (.int .i64 n)] (.d (.str (dec n)))) (num : Int) (tx : Str) (ns : List Str) (ks : List Nd)
    (ih : ∀ k, k ∈ ks → K_words L k) (op : Int) (hop : op = 5 ∨ op = 6) : K_words L (.mk op num tx ns ks) := by
  intro a d xs hok hs hl
  have hal := (okN_top hok).2
  obtain ⟨q1, q2, q3, q4⟩ := hal
  have q4 := q4 (by show op ≠ 24; omega)
  obtain ⟨q5, q6, q7, q8⟩ := q4
  have hks : ∀ i (h : i < ks.length), okN (kaN (.mk op num tx ns ks) i) (d + 1) ks[i] ∧ Sm ks[i] := fun i h => ⟨okN_any hok h, hs.kid h⟩
  have hw := wd_op (t := .mk op num tx ns ks) (by show op ≠ 1 ∧ op ≠ 2 ∧ op ≠ 3 ∧ op ≠ 4 ∧ op ≠ 24; omega)
  have hw2 : wdN (.mk op num tx ns ks) = opWord op :: (ns ++ midW op num tx ++ (ks.map wdN).flatten) := hw
  have hL := hL op
  rw [pb_f (by omega)] at hL
  have hR := hR op
  rw [hw2] at hl ⊢
  change CT L 178 [.agg [.d (.int .i64 op), .d (.int .i64 num), .d (.str tx), .d (.sl (encS ns)), .d (.sl (ks.map cT))], .rsl xs (.row 0)] 0 [] [(xs.length, 1)] _ 0 [] _
  change ks.length = (kidsOf op).length at q5
  change (ns.length : Int) = nNames op at q6
  unfold loadOk at q8
  dsimp only [Nd.sort, Nd.num, Nd.text] at q8
  obtain ⟨rfl, k0, hk0, hk1⟩ := q8.2.1 (by omega)
  have hne : tx ≠ [] := fun e => by
    have := txK_eq k0
    rw [hk1, e] at this
    repeat' split at this
    all_goals simp at this
  have hmid : midW op 0 tx = [tx] := by simp [midW, hne, show ¬ (op = 37 ∨ op = 39) by omega]
  rw [hmid] at hl ⊢
  clear q1 q2 q3 q7 hw hw2 hs hok q8
  rcases hop with rfl | rfl
  all_goals
    (first
      | (have q5 : ks.length = 0 := q5; obtain rfl := len0 q5)
      | (have q5 : ks.length = 1 := q5; obtain ⟨k1, rfl⟩ := len1 q5; have h1 := hks 0 (by simp))
      | (have q5 : ks.length = 2 := q5; obtain ⟨k1, k2, rfl⟩ := len2 q5; have h1 := hks 0 (by simp); have h2 := hks 1 (by simp))
      | (have q5 : ks.length = 3 := q5; obtain ⟨k1, k2, k3, rfl⟩ := len3 q5; have h1 := hks 0 (by simp); have h2 := hks 1 (by simp); have h3 := hks 2 (by simp)))
    (first
      | (have q6 : (ns.length : Int) = 0 := q6; obtain rfl := len0 (Int.ofNat.inj q6))
      | (have q6 : (ns.length : Int) = 1 := q6; obtain ⟨n1, rfl⟩ := len1 (Int.ofNat.inj q6))
      | (have q6 : (ns.length : Int) = 2 := q6; obtain ⟨n1, n2, rfl⟩ := len2 (Int.ofNat.inj q6)))
  all_goals clear hks q5 q6
  all_goals simp only [List.nil_append, List.map_nil, List.flatten_nil, List.append_nil, List.length_cons, List.length_nil] at hl
  all_goals refine CT.enter hf rfl (Nat.le_refl _) (by simp) ?_
  repeat' ((conv => whnf); first | refine zA ⟨by (try simp only [List.length_append, List.length_cons, List.length_nil]); omega, by intro y hy; simp at hy; subst hy; rfl⟩ ?_ | refine zA ⟨by simp <;> omega, rfl⟩ ?_ | refine zB (hL) ?_ | refine zB (hR) ?_ | refine next_y _ rfl (by decide) ?_ | refine next_n rfl ?_ | refine LW.unfold ?_ | fail)
  all_goals (conv => whnf)
  all_goals (refine yK ?_ ?_ ?_ ?_ <;> (repeat' (first | exact trivial | (show (_ : List (List DV)) = _; simp [encS, List.nil_append]) | exact pair_eq (by simp [List.nil_append]) | exact rfl | exact Nat.le_of_ble_eq_true rfl   | apply And.intro)); done)
theorem k_words_C {L : Lk} (hf : FnR L 178 c178) (hL : ∀ op : Int, CP L 252 [.d (.int .i64 op)] (.d (.bool (pb (1 ≤ op ∧ op ≤ 3)))))
    (hR : ∀ op : Int, CP L 254 [.d (.int .i64 op)] (.tup [.agg [.d (.str (opWord op)), .d (.str (opShape op))], .d (.bool (pb (5 ≤ op ∧ op ≤ 43)))]))
    (hI : ∀ n : Int, inR .i64 n → CP L 174 [.d (.int .i64 n)] (.d (.str (dec n)))) (num : Int) (tx : Str) (ns : List Str) (ks : List Nd)
    (ih : ∀ k, k ∈ ks → K_words L k) (op : Int) (hop : op = 37 ∨ op = 39) : K_words L (.mk op num tx ns ks) := by
  intro a d xs hok hs hl
  have hal := (okN_top hok).2
  obtain ⟨q1, q2, q3, q4⟩ := hal
  have q4 := q4 (by show op ≠ 24; omega)
  obtain ⟨q5, q6, q7, q8⟩ := q4
  have hks : ∀ i (h : i < ks.length), okN (kaN (.mk op num tx ns ks) i) (d + 1) ks[i] ∧ Sm ks[i] := fun i h => ⟨okN_any hok h, hs.kid h⟩
  have hw := wd_op (t := .mk op num tx ns ks) (by show op ≠ 1 ∧ op ≠ 2 ∧ op ≠ 3 ∧ op ≠ 4 ∧ op ≠ 24; omega)
  have hw2 : wdN (.mk op num tx ns ks) = opWord op :: (ns ++ midW op num tx ++ (ks.map wdN).flatten) := hw
  have hL := hL op
  rw [pb_f (by omega)] at hL
  have hR := hR op
  rw [hw2] at hl ⊢
  change CT L 178 [.agg [.d (.int .i64 op), .d (.int .i64 num), .d (.str tx), .d (.sl (encS ns)), .d (.sl (ks.map cT))], .rsl xs (.row 0)] 0 [] [(xs.length, 1)] _ 0 [] _
  change ks.length = (kidsOf op).length at q5
  change (ns.length : Int) = nNames op at q6
  unfold loadOk at q8
  dsimp only [Nd.sort, Nd.num, Nd.text] at q8
  have hnum : inR .i64 num ∧ tx = [] := by
    unfold inR
    rcases hop with h | h
    · have := q8.2.2.1 h; exact ⟨by simp only; omega, this.2⟩
    · have := q8.2.2.2.1 h; exact ⟨by simp only; omega, this.2⟩
  obtain ⟨hnum, rfl⟩ := hnum
  have hmid : midW op num [] = [dec num] := by simp [midW, show op = 37 ∨ op = 39 by omega]
  rw [hmid] at hl ⊢
  have hI := hI num hnum
  clear q1 q2 q3 q7 hw hw2 hs hok q8
  rcases hop with rfl | rfl
  all_goals
    (first
      | (have q5 : ks.length = 0 := q5; obtain rfl := len0 q5)
      | (have q5 : ks.length = 1 := q5; obtain ⟨k1, rfl⟩ := len1 q5; have h1 := hks 0 (by simp))
      | (have q5 : ks.length = 2 := q5; obtain ⟨k1, k2, rfl⟩ := len2 q5; have h1 := hks 0 (by simp); have h2 := hks 1 (by simp))
      | (have q5 : ks.length = 3 := q5; obtain ⟨k1, k2, k3, rfl⟩ := len3 q5; have h1 := hks 0 (by simp); have h2 := hks 1 (by simp); have h3 := hks 2 (by simp)))
    (first
      | (have q6 : (ns.length : Int) = 0 := q6; obtain rfl := len0 (Int.ofNat.inj q6))
      | (have q6 : (ns.length : Int) = 1 := q6; obtain ⟨n1, rfl⟩ := len1 (Int.ofNat.inj q6))
      | (have q6 : (ns.length : Int) = 2 := q6; obtain ⟨n1, n2, rfl⟩ := len2 (Int.ofNat.inj q6)))
  all_goals clear hks q5 q6
  all_goals simp only [List.nil_append, List.map_cons, List.map_nil, List.flatten_cons, List.flatten_nil, List.append_nil, List.length_cons, List.length_append, List.length_nil] at hl
  all_goals refine CT.enter hf rfl (Nat.le_refl _) (by simp) ?_
  repeat' ((conv => whnf); first | refine idx_zT ?_ | refine idx_zS ?_ | refine zA ⟨by (try simp only [List.length_append, List.length_cons, List.length_nil]); omega, by intro y hy; simp at hy; subst hy; rfl⟩ ?_ | refine zA ⟨by simp <;> omega, rfl⟩ ?_ | refine zA ⟨by omega, by simp [encS], by simp, by simp [encS, cT_eq]⟩ ?_ | refine zA (by first | omega | exact rfl | decide) ?_ | refine zB (hL) ?_ | refine zB (hR) ?_ | refine zB (hI) ?_ | refine next_y _ rfl (by decide) ?_ | refine next_n rfl ?_ | refine LW.unfold ?_ | refine zD (ih k1 (by simp) _ _ _ h1.1 h1.2 (by (try simp only [List.length_append, List.length_cons, List.length_nil]); omega)) [] [0] rfl rfl rfl rfl rfl trivial ⟨row_eq (by simp <;> omega), trivial⟩ ?_ | fail)
  all_goals (conv => whnf)
  all_goals (refine yK ?_ ?_ ?_ ?_ <;> (repeat' (first | exact trivial | (show (_ : List (List DV)) = _; simp [encS, List.nil_append]) | exact pair_eq (by simp [List.nil_append]) | exact rfl | exact Nat.le_of_ble_eq_true rfl   | apply And.intro)); done)
theorem k_words {L : Lk} (hf : FnR L 178 c178) (hL0 : ∀ op : Int, CP L 252 [.d (.int .i64 op)] (.d (.bool (pb (1 ≤ op ∧ op ≤ 3)))))
    (hR : ∀ op : Int, CP L 254 [.d (.int .i64 op)] (.tup [.agg [.d (.str (opWord op)), .d (.str (opShape op))], .d (.bool (pb (5 ≤ op ∧ op ≤ 43)))]))
    (hI : ∀ n : Int, inR .i64 n → CP L 174 [.d (.int .i64 n)] (.d (.str (dec n)))) (hLi : ∀ t : Nd, 1 ≤ t.sort ∧ t.sort ≤ 3 → CP L 253 [aT t] (aT (.mk t.sort t.num t.text [] []))) (hT : K_textT L 175) : ∀ t : Nd, K_words L t := by
  refine Nd.ind fun t ihT => ?_
  by_cases h1 : t.sort = 1 ∨ t.sort = 2 ∨ t.sort = 3
  · intro a d xs hok hs hl
    have ha := shN hok
    have hL := hL0 t.sort
    rw [pb_t (by omega)] at hL
    have e := wdN_eq t
    rw [if_pos h1] at e
    rw [e] at hl ⊢
    simp only [List.length_cons, List.length_nil] at hl
    refine CT.enter hf rfl (Nat.le_refl _) (by simp) ?_
    repeat' ((conv => whnf); first | refine zA ⟨by (try simp only [List.length_cons, List.length_nil]); omega, by intro y hy; simp at hy; subst hy; rfl⟩ ?_ | refine zA ⟨by simp <;> omega, rfl⟩ ?_ | refine zB (hL) ?_ | refine zB (hLi t (by omega)) ?_ | refine zB (hT (.mk t.sort t.num t.text [] []) 1 ⟨ha.lit (by omega), (by show 0 + 1 ≤ 120; omega)⟩) ?_ | fail)
    all_goals (conv => whnf)
    all_goals (refine yK ?_ ?_ ?_ ?_ <;> (repeat' (first | exact trivial | (show (_ : List (List DV)) = _; simp [encS]) | exact pair_eq (by simp <;> omega) | exact rfl | exact Nat.le_of_ble_eq_true rfl   | apply And.intro)); done)
  have hL := hL0 t.sort
  rw [pb_f (by omega)] at hL
  by_cases h4 : t.sort = 4
  · intro a d xs hok hs hl
    have ha := (shN hok).one h4
    have e := wdN_eq t
    rw [if_neg h1, if_pos h4, headD_get (by omega)] at e
    rw [e] at hl ⊢
    simp only [List.length_cons, List.length_nil] at hl
    refine CT.enter hf rfl (Nat.le_refl _) (by simp) ?_
    repeat' ((conv => whnf); first | (exfalso; omega) | refine yB (by omega) ?_ | refine zA ⟨by (try simp only [List.length_cons, List.length_nil]); omega, by intro y hy; simp at hy; subst hy; rfl⟩ ?_ | refine zA ⟨by simp <;> omega, rfl⟩ ?_ | refine zG (fun _ => ?_) (fun _ => ?_) | refine zA (by first | omega | exact rfl | decide) ?_ | refine zB (hL) ?_ | fail)
    all_goals (conv => whnf)
    all_goals (refine yK ?_ ?_ ?_ ?_ <;> (repeat' (first | exact trivial | (show (_ : List (List DV)) = _; simp [encS]) | exact pair_eq (by simp <;> omega) | exact rfl | exact Nat.le_of_ble_eq_true rfl   | apply And.intro)); done)
  by_cases h24 : t.sort = 24
  · intro a d xs hok hs hl
    have hfm := (shN hok).form h24
    have e := wdN_eq t
    rw [if_neg h1, if_neg h4, if_pos h24] at e
    have hwl := wdN_len t a d hok
    have hmono : ∀ i, i ≤ t.kids.length → (formW t.names (t.kids.map wdN) i).length ≤ (formW t.names (t.kids.map wdN) t.kids.length).length := by
      intro i hi
      obtain ⟨q, hq⟩ : ∃ q, i + q = t.kids.length := ⟨t.kids.length - i, by omega⟩
      rw [← hq]
      clear hq hi
      induction q with
      | zero => exact Nat.le_refl _
      | succ q ihq => rw [← Nat.add_assoc, formW]; simp; omega
    rw [e] at hl ⊢
    simp only [List.length_append, List.length_cons, List.length_nil] at hl
    have hk : ∀ i (h : i < t.kids.length), okN (kaN t i) (d + 1) t.kids[i] ∧ Sm t.kids[i] := fun i h => ⟨okN_any hok h, hs.kid h⟩
    have hstep : ∀ i (h : i < t.kids.length), (formW t.names (t.kids.map wdN) i).length + 1 + (wdN t.kids[i]).length ≤ (formW t.names (t.kids.map wdN) t.kids.length).length := fun i h => by
      have := hmono (i + 1) (by omega)
      rw [formW_s h (by omega)] at this
      simp at this; omega
    have hsk := hs.kids
    refine CT.enter hf rfl (Nat.le_refl _) (by simp) ?_
    repeat' ((conv => whnf); first | (exfalso; omega) | refine zA ⟨by have := hmono 0 (by omega); have := hmono i (by omega); (try have := hstep i (by omega)); (try simp only [List.length_append, List.length_cons, List.length_nil, zX]); omega, by intro y hy; simp at hy; subst hy; rfl⟩ ?_ | refine zA ⟨by (try simp only [List.length_append, List.length_cons, List.length_nil, zX]); omega, by intro y hy; simp at hy; subst hy; rfl⟩ ?_ | refine zA ⟨by simp <;> omega, rfl⟩ ?_ | refine zI (fun _ => ?_) (fun _ => ?_) | refine zG (fun _ => ?_) (fun _ => ?_) | (rw [zY]; intro _) | refine zA (by first | omega | exact rfl | decide) ?_ | refine yF (by omega) ?_ | refine yE (by omega) ?_ | refine zB (hL) ?_ | refine zD (ihT _ (List.getElem_mem (by omega)) _ _ _ (hk i (by omega)).1 (hk i (by omega)).2 (by have := hstep i (by omega); (try simp only [List.length_append, List.length_cons, List.length_nil, zX]); omega)) [] [0] rfl rfl rfl rfl rfl trivial ⟨row_eq (by simp <;> omega), trivial⟩ ?_ | refine ih _ (by omega) (trivial) (by refine ⟨?_, ?_, ?_⟩ <;> (repeat' (first | exact trivial | exact yM (by omega) | (show (_ : List (List DV)) = _; rw [formW_s (by omega) (by omega)]; simp [encS]) | exact pair_eq (by rw [formW_s (by omega) (by omega)]; simp) | exact rfl | exact Nat.le_of_ble_eq_true rfl | exact Or.inl rfl | apply And.intro))) | ((fail_if_success (have _h := ih)); refine LW.count t.kids.length (fun i => True) (fun i => ⟨[(44, .d (.int .i64 i)), (1, .rsl (xs ++ encS (formW t.names (t.kids.map wdN) i)) (.row 0)), (42, .d (.sl (t.kids.map cT))), (43, .d (.int .i64 t.kids.length)), (2, .ptr 0 0)], 1, [.var 0 [.d (.int .i64 t.sort), .d (.int .i64 t.num), .d (.str t.text), .d (.sl (encS t.names)), .d (.sl (t.kids.map cT))]], [((xs ++ encS (formW t.names (t.kids.map wdN) i)).length, 1)]⟩) (fun _ => ⟨rfl, rfl, rfl⟩) (fun i hi hI ih => ?_) (trivial) _ (by refine ⟨?_, ?_, ?_⟩ <;> (repeat' (first | exact trivial | (show (_ : List (List DV)) = _; simp [encS, formW]) | exact pair_eq (by simp [formW]) | exact rfl | exact Nat.le_of_ble_eq_true rfl | exact Or.inl rfl | apply And.intro)))) | fail)
    all_goals (conv => whnf)
    all_goals (have hi' : i = t.kids.length := by omega)
    all_goals (rw [← hi']; (refine yK ?_ ?_ ?_ ?_ <;> (repeat' (first | exact trivial | (show (_ : List (List DV)) = _; simp [encS]) | exact pair_eq (by simp <;> omega) | exact rfl | exact Nat.le_of_ble_eq_true rfl   | apply And.intro)); done))
  · cases t with
    | mk op num tx ns ks =>
      dsimp only [Nd.sort] at h1 h4 h24
      intro a d xs hok
      have hr := (okN_top hok).2.1
      change 1 ≤ op ∧ op ≤ 43 at hr
      by_cases b1 : op = 5 ∨ op = 6
      · exact k_words_B hf hL0 hR hI num tx ns ks ihT op b1 a d xs hok
      by_cases b2 : op = 37 ∨ op = 39
      · exact k_words_C hf hL0 hR hI num tx ns ks ihT op b2 a d xs hok
      by_cases c0 : op = 7 ∨ op = 8 ∨ op = 9 ∨ op = 10 ∨ op = 11 ∨ op = 12 ∨ op = 13 ∨ op = 14
      · exact k_words_A0 hf hL0 hR hI num tx ns ks ihT op c0 a d xs hok
      by_cases c1 : op = 15 ∨ op = 16 ∨ op = 17 ∨ op = 18 ∨ op = 19 ∨ op = 20 ∨ op = 21 ∨ op = 22
      · exact k_words_A1 hf hL0 hR hI num tx ns ks ihT op c1 a d xs hok
      by_cases c2 : op = 23 ∨ op = 25 ∨ op = 26 ∨ op = 27 ∨ op = 28 ∨ op = 29 ∨ op = 30 ∨ op = 31
      · exact k_words_A2 hf hL0 hR hI num tx ns ks ihT op c2 a d xs hok
      by_cases c3 : op = 32 ∨ op = 33 ∨ op = 34 ∨ op = 35 ∨ op = 36 ∨ op = 38 ∨ op = 40 ∨ op = 41
      · exact k_words_A3 hf hL0 hR hI num tx ns ks ihT op c3 a d xs hok
      · exact k_words_A4 hf hL0 hR hI num tx ns ks ihT op (by omega) a d xs hok
theorem CT.ghostA {L : Lk} {f : Nat} {x : AV} {v : AV} {bx2 : List Bx} {nb' : Nat} {rl2 : List (Nat × Nat)} (e : Nat) (he : Nat.ble 1 (esz e) = true) (h : CT L f [x, .rsl [] (.row 0)] 0 [] [(0, e)] v nb' bx2 rl2) : CT L f [x, .rsl [] .nil] 0 [] [] v nb' bx2 rl2 := by
  intro g w cargs hsh hcl hargs
  obtain ⟨h1, h2⟩ := Ab.ghost e (Nat.le_of_ble_eq_true he) hsh (bx' := []) trivial
  refine (h _ w cargs h2 hcl fun j x' y hx hy => ?_).mono ?_
  · match j with
    | 0 => cases hx; exact (hargs 0 _ y rfl hy).keep h1
    | 1 =>
      cases hx
      have := hargs 1 _ y rfl hy
      cases this with
      | rsl _ _ _ hd ht =>
        refine .rsl _ _ _ (hd.keep h1.mrk h1.cell) ⟨0, e, rfl, fun x hx => (by cases hx), Nat.le_refl _, fun _ => .inl ⟨ht, ?_⟩⟩
        have hl : g.rw.length = 0 := hsh.rwl
        rw [List.eq_nil_of_length_eq_zero hl]; rfl
    | j + 2 => simp at hx
  · rintro e' w' ⟨cv, g', rfl, s, sh', hv⟩
    exact ⟨cv, g', rfl, h1.trans s, sh', hv⟩
theorem k_textN {L : Lk} (hf : FnR L 104 c104) (hW : ∀ t : Nd, K_words L t) (hJ : ∀ l : List Str, (jn l).length ≤ 140737488355328 → CP L 177 [.d (.sl (encS l)), .d (.str [32])] (.d (.str (jn l)))) : K_textN L 104 := by
  intro t a d hok hs
  have hwl := wdN_len t a d hok
  have hsw := hs.wt
  have htl := txN_len t a d hok
  have hj := jn_wdN t a d hok
  have h1 : CT L 178 [aT t, .rsl [] .nil] 0 [] [] (.d (.sl (encS (wdN t)))) 0 [] [] := by
    refine CT.weak (n0 := 0) (v0 := .rsl ([] ++ encS (wdN t)) (.row 0)) (bx0 := []) (rl0 := [(([] ++ encS (wdN t)).length, 1)]) ?_ (by (refine yK ?_ ?_ ?_ ?_ <;> (repeat' (first | exact trivial | exact rfl    )); done)) (Nat.le_refl _) (Nat.zero_le _)
    exact CT.ghostA 1 rfl (hW t a d [] hok hs (by simp; omega))
  have h2 := hJ (wdN t) (by rw [← hj]; omega)
  rw [← hj] at h2
  refine CP.enter hf rfl rfl rfl ?_
  repeat' ((conv => whnf); first | refine zD h1 [] [] rfl rfl rfl rfl rfl trivial trivial ?_ | refine zB (h2) ?_ | fail)
  all_goals (conv => whnf)
  all_goals (refine yK ?_ ?_ ?_ ?_ <;> (repeat' (first | exact trivial | exact rfl    )); done)
end Go.Ab
