import Derived.Test.YtkablfpnjfbhfaaGreatDoorX16
import Derived.Test.YtkablfpnjfbhfaaGreatDoorX13
namespace Go.Ab
open Go
set_option maxHeartbeats 4000000
attribute [local irreducible] Need IdxK FinK NextK CKs CQs ltS
def K_wrK (L : Lk) (t : Nd) : Prop := ∀ (d : Int) (pv : AV) (s : Str), okK d t ∧ t.size ≤ 40 → bPv pv → s.length + 1000 * t.size ≤ 100000000000 →
  CT L 176 [aK t, .ptr 0 0] 1 [bBx pv s] [(s.length, 1000)] (.tup []) 1 [bBx (.ptr 0 0) (s ++ txK t)] [((s ++ txK t).length, 1000)]
theorem k_Kind_write {L : Lk} (hf : FnR L 176 c176) (hW : K_wS L) (hB : K_wB L) : ∀ t : Nd, K_wrK L t := by
  refine Nd.ind fun t ihT => ?_
  intro d pv s hd hp hl
  have hk : ∀ i (h : i < t.kids.length), (txK t.kids[i]).length + 10 ≤ 14 * t.kids[i].size := fun i hi => txK_len _ _ (okK_any hd.1 hi)
  have ha := (okK_top hd.1).2
  have hr : t.sort = 5 → Pf (t.names.length = t.kids.length ∧ rise t.names) := fun h5 => ⟨by unfold aloneK at ha; grind⟩
  have hks : ∀ i (h : i < t.kids.length), okK (d + 1) t.kids[i] ∧ t.kids[i].size ≤ 40 := fun i hi => by have := okK_kid hd hi; exact ⟨this.1, by omega⟩
  have hsz := t.size_eq
  have hA : Pf ((t.sort = 1 ∨ t.sort = 2 ∨ t.sort = 3 ∨ t.sort = 4 ∨ t.sort = 5 ∨ t.sort = 6) ∧ (t.sort = 4 ∨ t.sort = 6 → t.kids.length = 1) ∧ (t.sort = 5 → t.names.length = t.kids.length)) := ⟨by unfold aloneK at ha; grind⟩
  have hj : t.sort = 5 → ∀ i, i ≤ t.kids.length → (joinK true t.names (t.kids.map txK) i).length ≤ 14 * sizes (t.kids.take i) ∧ sizes (t.kids.take i) ≤ sizes t.kids := fun h5 i hi =>
    ⟨joinK_len (rise_len (hr h5).get.2) (hr h5).get.1 hk i hi, sizes_le _ _⟩
  have hn8 : t.sort = 5 → ∀ i (h : i < t.names.length), t.names[i].length ≤ 8 := fun h5 i hi => rise_len (hr h5).get.2 i hi hi
  have h5 : t.sort ≠ 1 → t.sort ≠ 2 → t.sort ≠ 3 → t.sort ≠ 4 → t.sort ≠ 6 → t.sort = 5 := fun _ _ _ _ _ => by have := hA.get; omega
  have e := txK_eq t
  have hkz : ∀ i (h : i < t.kids.length), t.kids[i].size + 1 ≤ t.size := fun i hi => by have := (okK_kid (m := t.size) ⟨hd.1, Nat.le_refl _⟩ hi).2; omega
  have hd2 := hd.2
  rcases hp with rfl | rfl
  · refine CT.enter hf rfl (Nat.le_refl _) (Nat.le_refl _) ?_
    repeat' ((conv => whnf); first | refine zD (ihT _ (List.getElem_mem (by have := hA.get.2.1; omega)) (d + 1) (.ptr 0 0) _ (hks 0 (by have := hA.get.2.1; omega)) (.inr rfl) (by have := hkz 0 (by have := hA.get.2.1; omega); (try simp only [List.length_append, List.length_cons, List.length_nil]); omega)) [0] [0] rfl rfl rfl rfl rfl ⟨rfl, trivial⟩ ⟨rfl, trivial⟩ ?_ | refine zD (ihT _ (List.getElem_mem (by omega)) (d + 1) (.ptr 0 0) _ (hks i (by omega)) (.inr rfl) (by have := hkz i (by omega); have := hj h5 i (by omega); have := hn8 h5 i (by have := hA.get.2.2 h5; omega); (try simp only [List.length_append, List.length_cons, List.length_nil]); omega)) [0] [0] rfl rfl rfl rfl rfl ⟨rfl, trivial⟩ ⟨rfl, trivial⟩ ?_ | refine yA (by have := hA.get.2.1; omega) ?_ | refine zA (by have := hn8 h5 i (by have := hA.get.2.2 h5; omega); simp only [List.length_cons, List.length_nil]; omega) ?_ | refine ih _ (by omega) trivial (by refine ⟨?_, ?_, ?_⟩ <;> (repeat' (first | exact trivial | exact yM (by omega) | (show (_ : List (List DV)) = _; rw [joinK_tp (by omega) (by have := hA.get.2.2 h5; omega) (by omega)]; simp) | (show (_ : List (List DV)) = _; rw [joinK_tz (by omega) (by have := hA.get.2.2 h5; omega) (by omega)]; simp) | (show (_, _) = (_, _); rw [joinK_tp (by omega) (by have := hA.get.2.2 h5; omega) (by omega)]; exact congrArg (fun x : Str => (x.length, 1000)) (by simp)) | (show (_, _) = (_, _); rw [joinK_tz (by omega) (by have := hA.get.2.2 h5; omega) (by omega)]; exact congrArg (fun x : Str => (x.length, 1000)) (by simp)) | exact rfl | exact Nat.le_of_ble_eq_true rfl | exact Or.inl rfl | exact Or.inr rfl | apply And.intro))) | refine zI (fun _ => ?_) (fun _ => ?_) | refine zG (fun _ => ?_) (fun _ => ?_) | (rw [zZ]; intro _) | refine zA (by first | omega | exact rfl | decide) ?_ | refine yG (by omega) ?_ | refine zD (hW (.d .nilp) _ _ (.inl rfl) (by (try simp only [List.length_append, List.length_cons, List.length_nil]); omega)) [0] [0] rfl rfl rfl rfl rfl ⟨rfl, trivial⟩ ⟨rfl, trivial⟩ ?_ | refine zD (hB (.d .nilp) _ 91 (.inl rfl) (by (try simp only [List.length_append, List.length_cons, List.length_nil]); omega)) [0] [0] rfl rfl rfl rfl rfl ⟨rfl, trivial⟩ ⟨rfl, trivial⟩ ?_ | refine zD (hB (.d .nilp) _ 63 (.inl rfl) (by (try simp only [List.length_append, List.length_cons, List.length_nil]); omega)) [0] [0] rfl rfl rfl rfl rfl ⟨rfl, trivial⟩ ⟨rfl, trivial⟩ ?_ | refine zD (hB (.d .nilp) _ 123 (.inl rfl) (by (try simp only [List.length_append, List.length_cons, List.length_nil]); omega)) [0] [0] rfl rfl rfl rfl rfl ⟨rfl, trivial⟩ ⟨rfl, trivial⟩ ?_ | refine zD (hW (.ptr 0 0) _ _ (.inr rfl) (by have := hj h5 i (by omega); have := hn8 h5 i (by have := hA.get.2.2 h5; omega); (try simp only [List.length_append, List.length_cons, List.length_nil]); omega)) [0] [0] rfl rfl rfl rfl rfl ⟨rfl, trivial⟩ ⟨rfl, trivial⟩ ?_ | refine zD (hB (.ptr 0 0) _ 44 (.inr rfl) (by have := hj h5 i (by omega); (try simp only [List.length_append, List.length_cons, List.length_nil]); omega)) [0] [0] rfl rfl rfl rfl rfl ⟨rfl, trivial⟩ ⟨rfl, trivial⟩ ?_ | refine zD (hB (.ptr 0 0) _ 125 (.inr rfl) (by have := hj h5 i (by omega); (try simp only [List.length_append, List.length_cons, List.length_nil]); omega)) [0] [0] rfl rfl rfl rfl rfl ⟨rfl, trivial⟩ ⟨rfl, trivial⟩ ?_ | refine yE (by have := hA.get.2.2 h5; omega) ?_ | refine zD (hB (.ptr 0 0) _ 93 (.inr rfl) (by have h0 := hA.get.2.1 (by omega); have := hk 0 (by omega); have := hks 0 (by omega); (try simp only [List.length_append, List.length_cons, List.length_nil]); omega)) [0] [0] rfl rfl rfl rfl rfl ⟨rfl, trivial⟩ ⟨rfl, trivial⟩ ?_ | ((fail_if_success (have _h := ih)); (have h5 := h5 (by assumption) (by assumption) (by assumption) (by assumption) (by assumption)); refine LW.count t.kids.length (fun i => True) (fun i => ⟨[(13, .d (.int .i64 i)), (12, .d (.int .i64 t.kids.length)), (11, .d (.sl (t.kids.map cK))), (1, .ptr 0 0), (2, .ptr 1 0)], 2, [bBx (.ptr 0 0) (s ++ [123] ++ joinK true t.names (t.kids.map txK) i), .var 0 [.d (.int .i64 t.sort), .d (.sl (encS t.names)), .d (.sl (t.kids.map cK))]], [((s ++ [123] ++ joinK true t.names (t.kids.map txK) i).length, 1000)]⟩) (fun _ => ⟨rfl, rfl, rfl⟩) (fun i hi hI ih => ?_) trivial _ (by refine ⟨?_, ?_, ?_⟩ <;> (repeat' (first | exact trivial | (show (_ : List (List DV)) = _; simp [joinK]) | (show (_, _) = (_, _); simp [joinK]) | exact rfl | exact Nat.le_of_ble_eq_true rfl | exact Or.inl rfl | exact Or.inr rfl | apply And.intro)))) | fail)
    all_goals (conv => whnf)
    all_goals try first
      | (rw [e, if_pos (by assumption)]; (refine yK ?_ ?_ ?_ ?_ <;> (repeat' (first | exact trivial | (show (_ : List (List DV)) = _; simp) | (show (_, _) = (_, _); simp) | exact rfl | exact Nat.le_of_ble_eq_true rfl  | exact Or.inr rfl | apply And.intro)); done))
      | (rw [e, if_neg (by assumption), if_pos (by assumption)]; (refine yK ?_ ?_ ?_ ?_ <;> (repeat' (first | exact trivial | (show (_ : List (List DV)) = _; simp) | (show (_, _) = (_, _); simp) | exact rfl | exact Nat.le_of_ble_eq_true rfl  | exact Or.inr rfl | apply And.intro)); done))
      | (rw [e, if_neg (by assumption), if_neg (by assumption), if_pos (by assumption)]; (refine yK ?_ ?_ ?_ ?_ <;> (repeat' (first | exact trivial | (show (_ : List (List DV)) = _; simp) | (show (_, _) = (_, _); simp) | exact rfl | exact Nat.le_of_ble_eq_true rfl  | exact Or.inr rfl | apply And.intro)); done))
      | (rw [e, if_neg (by assumption), if_neg (by assumption), if_neg (by assumption), if_pos (by assumption), headD_map (by have := hA.get.2.1; omega)]; (refine yK ?_ ?_ ?_ ?_ <;> (repeat' (first | exact trivial | (show (_ : List (List DV)) = _; simp) | (show (_, _) = (_, _); simp) | exact rfl | exact Nat.le_of_ble_eq_true rfl  | exact Or.inr rfl | apply And.intro)); done))
      | (rw [e, if_neg (by assumption), if_neg (by assumption), if_neg (by assumption), if_neg (by assumption), if_pos (by assumption), headD_map (by have := hA.get.2.1; omega)]; (refine yK ?_ ?_ ?_ ?_ <;> (repeat' (first | exact trivial | (show (_ : List (List DV)) = _; simp) | (show (_, _) = (_, _); simp) | exact rfl | exact Nat.le_of_ble_eq_true rfl  | exact Or.inr rfl | apply And.intro)); done))
      | (rw [e, if_neg (by assumption), if_neg (by assumption), if_neg (by assumption), if_neg (by assumption), if_neg (by assumption), show t.kids.length = i by omega]; (refine yK ?_ ?_ ?_ ?_ <;> (repeat' (first | exact trivial | (show (_ : List (List DV)) = _; simp) | (show (_, _) = (_, _); simp) | exact rfl | exact Nat.le_of_ble_eq_true rfl  | exact Or.inr rfl | apply And.intro)); done))
  · refine CT.enter hf rfl (Nat.le_refl _) (Nat.le_refl _) ?_
    repeat' ((conv => whnf); first | refine zD (ihT _ (List.getElem_mem (by have := hA.get.2.1; omega)) (d + 1) (.ptr 0 0) _ (hks 0 (by have := hA.get.2.1; omega)) (.inr rfl) (by have := hkz 0 (by have := hA.get.2.1; omega); (try simp only [List.length_append, List.length_cons, List.length_nil]); omega)) [0] [0] rfl rfl rfl rfl rfl ⟨rfl, trivial⟩ ⟨rfl, trivial⟩ ?_ | refine zD (ihT _ (List.getElem_mem (by omega)) (d + 1) (.ptr 0 0) _ (hks i (by omega)) (.inr rfl) (by have := hkz i (by omega); have := hj h5 i (by omega); have := hn8 h5 i (by have := hA.get.2.2 h5; omega); (try simp only [List.length_append, List.length_cons, List.length_nil]); omega)) [0] [0] rfl rfl rfl rfl rfl ⟨rfl, trivial⟩ ⟨rfl, trivial⟩ ?_ | refine yA (by have := hA.get.2.1; omega) ?_ | refine zA (by have := hn8 h5 i (by have := hA.get.2.2 h5; omega); simp only [List.length_cons, List.length_nil]; omega) ?_ | refine ih _ (by omega) trivial (by refine ⟨?_, ?_, ?_⟩ <;> (repeat' (first | exact trivial | exact yM (by omega) | (show (_ : List (List DV)) = _; rw [joinK_tp (by omega) (by have := hA.get.2.2 h5; omega) (by omega)]; simp) | (show (_ : List (List DV)) = _; rw [joinK_tz (by omega) (by have := hA.get.2.2 h5; omega) (by omega)]; simp) | (show (_, _) = (_, _); rw [joinK_tp (by omega) (by have := hA.get.2.2 h5; omega) (by omega)]; exact congrArg (fun x : Str => (x.length, 1000)) (by simp)) | (show (_, _) = (_, _); rw [joinK_tz (by omega) (by have := hA.get.2.2 h5; omega) (by omega)]; exact congrArg (fun x : Str => (x.length, 1000)) (by simp)) | exact rfl | exact Nat.le_of_ble_eq_true rfl | exact Or.inl rfl | exact Or.inr rfl | apply And.intro))) | refine zI (fun _ => ?_) (fun _ => ?_) | refine zG (fun _ => ?_) (fun _ => ?_) | (rw [zZ]; intro _) | refine zA (by first | omega | exact rfl | decide) ?_ | refine yG (by omega) ?_ | refine zD (hW (.ptr 0 0) _ _ (.inr rfl) (by (try simp only [List.length_append, List.length_cons, List.length_nil]); omega)) [0] [0] rfl rfl rfl rfl rfl ⟨rfl, trivial⟩ ⟨rfl, trivial⟩ ?_ | refine zD (hB (.ptr 0 0) _ 91 (.inr rfl) (by (try simp only [List.length_append, List.length_cons, List.length_nil]); omega)) [0] [0] rfl rfl rfl rfl rfl ⟨rfl, trivial⟩ ⟨rfl, trivial⟩ ?_ | refine zD (hB (.ptr 0 0) _ 63 (.inr rfl) (by (try simp only [List.length_append, List.length_cons, List.length_nil]); omega)) [0] [0] rfl rfl rfl rfl rfl ⟨rfl, trivial⟩ ⟨rfl, trivial⟩ ?_ | refine zD (hB (.ptr 0 0) _ 123 (.inr rfl) (by (try simp only [List.length_append, List.length_cons, List.length_nil]); omega)) [0] [0] rfl rfl rfl rfl rfl ⟨rfl, trivial⟩ ⟨rfl, trivial⟩ ?_ | refine zD (hW (.ptr 0 0) _ _ (.inr rfl) (by have := hj h5 i (by omega); have := hn8 h5 i (by have := hA.get.2.2 h5; omega); (try simp only [List.length_append, List.length_cons, List.length_nil]); omega)) [0] [0] rfl rfl rfl rfl rfl ⟨rfl, trivial⟩ ⟨rfl, trivial⟩ ?_ | refine zD (hB (.ptr 0 0) _ 44 (.inr rfl) (by have := hj h5 i (by omega); (try simp only [List.length_append, List.length_cons, List.length_nil]); omega)) [0] [0] rfl rfl rfl rfl rfl ⟨rfl, trivial⟩ ⟨rfl, trivial⟩ ?_ | refine zD (hB (.ptr 0 0) _ 125 (.inr rfl) (by have := hj h5 i (by omega); (try simp only [List.length_append, List.length_cons, List.length_nil]); omega)) [0] [0] rfl rfl rfl rfl rfl ⟨rfl, trivial⟩ ⟨rfl, trivial⟩ ?_ | refine yE (by have := hA.get.2.2 h5; omega) ?_ | refine zD (hB (.ptr 0 0) _ 93 (.inr rfl) (by have h0 := hA.get.2.1 (by omega); have := hk 0 (by omega); have := hks 0 (by omega); (try simp only [List.length_append, List.length_cons, List.length_nil]); omega)) [0] [0] rfl rfl rfl rfl rfl ⟨rfl, trivial⟩ ⟨rfl, trivial⟩ ?_ | ((fail_if_success (have _h := ih)); (have h5 := h5 (by assumption) (by assumption) (by assumption) (by assumption) (by assumption)); refine LW.count t.kids.length (fun i => True) (fun i => ⟨[(13, .d (.int .i64 i)), (12, .d (.int .i64 t.kids.length)), (11, .d (.sl (t.kids.map cK))), (1, .ptr 0 0), (2, .ptr 1 0)], 2, [bBx (.ptr 0 0) (s ++ [123] ++ joinK true t.names (t.kids.map txK) i), .var 0 [.d (.int .i64 t.sort), .d (.sl (encS t.names)), .d (.sl (t.kids.map cK))]], [((s ++ [123] ++ joinK true t.names (t.kids.map txK) i).length, 1000)]⟩) (fun _ => ⟨rfl, rfl, rfl⟩) (fun i hi hI ih => ?_) trivial _ (by refine ⟨?_, ?_, ?_⟩ <;> (repeat' (first | exact trivial | (show (_ : List (List DV)) = _; simp [joinK]) | (show (_, _) = (_, _); simp [joinK]) | exact rfl | exact Nat.le_of_ble_eq_true rfl | exact Or.inl rfl | exact Or.inr rfl | apply And.intro)))) | fail)
    all_goals (conv => whnf)
    all_goals try first
      | (rw [e, if_pos (by assumption)]; (refine yK ?_ ?_ ?_ ?_ <;> (repeat' (first | exact trivial | (show (_ : List (List DV)) = _; simp) | (show (_, _) = (_, _); simp) | exact rfl | exact Nat.le_of_ble_eq_true rfl  | exact Or.inr rfl | apply And.intro)); done))
      | (rw [e, if_neg (by assumption), if_pos (by assumption)]; (refine yK ?_ ?_ ?_ ?_ <;> (repeat' (first | exact trivial | (show (_ : List (List DV)) = _; simp) | (show (_, _) = (_, _); simp) | exact rfl | exact Nat.le_of_ble_eq_true rfl  | exact Or.inr rfl | apply And.intro)); done))
      | (rw [e, if_neg (by assumption), if_neg (by assumption), if_pos (by assumption)]; (refine yK ?_ ?_ ?_ ?_ <;> (repeat' (first | exact trivial | (show (_ : List (List DV)) = _; simp) | (show (_, _) = (_, _); simp) | exact rfl | exact Nat.le_of_ble_eq_true rfl  | exact Or.inr rfl | apply And.intro)); done))
      | (rw [e, if_neg (by assumption), if_neg (by assumption), if_neg (by assumption), if_pos (by assumption), headD_map (by have := hA.get.2.1; omega)]; (refine yK ?_ ?_ ?_ ?_ <;> (repeat' (first | exact trivial | (show (_ : List (List DV)) = _; simp) | (show (_, _) = (_, _); simp) | exact rfl | exact Nat.le_of_ble_eq_true rfl  | exact Or.inr rfl | apply And.intro)); done))
      | (rw [e, if_neg (by assumption), if_neg (by assumption), if_neg (by assumption), if_neg (by assumption), if_pos (by assumption), headD_map (by have := hA.get.2.1; omega)]; (refine yK ?_ ?_ ?_ ?_ <;> (repeat' (first | exact trivial | (show (_ : List (List DV)) = _; simp) | (show (_, _) = (_, _); simp) | exact rfl | exact Nat.le_of_ble_eq_true rfl  | exact Or.inr rfl | apply And.intro)); done))
      | (rw [e, if_neg (by assumption), if_neg (by assumption), if_neg (by assumption), if_neg (by assumption), if_neg (by assumption), show t.kids.length = i by omega]; (refine yK ?_ ?_ ?_ ?_ <;> (repeat' (first | exact trivial | (show (_ : List (List DV)) = _; simp) | (show (_, _) = (_, _); simp) | exact rfl | exact Nat.le_of_ble_eq_true rfl  | exact Or.inr rfl | apply And.intro)); done))
theorem CKs.ghost {L : Lk} {f : Nat} {args : List AV} {nb : Nat} {bx bx' : List Bx} {rl : List (Nat × Nat)} {K : AV → Nat → List Bx → List (Nat × Nat) → Prop} (e : Nat) (he : Nat.ble 1 (esz e) = true)
    (hb : ghBs rl.length bx bx') (h : CKs L f args nb bx' (rl ++ [(0, e)]) K) : CKs L f args nb bx rl K := by
  unfold CKs at h ⊢
  obtain ⟨v, nb', bx2, rl2, h1, h2⟩ := h
  exact ⟨v, nb', bx2, rl2, CT.ghost e he hb h1, h2⟩
theorem k_Kind_text {L : Lk} (hf : FnR L 103 c103) (hW : ∀ t : Nd, K_wrK L t) (hS : K_bStr L) : K_textK L 103 := by
  intro t d hd
  have hl := txK_len t d hd.1
  have hs := hd.2
  have h0 := hW t d (.d .nilp) [] hd (.inl rfl) (by simp; omega)
  refine CP.enter hf rfl rfl rfl ?_
  repeat' ((conv => whnf); first | refine zI (fun _ => ?_) (fun _ => ?_) | refine zM (fun _ => ?_) (fun _ => ?_) | refine zG (fun _ => ?_) (fun _ => ?_) | refine zF (fun _ => ?_) (fun _ => ?_) | refine zO (fun _ => ?_) (fun _ => ?_) | refine zH ?_ | refine zK ?_ | refine zL ?_ | refine zQ (fun _ => ?_) (fun _ _ => ?_) | refine zJ (fun _ => ?_) (fun _ => ?_) | (rw [zY]; intro _) | (rw [zZ]; intro _) | (rw [zX]; intro _) | intro _ | refine zA (by first | omega | exact rfl | decide) ?_ | refine yC (by omega) ?_ | refine yA (by omega) ?_ | refine yB (by omega) ?_ | refine yF (by omega) ?_ | refine yG (by omega) ?_ | refine yE (by omega) ?_ | refine yD (by omega) (by omega) (by omega) ?_ | refine yH (by omega) ?_ | refine yI (by omega) ?_ | fail)
  all_goals (conv => whnf)
  refine CKs.ghost (bx' := [.var 0 [.d (.int .i64 t.sort), .d (.sl (encS t.names)), .d (.sl (t.kids.map cK))], bBx (.d .nilp) []]) 1000 rfl ⟨⟨rfl, .inl rfl, .inl rfl, .inl rfl, trivial⟩, ⟨rfl, .inl rfl, .inr ⟨rfl, rfl⟩, trivial⟩, trivial⟩ ?_
  refine zD h0 [1] [0] rfl rfl rfl rfl rfl ⟨rfl, trivial⟩ ⟨rfl, trivial⟩ ?_
  repeat' ((conv => whnf); first | refine zD (hS (.ptr 0 0) ([] ++ txK t) (.inr rfl) (by simp; omega)) [1] [0] rfl rfl rfl rfl rfl ⟨rfl, trivial⟩ ⟨rfl, trivial⟩ ?_ | fail)
  all_goals (conv => whnf)
  all_goals try exact yJ rfl
end Go.Ab
namespace Go.Ab
open Go
set_option maxHeartbeats 4000000
attribute [local irreducible] Need IdxK FinK NextK CKs CQs ltS
def K_wrT1 (L : Lk) (t : Nd) : Prop := ∀ (d : Int) (pv : AV) (s : Str), okT d t ∧ t.size ≤ 120 → bPv pv → s.length + 10000 * t.size ≤ 100000000000 →
  CT L 249 [aT t, .ptr 0 0] 1 [bBx pv s] [(s.length, 1000)] (.tup []) 1 [bBx (.ptr 0 0) (s ++ txT t)] [((s ++ txT t).length, 1000)]
theorem k_writeKids {L : Lk} (hf : FnR L 319 c319) (hW : K_wS L) (hB : K_wB L) (t : Nd) (hT : ∀ i (h : i < t.kids.length), K_wrT1 L t.kids[i]) (b : Bool) : ∀ (d : Int) (s : Str), okT d t ∧ t.size ≤ 120 → t.sort = (if b = true then 5 else 4) → s.length + 10000 * t.size ≤ 100000000001 →
    CT L 319 [aT t, .ptr 0 0] 1 [bBx (.ptr 0 0) s] [(s.length, 1000)] (.tup []) 1 [bBx (.ptr 0 0) (s ++ joinK b t.names (t.kids.map txT) t.kids.length)] [((s ++ joinK b t.names (t.kids.map txT) t.kids.length).length, 1000)] := by
  intro d s hd hsort hl
  have hk : ∀ i (h : i < t.kids.length), (txT t.kids[i]).length + 10 ≤ 72 * t.kids[i].size := fun i hi => txT_len _ _ (okT_any hd.1 hi)
  have ha := shT hd.1
  have hks : ∀ i (h : i < t.kids.length), okT (d + 1) t.kids[i] ∧ t.kids[i].size ≤ 120 := fun i hi => by have := okT_kid hd hi; exact ⟨this.1, by omega⟩
  have hkz : ∀ i (h : i < t.kids.length), t.kids[i].size + 1 ≤ t.size := fun i hi => by have := (okT_kid (m := t.size) ⟨hd.1, Nat.le_refl _⟩ hi).2; omega
  have hsz := t.size_eq
  have hd2 := hd.2
  cases b
  · have h4 : ¬ t.sort = 5 := by simp at hsort; omega
    have hj : ∀ i, i ≤ t.kids.length → (joinK false t.names (t.kids.map txT) i).length ≤ 72 * sizes (t.kids.take i) ∧ sizes (t.kids.take i) ≤ sizes t.kids := fun i hi => ⟨joinK_lenF (ns := t.names) hk i hi, sizes_le _ _⟩
    refine CT.enter hf rfl (Nat.le_refl _) (Nat.le_refl _) ?_
    repeat' ((conv => whnf); first | (exact absurd (by assumption) h4) | refine zD (hT i (by omega) (d + 1) (.ptr 0 0) _ (hks i (by omega)) (.inr rfl) (by have := hkz i (by omega); have := hj i (by omega); (try simp only [List.length_append, List.length_cons, List.length_nil]); omega)) [0] [0] rfl rfl rfl rfl rfl ⟨rfl, trivial⟩ ⟨rfl, trivial⟩ ?_ | refine ih _ (by omega) trivial (by refine ⟨?_, ?_, ?_⟩ <;> (repeat' (first | exact trivial | exact yM (by omega) | (show (_ : List (List DV)) = _; rw [joinK_fp (by omega) (by omega)]; simp) | (show (_ : List (List DV)) = _; rw [joinK_fz (by omega) (by omega)]; simp) | (show (_, _) = (_, _); rw [joinK_fp (by omega) (by omega)]; exact congrArg (fun x : Str => (x.length, 1000)) (by simp)) | (show (_, _) = (_, _); rw [joinK_fz (by omega) (by omega)]; exact congrArg (fun x : Str => (x.length, 1000)) (by simp)) | exact rfl | exact Nat.le_of_ble_eq_true rfl | exact Or.inl rfl | exact Or.inr rfl | apply And.intro))) | refine zI (fun _ => ?_) (fun _ => ?_) | refine zG (fun _ => ?_) (fun _ => ?_) | (rw [zY]; intro _) | refine zA (by first | omega | exact rfl | decide) ?_ | refine yF (by omega) ?_ | refine zD (hB (.ptr 0 0) _ 44 (.inr rfl) (by have := hj i (by omega); (try simp only [List.length_append]); omega)) [0] [0] rfl rfl rfl rfl rfl ⟨rfl, trivial⟩ ⟨rfl, trivial⟩ ?_ | ((fail_if_success (have _h := ih)); refine LW.count t.kids.length (fun i => True) (fun i => ⟨[(9, .d (.int .i64 i)), (8, .d (.int .i64 t.kids.length)), (7, .d (.sl (t.kids.map cT))), (1, .ptr 0 0), (2, .ptr 1 0)], 2, [bBx (.ptr 0 0) (s ++ joinK false t.names (t.kids.map txT) i), .var 0 [.d (.int .i64 t.sort), .d (.int .i64 t.num), .d (.str t.text), .d (.sl (encS t.names)), .d (.sl (t.kids.map cT))]], [((s ++ joinK false t.names (t.kids.map txT) i).length, 1000)]⟩) (fun _ => ⟨rfl, rfl, rfl⟩) (fun i hi hI ih => ?_) trivial _ (by refine ⟨?_, ?_, ?_⟩ <;> (repeat' (first | exact trivial | (show (_ : List (List DV)) = _; simp [joinK]) | (show (_, _) = (_, _); simp [joinK]) | exact rfl | exact Nat.le_of_ble_eq_true rfl | exact Or.inl rfl | exact Or.inr rfl | apply And.intro)))) | fail)
    all_goals (conv => whnf)
    all_goals try first
      | (rw [show t.kids.length = i by omega]; (refine yK ?_ ?_ ?_ ?_ <;> (repeat' (first | exact trivial | exact rfl | exact Nat.le_of_ble_eq_true rfl  | exact Or.inr rfl | apply And.intro)); done))
  · have h5 : t.sort = 5 := by simpa using hsort
    have hnl := (ha.form h5).1
    have hj : ∀ i, i ≤ t.kids.length → (joinK true t.names (t.kids.map txT) i).length ≤ 72 * sizes (t.kids.take i) ∧ sizes (t.kids.take i) ≤ sizes t.kids := fun i hi => ⟨joinK_len (ha.form h5).2 (ha.form h5).1 hk i hi, sizes_le _ _⟩
    have hn8 : ∀ i (h : i < t.names.length), t.names[i].length ≤ 8 := fun i hi => (ha.form h5).2 i hi hi
    refine CT.enter hf rfl (Nat.le_refl _) (Nat.le_refl _) ?_
    repeat' ((conv => whnf); first | (exact absurd h5 (by assumption)) | refine zA (by have := hn8 i (by omega); (try simp only [List.length_cons, List.length_nil]); omega) ?_ | refine zD (hT i (by omega) (d + 1) (.ptr 0 0) _ (hks i (by omega)) (.inr rfl) (by have := hkz i (by omega); have := hj i (by omega); have := hn8 i (by omega); (try simp only [List.length_append, List.length_cons, List.length_nil]); omega)) [0] [0] rfl rfl rfl rfl rfl ⟨rfl, trivial⟩ ⟨rfl, trivial⟩ ?_ | refine ih _ (by omega) trivial (by refine ⟨?_, ?_, ?_⟩ <;> (repeat' (first | exact trivial | exact yM (by omega) | (show (_ : List (List DV)) = _; rw [joinK_tp (by omega) (by omega) (by omega)]; simp) | (show (_ : List (List DV)) = _; rw [joinK_tz (by omega) (by omega) (by omega)]; simp) | (show (_, _) = (_, _); rw [joinK_tp (by omega) (by omega) (by omega)]; exact congrArg (fun x : Str => (x.length, 1000)) (by simp)) | (show (_, _) = (_, _); rw [joinK_tz (by omega) (by omega) (by omega)]; exact congrArg (fun x : Str => (x.length, 1000)) (by simp)) | exact rfl | exact Nat.le_of_ble_eq_true rfl | exact Or.inl rfl | exact Or.inr rfl | apply And.intro))) | refine zI (fun _ => ?_) (fun _ => ?_) | refine zG (fun _ => ?_) (fun _ => ?_) | (rw [zY]; intro _) | refine zA (by first | omega | exact rfl | decide) ?_ | refine yF (by omega) ?_ | refine yE (by omega) ?_ | refine zD (hB (.ptr 0 0) _ 44 (.inr rfl) (by have := hj i (by omega); (try simp only [List.length_append]); omega)) [0] [0] rfl rfl rfl rfl rfl ⟨rfl, trivial⟩ ⟨rfl, trivial⟩ ?_ | refine zD (hW (.ptr 0 0) _ _ (.inr rfl) (by have := hj i (by omega); have := hn8 i (by omega); (try simp only [List.length_append, List.length_cons, List.length_nil]); omega)) [0] [0] rfl rfl rfl rfl rfl ⟨rfl, trivial⟩ ⟨rfl, trivial⟩ ?_ | ((fail_if_success (have _h := ih)); refine LW.count t.kids.length (fun i => True) (fun i => ⟨[(9, .d (.int .i64 i)), (8, .d (.int .i64 t.kids.length)), (7, .d (.sl (t.kids.map cT))), (1, .ptr 0 0), (2, .ptr 1 0)], 2, [bBx (.ptr 0 0) (s ++ joinK true t.names (t.kids.map txT) i), .var 0 [.d (.int .i64 t.sort), .d (.int .i64 t.num), .d (.str t.text), .d (.sl (encS t.names)), .d (.sl (t.kids.map cT))]], [((s ++ joinK true t.names (t.kids.map txT) i).length, 1000)]⟩) (fun _ => ⟨rfl, rfl, rfl⟩) (fun i hi hI ih => ?_) trivial _ (by refine ⟨?_, ?_, ?_⟩ <;> (repeat' (first | exact trivial | (show (_ : List (List DV)) = _; simp [joinK]) | (show (_, _) = (_, _); simp [joinK]) | exact rfl | exact Nat.le_of_ble_eq_true rfl | exact Or.inl rfl | exact Or.inr rfl | apply And.intro)))) | fail)
    all_goals (conv => whnf)
    all_goals try first
      | (rw [show t.kids.length = i by omega]; (refine yK ?_ ?_ ?_ ?_ <;> (repeat' (first | exact trivial | exact rfl | exact Nat.le_of_ble_eq_true rfl  | exact Or.inr rfl | apply And.intro)); done))
theorem idx_1 {α : Type} {x y : α} {xs : List α} {K : α → Prop} (k : K y) : IdxK (x :: y :: xs) 1 K := by unfold IdxK; exact ⟨y, by omega, rfl, k⟩
theorem k_Tree_write {L : Lk} (hf : FnR L 249 c249) (hW : K_wS L) (hB : K_wB L) (hIt : ∀ n : Int, inR .i64 n → CP L 174 [.d (.int .i64 n)] (.d (.str (dec n))))
    (hKids : ∀ t : Nd, (∀ i (h : i < t.kids.length), K_wrT1 L t.kids[i]) → ∀ (b : Bool) (d : Int) (s : Str), okT d t ∧ t.size ≤ 120 → t.sort = (if b = true then 5 else 4) → s.length + 10000 * t.size ≤ 100000000001 →
      CT L 319 [aT t, .ptr 0 0] 1 [bBx (.ptr 0 0) s] [(s.length, 1000)] (.tup []) 1 [bBx (.ptr 0 0) (s ++ joinK b t.names (t.kids.map txT) t.kids.length)] [((s ++ joinK b t.names (t.kids.map txT) t.kids.length).length, 1000)]) : ∀ t : Nd, K_wrT1 L t := by
  refine Nd.ind fun t ihT => ?_
  intro d pv s hd hp hl
  have hT : ∀ i (h : i < t.kids.length), K_wrT1 L t.kids[i] := fun i h => ihT _ (List.getElem_mem h)
  have hkd := hKids t hT
  have ha := shT hd.1
  have hks : ∀ i (h : i < t.kids.length), okT (d + 1) t.kids[i] ∧ t.kids[i].size ≤ 120 := fun i hi => by have := okT_kid hd hi; exact ⟨this.1, by omega⟩
  have hkz : ∀ i (h : i < t.kids.length), t.kids[i].size + 1 ≤ t.size := fun i hi => by have := (okT_kid (m := t.size) ⟨hd.1, Nat.le_refl _⟩ hi).2; omega
  have hk : ∀ i (h : i < t.kids.length), (txT t.kids[i]).length + 10 ≤ 72 * t.kids[i].size := fun i hi => txT_len _ _ (okT_any hd.1 hi)
  have htl := txT_len t d hd.1
  have hd2 := hd.2
  have hflag : t.sort = 3 → t.num = 0 ∨ t.num = 1 := fun h => by have := (okT_top hd.1).2; unfold aloneT at this; omega
  have ee := txT_eq t
  rcases ha.any with hs | hs | hs | hs | hs | hs
  · have e : txT t = dec t.num := by rw [ee]; simp [hs]
    have h1 := dec_len (ha.num hs)
    rcases hp with rfl | rfl
    · refine CT.enter hf rfl (Nat.le_refl _) (Nat.le_refl _) ?_
      repeat' ((conv => whnf); first | (exfalso; omega) | refine zG (fun _ => ?_) (fun _ => ?_) | refine zB (hIt _ (ha.num hs)) ?_ | refine zD (hW (.d .nilp) _ _ (.inl rfl) (by (try simp only [List.length_append, List.length_cons, List.length_nil]); omega)) [0] [0] rfl rfl rfl rfl rfl ⟨rfl, trivial⟩ ⟨rfl, trivial⟩ ?_ | fail)
      all_goals (conv => whnf)
      all_goals try first
        | (rw [e]; (refine yK ?_ ?_ ?_ ?_ <;> (repeat' (first | exact trivial | (show (_ : List (List DV)) = _; simp) | (show (_, _) = (_, _); exact congrArg (fun x : Str => (x.length, 1000)) (by simp)) | exact rfl | exact Nat.le_of_ble_eq_true rfl  | exact Or.inr rfl | apply And.intro)); done))
        | (exfalso; omega)
    · refine CT.enter hf rfl (Nat.le_refl _) (Nat.le_refl _) ?_
      repeat' ((conv => whnf); first | (exfalso; omega) | refine zG (fun _ => ?_) (fun _ => ?_) | refine zB (hIt _ (ha.num hs)) ?_ | refine zD (hW (.ptr 0 0) _ _ (.inr rfl) (by (try simp only [List.length_append, List.length_cons, List.length_nil]); omega)) [0] [0] rfl rfl rfl rfl rfl ⟨rfl, trivial⟩ ⟨rfl, trivial⟩ ?_ | fail)
      all_goals (conv => whnf)
      all_goals try first
        | (rw [e]; (refine yK ?_ ?_ ?_ ?_ <;> (repeat' (first | exact trivial | (show (_ : List (List DV)) = _; simp) | (show (_, _) = (_, _); exact congrArg (fun x : Str => (x.length, 1000)) (by simp)) | exact rfl | exact Nat.le_of_ble_eq_true rfl  | exact Or.inr rfl | apply And.intro)); done))
        | (exfalso; omega)
  · have e : txT t = [34] ++ t.text ++ [34] := by rw [ee]; simp [hs]
    have h1 := ha.text hs
    rcases hp with rfl | rfl
    · refine CT.enter hf rfl (Nat.le_refl _) (Nat.le_refl _) ?_
      repeat' ((conv => whnf); first | (exfalso; omega) | refine zA (by (try simp only [List.length_append, List.length_cons, List.length_nil]); omega) ?_ | refine zG (fun _ => ?_) (fun _ => ?_) | refine zD (hW (.d .nilp) _ _ (.inl rfl) (by (try simp only [List.length_append, List.length_cons, List.length_nil]); omega)) [0] [0] rfl rfl rfl rfl rfl ⟨rfl, trivial⟩ ⟨rfl, trivial⟩ ?_ | fail)
      all_goals (conv => whnf)
      all_goals try first
        | (rw [e]; (refine yK ?_ ?_ ?_ ?_ <;> (repeat' (first | exact trivial | (show (_ : List (List DV)) = _; simp) | (show (_, _) = (_, _); exact congrArg (fun x : Str => (x.length, 1000)) (by simp)) | exact rfl | exact Nat.le_of_ble_eq_true rfl  | exact Or.inr rfl | apply And.intro)); done))
        | (exfalso; omega)
    · refine CT.enter hf rfl (Nat.le_refl _) (Nat.le_refl _) ?_
      repeat' ((conv => whnf); first | (exfalso; omega) | refine zA (by (try simp only [List.length_append, List.length_cons, List.length_nil]); omega) ?_ | refine zG (fun _ => ?_) (fun _ => ?_) | refine zD (hW (.ptr 0 0) _ _ (.inr rfl) (by (try simp only [List.length_append, List.length_cons, List.length_nil]); omega)) [0] [0] rfl rfl rfl rfl rfl ⟨rfl, trivial⟩ ⟨rfl, trivial⟩ ?_ | fail)
      all_goals (conv => whnf)
      all_goals try first
        | (rw [e]; (refine yK ?_ ?_ ?_ ?_ <;> (repeat' (first | exact trivial | (show (_ : List (List DV)) = _; simp) | (show (_, _) = (_, _); exact congrArg (fun x : Str => (x.length, 1000)) (by simp)) | exact rfl | exact Nat.le_of_ble_eq_true rfl  | exact Or.inr rfl | apply And.intro)); done))
        | (exfalso; omega)
  · rcases hflag hs with hn | hn
    · have e : txT t = [110, 111] := by rw [ee]; simp [hs, hn]
      rcases hp with rfl | rfl
      · refine CT.enter hf rfl (Nat.le_refl _) (Nat.le_refl _) ?_
        repeat' ((conv => whnf); first | (exfalso; omega) | (rw [hn]) | refine zG (fun _ => ?_) (fun _ => ?_) | refine idx_z ?_ | refine zD (hW (.d .nilp) _ _ (.inl rfl) (by (try simp only [List.length_cons, List.length_nil]); omega)) [0] [0] rfl rfl rfl rfl rfl ⟨rfl, trivial⟩ ⟨rfl, trivial⟩ ?_ | fail)
        all_goals (conv => whnf)
        all_goals try first
          | (rw [e]; (refine yK ?_ ?_ ?_ ?_ <;> (repeat' (first | exact trivial | (show (_ : List (List DV)) = _; simp) | (show (_, _) = (_, _); exact congrArg (fun x : Str => (x.length, 1000)) (by simp)) | exact rfl | exact Nat.le_of_ble_eq_true rfl  | exact Or.inr rfl | apply And.intro)); done))
          | (exfalso; omega)
      · refine CT.enter hf rfl (Nat.le_refl _) (Nat.le_refl _) ?_
        repeat' ((conv => whnf); first | (exfalso; omega) | (rw [hn]) | refine zG (fun _ => ?_) (fun _ => ?_) | refine idx_z ?_ | refine zD (hW (.ptr 0 0) _ _ (.inr rfl) (by (try simp only [List.length_cons, List.length_nil]); omega)) [0] [0] rfl rfl rfl rfl rfl ⟨rfl, trivial⟩ ⟨rfl, trivial⟩ ?_ | fail)
        all_goals (conv => whnf)
        all_goals try first
          | (rw [e]; (refine yK ?_ ?_ ?_ ?_ <;> (repeat' (first | exact trivial | (show (_ : List (List DV)) = _; simp) | (show (_, _) = (_, _); exact congrArg (fun x : Str => (x.length, 1000)) (by simp)) | exact rfl | exact Nat.le_of_ble_eq_true rfl  | exact Or.inr rfl | apply And.intro)); done))
          | (exfalso; omega)
    · have e : txT t = [121, 101, 115] := by rw [ee]; simp [hs, hn]
      rcases hp with rfl | rfl
      · refine CT.enter hf rfl (Nat.le_refl _) (Nat.le_refl _) ?_
        repeat' ((conv => whnf); first | (exfalso; omega) | (rw [hn]) | refine zG (fun _ => ?_) (fun _ => ?_) | refine idx_1 ?_ | refine zD (hW (.d .nilp) _ _ (.inl rfl) (by (try simp only [List.length_cons, List.length_nil]); omega)) [0] [0] rfl rfl rfl rfl rfl ⟨rfl, trivial⟩ ⟨rfl, trivial⟩ ?_ | fail)
        all_goals (conv => whnf)
        all_goals try first
          | (rw [e]; (refine yK ?_ ?_ ?_ ?_ <;> (repeat' (first | exact trivial | (show (_ : List (List DV)) = _; simp) | (show (_, _) = (_, _); exact congrArg (fun x : Str => (x.length, 1000)) (by simp)) | exact rfl | exact Nat.le_of_ble_eq_true rfl  | exact Or.inr rfl | apply And.intro)); done))
          | (exfalso; omega)
      · refine CT.enter hf rfl (Nat.le_refl _) (Nat.le_refl _) ?_
        repeat' ((conv => whnf); first | (exfalso; omega) | (rw [hn]) | refine zG (fun _ => ?_) (fun _ => ?_) | refine idx_1 ?_ | refine zD (hW (.ptr 0 0) _ _ (.inr rfl) (by (try simp only [List.length_cons, List.length_nil]); omega)) [0] [0] rfl rfl rfl rfl rfl ⟨rfl, trivial⟩ ⟨rfl, trivial⟩ ?_ | fail)
        all_goals (conv => whnf)
        all_goals try first
          | (rw [e]; (refine yK ?_ ?_ ?_ ?_ <;> (repeat' (first | exact trivial | (show (_ : List (List DV)) = _; simp) | (show (_, _) = (_, _); exact congrArg (fun x : Str => (x.length, 1000)) (by simp)) | exact rfl | exact Nat.le_of_ble_eq_true rfl  | exact Or.inr rfl | apply And.intro)); done))
          | (exfalso; omega)
  · have e : txT t = [91] ++ joinK false t.names (t.kids.map txT) t.kids.length ++ [93] := by rw [ee]; simp [hs]
    rw [e] at htl
    simp only [List.length_append, List.length_cons, List.length_nil] at htl
    rcases hp with rfl | rfl
    · refine CT.enter hf rfl (Nat.le_refl _) (Nat.le_refl _) ?_
      repeat' ((conv => whnf); first | (exfalso; omega) | refine zG (fun _ => ?_) (fun _ => ?_) | refine zD (hB (.d .nilp) _ 91 (.inl rfl) (by (try simp only [List.length_append, List.length_cons, List.length_nil]); omega)) [0] [0] rfl rfl rfl rfl rfl ⟨rfl, trivial⟩ ⟨rfl, trivial⟩ ?_ | refine zD (hB (.ptr 0 0) _ 93 (.inr rfl) (by (try simp only [List.length_append, List.length_cons, List.length_nil]); omega)) [0] [0] rfl rfl rfl rfl rfl ⟨rfl, trivial⟩ ⟨rfl, trivial⟩ ?_ | refine zD (hkd false d _ hd hs (by (try simp only [List.length_append, List.length_cons, List.length_nil]); omega)) [0] [0] rfl rfl rfl rfl rfl ⟨rfl, trivial⟩ ⟨rfl, trivial⟩ ?_ | fail)
      all_goals (conv => whnf)
      all_goals try first
        | (rw [e]; (refine yK ?_ ?_ ?_ ?_ <;> (repeat' (first | exact trivial | (show (_ : List (List DV)) = _; simp) | (show (_, _) = (_, _); exact congrArg (fun x : Str => (x.length, 1000)) (by simp)) | exact rfl | exact Nat.le_of_ble_eq_true rfl  | exact Or.inr rfl | apply And.intro)); done))
        | (exfalso; omega)
    · refine CT.enter hf rfl (Nat.le_refl _) (Nat.le_refl _) ?_
      repeat' ((conv => whnf); first | (exfalso; omega) | refine zG (fun _ => ?_) (fun _ => ?_) | refine zD (hB (.ptr 0 0) _ 91 (.inr rfl) (by (try simp only [List.length_append, List.length_cons, List.length_nil]); omega)) [0] [0] rfl rfl rfl rfl rfl ⟨rfl, trivial⟩ ⟨rfl, trivial⟩ ?_ | refine zD (hB (.ptr 0 0) _ 93 (.inr rfl) (by (try simp only [List.length_append, List.length_cons, List.length_nil]); omega)) [0] [0] rfl rfl rfl rfl rfl ⟨rfl, trivial⟩ ⟨rfl, trivial⟩ ?_ | refine zD (hkd false d _ hd hs (by (try simp only [List.length_append, List.length_cons, List.length_nil]); omega)) [0] [0] rfl rfl rfl rfl rfl ⟨rfl, trivial⟩ ⟨rfl, trivial⟩ ?_ | fail)
      all_goals (conv => whnf)
      all_goals try first
        | (rw [e]; (refine yK ?_ ?_ ?_ ?_ <;> (repeat' (first | exact trivial | (show (_ : List (List DV)) = _; simp) | (show (_, _) = (_, _); exact congrArg (fun x : Str => (x.length, 1000)) (by simp)) | exact rfl | exact Nat.le_of_ble_eq_true rfl  | exact Or.inr rfl | apply And.intro)); done))
        | (exfalso; omega)
  · have e : txT t = [123] ++ joinK true t.names (t.kids.map txT) t.kids.length ++ [125] := by rw [ee]; simp [hs]
    rw [e] at htl
    simp only [List.length_append, List.length_cons, List.length_nil] at htl
    rcases hp with rfl | rfl
    · refine CT.enter hf rfl (Nat.le_refl _) (Nat.le_refl _) ?_
      repeat' ((conv => whnf); first | (exfalso; omega) | refine zG (fun _ => ?_) (fun _ => ?_) | refine zD (hB (.d .nilp) _ 123 (.inl rfl) (by (try simp only [List.length_append, List.length_cons, List.length_nil]); omega)) [0] [0] rfl rfl rfl rfl rfl ⟨rfl, trivial⟩ ⟨rfl, trivial⟩ ?_ | refine zD (hB (.ptr 0 0) _ 125 (.inr rfl) (by (try simp only [List.length_append, List.length_cons, List.length_nil]); omega)) [0] [0] rfl rfl rfl rfl rfl ⟨rfl, trivial⟩ ⟨rfl, trivial⟩ ?_ | refine zD (hkd true d _ hd hs (by (try simp only [List.length_append, List.length_cons, List.length_nil]); omega)) [0] [0] rfl rfl rfl rfl rfl ⟨rfl, trivial⟩ ⟨rfl, trivial⟩ ?_ | fail)
      all_goals (conv => whnf)
      all_goals try first
        | (rw [e]; (refine yK ?_ ?_ ?_ ?_ <;> (repeat' (first | exact trivial | (show (_ : List (List DV)) = _; simp) | (show (_, _) = (_, _); exact congrArg (fun x : Str => (x.length, 1000)) (by simp)) | exact rfl | exact Nat.le_of_ble_eq_true rfl  | exact Or.inr rfl | apply And.intro)); done))
        | (exfalso; omega)
    · refine CT.enter hf rfl (Nat.le_refl _) (Nat.le_refl _) ?_
      repeat' ((conv => whnf); first | (exfalso; omega) | refine zG (fun _ => ?_) (fun _ => ?_) | refine zD (hB (.ptr 0 0) _ 123 (.inr rfl) (by (try simp only [List.length_append, List.length_cons, List.length_nil]); omega)) [0] [0] rfl rfl rfl rfl rfl ⟨rfl, trivial⟩ ⟨rfl, trivial⟩ ?_ | refine zD (hB (.ptr 0 0) _ 125 (.inr rfl) (by (try simp only [List.length_append, List.length_cons, List.length_nil]); omega)) [0] [0] rfl rfl rfl rfl rfl ⟨rfl, trivial⟩ ⟨rfl, trivial⟩ ?_ | refine zD (hkd true d _ hd hs (by (try simp only [List.length_append, List.length_cons, List.length_nil]); omega)) [0] [0] rfl rfl rfl rfl rfl ⟨rfl, trivial⟩ ⟨rfl, trivial⟩ ?_ | fail)
      all_goals (conv => whnf)
      all_goals try first
        | (rw [e]; (refine yK ?_ ?_ ?_ ?_ <;> (repeat' (first | exact trivial | (show (_ : List (List DV)) = _; simp) | (show (_, _) = (_, _); exact congrArg (fun x : Str => (x.length, 1000)) (by simp)) | exact rfl | exact Nat.le_of_ble_eq_true rfl  | exact Or.inr rfl | apply And.intro)); done))
        | (exfalso; omega)
  · have hm := ha.maybe hs
    rcases Nat.eq_zero_or_pos t.kids.length with h0 | h0
    · have e : txT t = [126] := by rw [ee]; simp only [hs]; simp [h0]
      rcases hp with rfl | rfl
      · refine CT.enter hf rfl (Nat.le_refl _) (Nat.le_refl _) ?_
        repeat' ((conv => whnf); first | (exfalso; omega) | refine zG (fun _ => ?_) (fun _ => ?_) | (rw [zY]; intro _) | refine zD (hB (.d .nilp) _ 126 (.inl rfl) (by (try simp only [List.length_append, List.length_cons, List.length_nil]); omega)) [0] [0] rfl rfl rfl rfl rfl ⟨rfl, trivial⟩ ⟨rfl, trivial⟩ ?_ | fail)
        all_goals (conv => whnf)
        all_goals try first
          | (rw [e]; (refine yK ?_ ?_ ?_ ?_ <;> (repeat' (first | exact trivial | (show (_ : List (List DV)) = _; simp) | (show (_, _) = (_, _); exact congrArg (fun x : Str => (x.length, 1000)) (by simp)) | exact rfl | exact Nat.le_of_ble_eq_true rfl  | exact Or.inr rfl | apply And.intro)); done))
          | (exfalso; omega)
      · refine CT.enter hf rfl (Nat.le_refl _) (Nat.le_refl _) ?_
        repeat' ((conv => whnf); first | (exfalso; omega) | refine zG (fun _ => ?_) (fun _ => ?_) | (rw [zY]; intro _) | refine zD (hB (.ptr 0 0) _ 126 (.inr rfl) (by (try simp only [List.length_append, List.length_cons, List.length_nil]); omega)) [0] [0] rfl rfl rfl rfl rfl ⟨rfl, trivial⟩ ⟨rfl, trivial⟩ ?_ | fail)
        all_goals (conv => whnf)
        all_goals try first
          | (rw [e]; (refine yK ?_ ?_ ?_ ?_ <;> (repeat' (first | exact trivial | (show (_ : List (List DV)) = _; simp) | (show (_, _) = (_, _); exact congrArg (fun x : Str => (x.length, 1000)) (by simp)) | exact rfl | exact Nat.le_of_ble_eq_true rfl  | exact Or.inr rfl | apply And.intro)); done))
          | (exfalso; omega)
    · have e : txT t = ([63] : Str) ++ txT t.kids[0] := by rw [ee, headD_map h0]; simp only [hs]; simp; intro hh; rw [hh] at h0; simp at h0
      have hk0 := hk 0 h0
      have hz0 := hkz 0 h0
      rcases hp with rfl | rfl
      · refine CT.enter hf rfl (Nat.le_refl _) (Nat.le_refl _) ?_
        repeat' ((conv => whnf); first | (exfalso; omega) | refine zD (hT 0 h0 (d + 1) (.ptr 0 0) _ (hks 0 h0) (.inr rfl) (by (try simp only [List.length_append, List.length_cons, List.length_nil]); omega)) [0] [0] rfl rfl rfl rfl rfl ⟨rfl, trivial⟩ ⟨rfl, trivial⟩ ?_ | refine zG (fun _ => ?_) (fun _ => ?_) | (rw [zY]; intro _) | refine zA (by first | omega | exact rfl | decide) ?_ | refine yC (by omega) ?_ | refine zD (hB (.d .nilp) _ 63 (.inl rfl) (by (try simp only [List.length_append, List.length_cons, List.length_nil]); omega)) [0] [0] rfl rfl rfl rfl rfl ⟨rfl, trivial⟩ ⟨rfl, trivial⟩ ?_ | fail)
        all_goals (conv => whnf)
        all_goals try first
          | (rw [e]; (refine yK ?_ ?_ ?_ ?_ <;> (repeat' (first | exact trivial | (show (_ : List (List DV)) = _; simp) | (show (_, _) = (_, _); exact congrArg (fun x : Str => (x.length, 1000)) (by simp)) | exact rfl | exact Nat.le_of_ble_eq_true rfl  | exact Or.inr rfl | apply And.intro)); done))
          | (exfalso; omega)
      · refine CT.enter hf rfl (Nat.le_refl _) (Nat.le_refl _) ?_
        repeat' ((conv => whnf); first | (exfalso; omega) | refine zD (hT 0 h0 (d + 1) (.ptr 0 0) _ (hks 0 h0) (.inr rfl) (by (try simp only [List.length_append, List.length_cons, List.length_nil]); omega)) [0] [0] rfl rfl rfl rfl rfl ⟨rfl, trivial⟩ ⟨rfl, trivial⟩ ?_ | refine zG (fun _ => ?_) (fun _ => ?_) | (rw [zY]; intro _) | refine zA (by first | omega | exact rfl | decide) ?_ | refine yC (by omega) ?_ | refine zD (hB (.ptr 0 0) _ 63 (.inr rfl) (by (try simp only [List.length_append, List.length_cons, List.length_nil]); omega)) [0] [0] rfl rfl rfl rfl rfl ⟨rfl, trivial⟩ ⟨rfl, trivial⟩ ?_ | fail)
        all_goals (conv => whnf)
        all_goals try first
          | (rw [e]; (refine yK ?_ ?_ ?_ ?_ <;> (repeat' (first | exact trivial | (show (_ : List (List DV)) = _; simp) | (show (_, _) = (_, _); exact congrArg (fun x : Str => (x.length, 1000)) (by simp)) | exact rfl | exact Nat.le_of_ble_eq_true rfl  | exact Or.inr rfl | apply And.intro)); done))
          | (exfalso; omega)
theorem k_Tree_text {L : Lk} (hf : FnR L 175 c175) (hW : ∀ t : Nd, K_wrT1 L t) (hS : K_bStr L) : K_textT L 175 := by
  intro t d hd
  have hl := txT_len t d hd.1
  have hs := hd.2
  have h0 := hW t d (.d .nilp) [] hd (.inl rfl) (by simp; omega)
  refine CP.enter hf rfl rfl rfl ?_
  repeat' ((conv => whnf); first | refine zI (fun _ => ?_) (fun _ => ?_) | refine zM (fun _ => ?_) (fun _ => ?_) | refine zG (fun _ => ?_) (fun _ => ?_) | refine zF (fun _ => ?_) (fun _ => ?_) | refine zO (fun _ => ?_) (fun _ => ?_) | refine zH ?_ | refine zK ?_ | refine zL ?_ | refine zQ (fun _ => ?_) (fun _ _ => ?_) | refine zJ (fun _ => ?_) (fun _ => ?_) | (rw [zY]; intro _) | (rw [zZ]; intro _) | (rw [zX]; intro _) | intro _ | refine zA (by first | omega | exact rfl | decide) ?_ | refine yC (by omega) ?_ | refine yA (by omega) ?_ | refine yB (by omega) ?_ | refine yF (by omega) ?_ | refine yG (by omega) ?_ | refine yE (by omega) ?_ | refine yD (by omega) (by omega) (by omega) ?_ | refine yH (by omega) ?_ | refine yI (by omega) ?_ | fail)
  all_goals (conv => whnf)
  refine CKs.ghost (bx' := [.var 0 [.d (.int .i64 t.sort), .d (.int .i64 t.num), .d (.str t.text), .d (.sl (encS t.names)), .d (.sl (t.kids.map cT))], bBx (.d .nilp) []]) 1000 rfl ⟨⟨rfl, .inl rfl, .inl rfl, .inl rfl, .inl rfl, .inl rfl, trivial⟩, ⟨rfl, .inl rfl, .inr ⟨rfl, rfl⟩, trivial⟩, trivial⟩ ?_
  refine zD h0 [1] [0] rfl rfl rfl rfl rfl ⟨rfl, trivial⟩ ⟨rfl, trivial⟩ ?_
  repeat' ((conv => whnf); first | refine zD (hS (.ptr 0 0) ([] ++ txT t) (.inr rfl) (by simp; omega)) [1] [0] rfl rfl rfl rfl rfl ⟨rfl, trivial⟩ ⟨rfl, trivial⟩ ?_ | fail)
  all_goals (conv => whnf)
  all_goals try exact yJ rfl
end Go.Ab
namespace Go.Ab
open Go
set_option maxHeartbeats 4000000
attribute [local irreducible] Need IdxK FinK NextK CKs CQs ltS
theorem splI_s {b : Str} {l : List Int} {i : Nat} (h : i < l.length) : spl b (l.map dec) (i + 1) = spl b (l.map dec) i ++ [32] ++ dec l[i] := by simp [spl, h]
theorem splI_len {b : Str} {l : List Int} (hn : ∀ i (h : i < l.length), inR .i64 l[i]) : ∀ i, i ≤ l.length → (spl b (l.map dec) i).length ≤ b.length + i * 21 := by
  intro i
  induction i with
  | zero => intro _; simp [spl]
  | succ i ih => intro h; have := ih (by omega); have := dec_len (hn i (by omega)); rw [splI_s (by omega)]; simp; omega
def K_join (L : Lk) : Prop := ∀ (w : Str) (l : List Int), (∀ i (h : i < l.length), inR .i64 l[i]) → w.length ≤ 1000000000 → l.length ≤ 4000000 → CP L 101 [.d (.str w), .d (.sl (encI l))] (.d (.str (spl w (l.map dec) l.length)))
theorem k_joined {L : Lk} (hf : FnR L 101 c101) (hIt : ∀ n : Int, inR .i64 n → CP L 174 [.d (.int .i64 n)] (.d (.str (dec n)))) : K_join L := by
  intro w l hn hw hl
  have hsl := splI_len (b := w) hn
  have hdl : ∀ i (h : i < l.length), (dec l[i]).length ≤ 20 := fun i h => dec_len (hn i h)
  refine CP.enter hf rfl rfl rfl ?_
  repeat' ((conv => whnf); first | (rw [lenIs']; intro _) | refine zI (fun _ => ?_) (fun _ => ?_) | refine zA (by first | omega | exact rfl | decide) ?_ | refine idx_I (by omega) ?_ | refine zB (hIt _ (hn i (by omega))) ?_ | refine zA (by have := hsl i (by omega); have := hdl i (by omega); (try simp only [List.length_append, List.length_cons, List.length_nil]); omega) ?_ | refine ih _ (by omega) (trivial) (by refine ⟨?_, ?_, ?_⟩ <;> (repeat' (first | exact trivial | exact yM (by omega) | exact yN (by rw [splI_s (by omega)]; simp) | exact rfl | apply And.intro))) | ((fail_if_success (have _h := ih)); refine LW.count l.length (fun i => True) (fun i => ⟨[(9, .d (.int .i64 i)), (8, .d (.int .i64 l.length)), (7, .d (.sl (encI l))), (0, .d (.str (spl w (l.map dec) i)))], 0, [], []⟩) (fun _ => ⟨rfl, rfl, rfl⟩) (fun i hi hI ih => ?_) (trivial) _ (by refine ⟨?_, ?_, ?_⟩ <;> (repeat' (first | exact trivial | exact rfl | apply And.intro)))) | fail)
  all_goals (conv => whnf)
  all_goals try first
    | (rw [show l.length = i by omega]; exact yJ rfl)
theorem k_eventText {L : Lk} (hf : FnR L 102 c102) (hIt : ∀ n : Int, inR .i64 n → CP L 174 [.d (.int .i64 n)] (.d (.str (dec n)))) (hT : K_textT L 175) : K_EventWrite L 102 := by
  intro e he
  have h1 := he.len
  have h2 := dec_len h1.2.1
  have h3 := h1.1
  have h4 := h1.2.2
  refine CP.enter hf rfl rfl rfl ?_
  repeat' ((conv => whnf); first | refine zC (hIt _ h1.2.1) ?_ | refine zC (hT e.body 1 he.2.2.2) ?_ | refine zA (by (try simp only [List.length_append, List.length_cons, List.length_nil]); omega) ?_ | fail)
  all_goals (conv => whnf)
  all_goals try exact yJ rfl
theorem k_TeaWrite_i {L : Lk} (hf : FnR L 9 c9) (hO : K_teOk L 25) (hT : K_teT L 27) (hW : K_wS L) (hN : K_bLen L) (hS : K_bStr L) : K_wrT L 9 := by
  intro l hs
  refine CP.enter hf rfl rfl rfl ?_
  repeat' ((conv => whnf); first | (rw [lenTe]; intro _) | refine zI (fun _ => ?_) (fun _ => ?_) | fail)
  all_goals (conv => whnf)
  · rename_i hl
    exact yJ (yN (by rw [wrT, if_neg (by omega)]))
  · rename_i hl
    refine LW.ghost (bx' := [bBx (.d .nilp) []]) 1000 rfl ⟨⟨rfl, .inl rfl, .inr ⟨rfl, rfl⟩, trivial⟩, trivial⟩ ?_
    refine LW.gen (S := Nat × Str × AV) (fun x => l.length - x.1) (fun x => x.1 ≤ l.length ∧ wrL [] l = wrL x.2.1 (l.drop x.1) ∧ x.2.1.length ≤ 60000 ∧ bPv x.2.2)
      (fun x => ⟨[(11, .d (.int .i64 x.1)), (10, .d (.int .i64 l.length)), (9, .d (.sl (l.map teD))), (3, .ptr 0 0)], 1, [bBx x.2.2 x.2.1], [(x.2.1.length, 1000)]⟩) (fun _ => ⟨rfl, rfl, rfl⟩) ?_ (0, [], .d .nilp) ⟨by omega, rfl, by simp, .inl rfl⟩ _ (by refine ⟨?_, ?_, ?_⟩ <;> (repeat' (first | exact trivial  | exact rfl | exact Nat.le_of_ble_eq_true rfl  | exact Or.inr rfl | apply And.intro)))
    rintro ⟨i, out, pv⟩ ⟨hi, hw, hlen, hp⟩ ih
    dsimp only at hi hw hlen hp ih ⊢
    have hd : ∀ h : i < l.length, l.drop i = l[i] :: l.drop (i + 1) := fun h => List.drop_eq_getElem_cons h
    rcases hp with rfl | rfl
    · skip
      repeat' ((conv => whnf); first | refine idx_m (f := teD) (by omega) ?_ | refine zI (fun _ => ?_) (fun _ => ?_) | refine zO (fun _ => ?_) (fun _ => ?_) | refine zA (by first | omega | exact rfl | decide) ?_ | refine zB (hO (l[i]'(by omega)) (hs i (by omega))) ?_ | refine zB (hT (l[i]'(by omega)) (by assumption) (hs i (by omega))) ?_ | refine zD (hW (.d .nilp) _ _ (.inl rfl) (by have := teT_len (e := l[i]'(by omega)) (by assumption) (hs i (by omega)); omega)) [0] [0] rfl rfl rfl rfl rfl ⟨rfl, trivial⟩ ⟨rfl, trivial⟩ ?_ | refine zD (hN (.ptr 0 0) (out ++ teT (l[i]'(by omega))) (.inr rfl)) [0] [0] rfl rfl rfl rfl rfl ⟨rfl, trivial⟩ ⟨rfl, trivial⟩ ?_ | refine zD (hS (.d .nilp) out (.inl rfl) (by omega)) [0] [0] rfl rfl rfl rfl rfl ⟨rfl, trivial⟩ ⟨rfl, trivial⟩ ?_ | refine ih (i + 1, out ++ teT (l[i]'(by omega)), .ptr 0 0) _ (by show l.length - (i + 1) < l.length - i; omega) ⟨by show i + 1 ≤ l.length; omega, by show wrL [] l = wrL (out ++ teT l[i]) (l.drop (i + 1)); rw [hw, hd (by omega), wrL_y (by assumption) (by omega)], by show (out ++ teT l[i]).length ≤ 60000; omega, .inr rfl⟩ (by refine ⟨?_, ?_, ?_⟩ <;> (repeat' (first | exact trivial | exact yM (by omega) | exact rfl | exact Nat.le_of_ble_eq_true rfl | exact Or.inr rfl | apply And.intro))) | fail)
      all_goals (conv => whnf)
      all_goals try first
        | exact yJ (yN (by rw [wrT, if_pos (by omega), hw, hd (by omega), wrL_l (by omega)]))
        | exact yJ (yN (by rw [wrT, if_pos (by omega), hw, hd (by omega), wrL_n (by assumption)]))
        | exact yJ (yN (by rw [wrT, if_pos (by omega), hw, List.drop_of_length_le (by omega)]; rfl))
    · skip
      repeat' ((conv => whnf); first | refine idx_m (f := teD) (by omega) ?_ | refine zI (fun _ => ?_) (fun _ => ?_) | refine zO (fun _ => ?_) (fun _ => ?_) | refine zA (by first | omega | exact rfl | decide) ?_ | refine zB (hO (l[i]'(by omega)) (hs i (by omega))) ?_ | refine zB (hT (l[i]'(by omega)) (by assumption) (hs i (by omega))) ?_ | refine zD (hW (.ptr 0 0) out (teT (l[i]'(by omega))) (.inr rfl) (by have := teT_len (e := l[i]'(by omega)) (by assumption) (hs i (by omega)); omega)) [0] [0] rfl rfl rfl rfl rfl ⟨rfl, trivial⟩ ⟨rfl, trivial⟩ ?_ | refine zD (hN (.ptr 0 0) (out ++ teT (l[i]'(by omega))) (.inr rfl)) [0] [0] rfl rfl rfl rfl rfl ⟨rfl, trivial⟩ ⟨rfl, trivial⟩ ?_ | refine zD (hS (.ptr 0 0) out (.inr rfl) (by omega)) [0] [0] rfl rfl rfl rfl rfl ⟨rfl, trivial⟩ ⟨rfl, trivial⟩ ?_ | refine ih (i + 1, out ++ teT (l[i]'(by omega)), .ptr 0 0) _ (by show l.length - (i + 1) < l.length - i; omega) ⟨by show i + 1 ≤ l.length; omega, by show wrL [] l = wrL (out ++ teT l[i]) (l.drop (i + 1)); rw [hw, hd (by omega), wrL_y (by assumption) (by omega)], by show (out ++ teT l[i]).length ≤ 60000; omega, .inr rfl⟩ (by refine ⟨?_, ?_, ?_⟩ <;> (repeat' (first | exact trivial | exact yM (by omega) | exact rfl | exact Nat.le_of_ble_eq_true rfl | exact Or.inr rfl | apply And.intro))) | fail)
      all_goals (conv => whnf)
      all_goals try first
        | exact yJ (yN (by rw [wrT, if_pos (by omega), hw, hd (by omega), wrL_l (by omega)]))
        | exact yJ (yN (by rw [wrT, if_pos (by omega), hw, hd (by omega), wrL_n (by assumption)]))
        | exact yJ (yN (by rw [wrT, if_pos (by omega), hw, List.drop_of_length_le (by omega)]; rfl))
end Go.Ab
namespace Go.Ab
open Go
set_option maxHeartbeats 4000000
attribute [local irreducible] Need IdxK FinK NextK CKs CQs ltS
def bBx1 (pv : AV) (s : Str) : Bx := .var 5 [pv, .rsl (s.map byteCell) (.row 0)]
def K_foldX (L : Lk) : Prop := ∀ p : Pl, planOk p → SmP p → CP L 105 [.agg (av (plD p))] (.d (.str (foldE p (foldM p) p.steps.length)))
theorem k_foldText {L : Lk} (hf : FnR L 105 c105) (hK : K_textK L 103) (hN : K_textN L 104) (hT : K_textT L 175) (hW : K_wS L) (hS : K_bStr L) : K_foldX L := by
  intro p hp hs
  have hn8 := hp.1.1.2
  have h4 := hp.2.1.2
  have h8 := hp.2.2.1
  have hSl := foldS_len hp hs
  have hEl := foldE_len hp hs
  have hMl := foldM_len hp hs
  have hst : ∀ i (h : i < p.states.length), (okK 1 p.states[i].kind ∧ p.states[i].kind.size ≤ 40) ∧ (txK p.states[i].kind).length ≤ 1000 := fun i h => by
    have h2 := hp.2.2.2.2.1 i h h
    have h3 := txK_len _ _ h2.1.1
    have h4 := h2.1.2
    exact ⟨h2.1, by omega⟩
  have hsv : ∀ i (h : i < p.states.length), i + 1 < p.states.length → (LiftOK true (valN p.states[i].save) ∧ LiftOK true (valN p.states[i].lift)) ∧ (txN p.states[i].save).length ≤ 180000000 ∧ (txN p.states[i].lift).length ≤ 180000000 := fun i h hl => by
    have h5 := (hp.2.2.2.2.1 i h h).2.2 (by omega)
    exact ⟨h5, val_len h5.1 (hs.st i h).1, val_len h5.2 (hs.st i h).2⟩
  have hac : ∀ i (h : i < p.steps.length), LiftOK true (valN p.steps[i].act) ∧ (txN p.steps[i].act).length ≤ 180000000 ∧ p.steps[i].typ.length ≤ 8 := fun i h => by
    have h5 := hp.2.2.2.2.2 i h h
    exact ⟨h5.2, val_len h5.2 (hs.ac i h), h5.1.1.2⟩
  have htl : (txT p.start).length ≤ 8640 := by have h3 := txT_len _ _ hp.2.2.2.1.1; have h4 := hp.2.2.2.1.2; omega
  refine CP.enter hf rfl rfl rfl ?_
  repeat' ((conv => whnf); first | refine zA (by (try simp only [List.length_append, List.length_cons, List.length_nil]); omega) ?_ | fail)
  all_goals (conv => whnf)
  refine CKs.ghost (bx' := [.var 0 (av (plD p)), bBx (.d .nilp) []]) 1000 rfl ⟨⟨rfl, .inl rfl, .inl rfl, .inl rfl, .inl rfl, .inl rfl, .inl rfl, .inl rfl, .inl rfl, trivial⟩, ⟨rfl, .inl rfl, .inr ⟨rfl, rfl⟩, trivial⟩, trivial⟩ ?_
  refine zD (hW (.d .nilp) [] ([102, 111, 108, 100, 32] ++ p.name ++ [10]) (.inl rfl) (by (try simp only [List.length_append, List.length_cons, List.length_nil]); omega)) [1] [0] rfl rfl rfl rfl rfl ⟨rfl, trivial⟩ ⟨rfl, trivial⟩ ?_
  repeat' ((conv => whnf); first | (rw [lenFs]; intro _) | (rw [lenFt]; intro _) | (rw [wrap64 (by omega)]) | refine idx_m (f := fsD) (by omega) ?_ | refine idx_m (f := ftD) (by omega) ?_ | refine zD (hW (.ptr 0 0) (foldE p (foldM p) j) _ (.inr rfl) (by have := hEl j (by omega); have := hac j (by omega); (try simp only [List.length_append, List.length_cons, List.length_nil]); omega)) [1] [0] rfl rfl rfl rfl rfl ⟨rfl, trivial⟩ ⟨rfl, trivial⟩ ?_ | refine zD (hW (.ptr 0 0) _ _ (.inr rfl) (by have := hSl i (by omega); have := (hst i (by omega)).2; have := (hsv i (by omega) (by omega)).2; (try simp only [List.length_append, List.length_cons, List.length_nil]); omega)) [1] [0] rfl rfl rfl rfl rfl ⟨rfl, trivial⟩ ⟨rfl, trivial⟩ ?_ | refine zD (hW (.ptr 0 0) _ _ (.inr rfl) (by have := hSl i (by omega); have := (hst i (by omega)).2; (try simp only [List.length_append, List.length_cons, List.length_nil]); omega)) [1] [0] rfl rfl rfl rfl rfl ⟨rfl, trivial⟩ ⟨rfl, trivial⟩ ?_ | refine zD (hW (.ptr 0 0) _ _ (.inr rfl) (by have := hSl i (by omega); (try simp only [List.length_append, List.length_cons, List.length_nil]); omega)) [1] [0] rfl rfl rfl rfl rfl ⟨rfl, trivial⟩ ⟨rfl, trivial⟩ ?_ | refine zD (hS (.ptr 0 0) (foldE p (foldM p) j) (.inr rfl) (by have := hEl j (by omega); omega)) [1] [0] rfl rfl rfl rfl rfl ⟨rfl, trivial⟩ ⟨rfl, trivial⟩ ?_ | refine zA (by have := hac j (by omega); (try simp only [List.length_append, List.length_cons, List.length_nil]); omega) ?_ | refine zA (by have := (hst i (by omega)).2; have := (hsv i (by omega) (by omega)).2; (try simp only [List.length_append, List.length_cons, List.length_nil]); omega) ?_ | refine zA (by have := (hst i (by omega)).2; (try simp only [List.length_append, List.length_cons, List.length_nil]); omega) ?_ | refine jh _ (by omega) trivial (by refine ⟨?_, ?_, ?_⟩ <;> (repeat' (first | exact trivial | (show (_ : List (List DV)) = _; rw [foldE_s (by omega)]; simp) | (show (_, _) = (_, _); rw [foldE_s (by omega)]; exact congrArg (fun x : Str => (x.length, 1000)) (by simp)) | exact rfl | exact Nat.le_of_ble_eq_true rfl | exact Or.inl rfl | exact Or.inr rfl | apply And.intro))) | refine ih _ (by omega) trivial (by refine ⟨?_, ?_, ?_⟩ <;> (repeat' (first | exact trivial | (show (_ : List (List DV)) = _; rw [foldS_y (by omega) (by omega)]; simp) | (show (_ : List (List DV)) = _; rw [foldS_n (by omega) (by omega)]; simp) | (show (_, _) = (_, _); rw [foldS_y (by omega) (by omega)]; exact congrArg (fun x : Str => (x.length, 1000)) (by simp)) | (show (_, _) = (_, _); rw [foldS_n (by omega) (by omega)]; exact congrArg (fun x : Str => (x.length, 1000)) (by simp)) | exact rfl | exact Nat.le_of_ble_eq_true rfl | exact Or.inl rfl | exact Or.inr rfl | apply And.intro))) | refine zI (fun _ => ?_) (fun _ => ?_) | refine zA (by first | omega | exact rfl | decide) ?_ | refine zB (hK (p.states[i]'(by omega)).kind 1 (hst i (by omega)).1) ?_ | refine zB (hT p.start 1 hp.2.2.2.1) ?_ | refine zC (hN (p.states[i]'(by omega)).save _ _ (val_ok (hsv i (by omega) (by omega)).1.1) ⟨by have := (hs.st i (by omega)).1; omega⟩) ?_ | refine zC (hN (p.states[i]'(by omega)).lift _ _ (val_ok (hsv i (by omega) (by omega)).1.2) ⟨by have := (hs.st i (by omega)).2; omega⟩) ?_ | refine zC (hN (p.steps[j]'(by omega)).act _ _ (val_ok (hac j (by omega)).1) ⟨by have := hs.ac j (by omega); omega⟩) ?_ | refine zA (by (try simp only [List.length_append, List.length_cons, List.length_nil]); omega) ?_ | ((fail_if_success (have _h := ih)); refine LW.count p.states.length (fun _ => True) (fun i => ⟨[(16, .d (.int .i64 i)), (15, .d (.int .i64 p.states.length)), (14, .d (.sl (p.states.map fsD))), (1, .ptr 0 0), (3, .ptr 1 0)], 2, [.var 0 (av (plD p)), bBx1 (.ptr 1 0) (foldS p i)], [((foldS p i).length, 1000)]⟩) (fun _ => ⟨rfl, rfl, rfl⟩) (fun i hi hI ih => ?_) trivial _ (by refine ⟨?_, ?_, ?_⟩ <;> (repeat' (first | exact trivial | exact rfl | exact Nat.le_of_ble_eq_true rfl | exact Or.inl rfl | exact Or.inr rfl | apply And.intro)))) | ((fail_if_success (have _h := jh)); (have hi' : i = p.states.length := by omega); refine LW.count p.steps.length (fun _ => True) (fun j => ⟨[(54, .d (.int .i64 j)), (53, .d (.int .i64 p.steps.length)), (52, .d (.sl (p.steps.map ftD))), (1, .ptr 0 0), (3, .ptr 1 0)], 2, [.var 0 (av (plD p)), bBx1 (.ptr 1 0) (foldE p (foldM p) j)], [((foldE p (foldM p) j).length, 1000)]⟩) (fun _ => ⟨rfl, rfl, rfl⟩) (fun j hj hJ jh => ?_) trivial _ (by refine ⟨?_, ?_, ?_⟩ <;> (repeat' (first | exact trivial | (show (_ : List (List DV)) = _; rw [hi']; simp [foldE, foldM]) | (show (_, _) = (_, _); rw [hi']; exact congrArg (fun x : Str => (x.length, 1000)) (by simp [foldE, foldM])) | exact rfl | exact Nat.le_of_ble_eq_true rfl | exact Or.inl rfl | exact Or.inr rfl | apply And.intro)))) | fail)
  all_goals (conv => whnf)
  all_goals try first
    | (have hj' : j = p.steps.length := by omega
       exact yJ (yN (by rw [hj'])))
end Go.Ab
namespace Go.Ab
open Go
set_option maxHeartbeats 4000000
attribute [local irreducible] Need IdxK FinK NextK CKs CQs ltS
def evW8 : List Str := [[97, 112, 112, 101, 110, 100], [115, 121, 110, 99], [114, 111, 108, 108], [109, 101, 110, 100], [114, 101, 119, 114, 105, 116, 101], [118, 101, 114, 115, 105, 111, 110], [102, 111, 108, 100], [115, 110, 97, 112]]
def evWD : List DV := evW8.map .str
theorem chunks_ev : chunks 1 8 evWD = encS evW8 := rfl
theorem inR2 {a b : Int} (ha : inR .i64 a) (hb : inR .i64 b) : ∀ i (h : i < [a, b].length), inR .i64 [a, b][i] := fun i h => by
  match i, h with
  | 0, _ => exact ha
  | 1, _ => exact hb
theorem inR1 {a : Int} (ha : inR .i64 a) : ∀ i (h : i < [a].length), inR .i64 [a][i] := fun i h => by
  match i, h with
  | 0, _ => exact ha
def pwW : Str := [112, 111, 119, 101, 114]
theorem pwS_spl (p : Pw) : ∀ i, i ≤ p.keep.length → pwS p i = spl (spl pwW ([p.after, p.moves].map dec) [p.after, p.moves].length) (p.keep.map dec) i := by
  intro i
  induction i with
  | zero => intro _; simp [pwS, spl, pwW]
  | succ i ih => intro h; rw [pwS_s (by omega), splI_s (by omega), ih (by omega)]
theorem k_eventLines {L : Lk} (hf : FnR L 27 c27) (hgl : L.gl 0 = evWD) (hJ : K_join L) (hFo : K_foldX L) (hK : K_textK L 103) (hN : K_textN L 104) (hE : K_EventWrite L 102) (hNo : K_noT L 94) : K_teT L 27 := by
  intro e he hs
  have hc8 : e.kind = 1 ∨ e.kind = 2 ∨ e.kind = 3 ∨ e.kind = 4 ∨ e.kind = 5 ∨ e.kind = 6 ∨ e.kind = 7 ∨ e.kind = 8 := by have := he.1; omega
  have hkeep := hs.keep
  have hp' : e.power.cuts = true → numOk e.power.after ∧ numOk e.power.moves ∧ numsOk e.power.keep := fun hc => by
    have := he.2.1.1
    rcases this with h | h
    · exact absurd h.2.2.1 (by simp [hc])
    · exact h.2.2.2
  have hc0 : e.kind = 6 ∨ e.kind = 7 → e.power.cuts = false := fun h => by
    cases hcc : e.power.cuts with
    | false => rfl
    | true => have := he.2.1.2 hcc; omega
  have d1 := dec_len (numIn he.2.2.1.1)
  have d2 := dec_len (numIn he.2.2.1.2)
  have jl : ∀ w : Str, (spl w ([e.part, e.many].map dec) [e.part, e.many].length).length ≤ w.length + 42 := fun w => splI_len (inR2 (numIn he.2.2.1.1) (numIn he.2.2.1.2)) _ (Nat.le_refl _)
  have jl1 : ∀ w : Str, (spl w ([e.many].map dec) [e.many].length).length ≤ w.length + 21 := fun w => splI_len (inR1 (numIn he.2.2.1.2)) _ (Nat.le_refl _)
  by_cases hc : e.power.cuts = true
  · have pwE := pwS_spl e.power e.power.keep.length (Nat.le_refl _)
    have pl1 : (spl pwW ([e.power.after, e.power.moves].map dec) [e.power.after, e.power.moves].length).length ≤ 47 := splI_len (b := pwW) (inR2 (numIn (hp' hc).1) (numIn (hp' hc).2.1)) _ (Nat.le_refl _)
    have pl2 := splI_len (b := spl pwW ([e.power.after, e.power.moves].map dec) [e.power.after, e.power.moves].length) (l := e.power.keep) (fun i h => numIn ((hp' hc).2.2 i h h)) _ (Nat.le_refl _)
    have hh : e.kind = 1 ∨ e.kind = 2 ∨ e.kind = 3 ∨ e.kind = 4 ∨ e.kind = 5 ∨ e.kind = 8 := by
      have : ¬ (e.kind = 6 ∨ e.kind = 7) := fun h => by have := hc0 h; rw [hc] at this; cases this
      omega
    rcases hh with hk | hk | hk | hk | hk | hk
    · have hD : teD e = .int .i64 e.kind :: (teD e).tail := rfl
      rw [hk] at hD
      rw [hD]
      have q1 := (he.2.2.2.1.1 hk).1.1.2
      have q2 := txE_len (he.2.2.2.1.1 hk).2
      have hw : (evW8[0]'(by decide)).length ≤ 8 := by decide
      have hw1 := jl (evW8[0]'(by decide))
      have pl1' := pl1
      have pl2' := pl2
      have hw1' := hw1
      simp only [List.length_cons, List.length_nil] at pl1' pl2' hw1'
      refine CP.enter hf rfl rfl rfl ?_
      repeat' ((conv => whnf); first | refine sel_t hc ?_ | (rw [hgl]) | (rw [chunks_ev]) | refine idx_Si (xs := evW8) 0 (by decide) (by decide) ?_ | refine zA (by first | omega | exact rfl | decide) ?_ | refine zC (CP.pu (hJ pwW [e.power.after, e.power.moves] (inR2 (numIn (hp' hc).1) (numIn (hp' hc).2.1)) (by decide) (by simp))) ?_ | refine zC (hJ _ e.power.keep (fun i h => numIn ((hp' hc).2.2 i h h)) (by omega) hkeep) ?_ | refine zC (hE e.event (he.2.2.2.1.1 hk).2) ?_ | refine zA (by (try simp only [List.length_append, List.length_cons, List.length_nil]); omega) ?_ | fail)
      all_goals (conv => whnf)
      all_goals try first
        | exact yJ (yN (by simp only [teT, hk, pwT, hc, pwE]; simp [spl, evWords, evW8]))
        | (exfalso; omega)
    · have hD : teD e = .int .i64 e.kind :: (teD e).tail := rfl
      rw [hk] at hD
      rw [hD]
      have hw : (evW8[1]'(by decide)).length ≤ 8 := by decide
      have hw1 := jl (evW8[1]'(by decide))
      have pl1' := pl1
      have pl2' := pl2
      have hw1' := hw1
      simp only [List.length_cons, List.length_nil] at pl1' pl2' hw1'
      refine CP.enter hf rfl rfl rfl ?_
      repeat' ((conv => whnf); first | refine sel_t hc ?_ | (rw [hgl]) | (rw [chunks_ev]) | refine idx_Si (xs := evW8) 1 (by decide) (by decide) ?_ | refine zA (by first | omega | exact rfl | decide) ?_ | refine zC (CP.pu (hJ pwW [e.power.after, e.power.moves] (inR2 (numIn (hp' hc).1) (numIn (hp' hc).2.1)) (by decide) (by simp))) ?_ | refine zC (hJ _ e.power.keep (fun i h => numIn ((hp' hc).2.2 i h h)) (by omega) hkeep) ?_ | refine zA (by (try simp only [List.length_append, List.length_cons, List.length_nil]); omega) ?_ | fail)
      all_goals (conv => whnf)
      all_goals try first
        | exact yJ (yN (by simp only [teT, hk, pwT, hc, pwE]; simp [spl, evWords, evW8]))
        | (exfalso; omega)
    · have hD : teD e = .int .i64 e.kind :: (teD e).tail := rfl
      rw [hk] at hD
      rw [hD]
      have hw : (evW8[2]'(by decide)).length ≤ 8 := by decide
      have hw1 := jl (evW8[2]'(by decide))
      have pl1' := pl1
      have pl2' := pl2
      have hw1' := hw1
      simp only [List.length_cons, List.length_nil] at pl1' pl2' hw1'
      refine CP.enter hf rfl rfl rfl ?_
      repeat' ((conv => whnf); first | refine sel_t hc ?_ | (rw [hgl]) | (rw [chunks_ev]) | refine idx_Si (xs := evW8) 2 (by decide) (by decide) ?_ | refine zA (by first | omega | exact rfl | decide) ?_ | refine zC (CP.pu (hJ pwW [e.power.after, e.power.moves] (inR2 (numIn (hp' hc).1) (numIn (hp' hc).2.1)) (by decide) (by simp))) ?_ | refine zC (hJ _ e.power.keep (fun i h => numIn ((hp' hc).2.2 i h h)) (by omega) hkeep) ?_ | refine zA (by (try simp only [List.length_append, List.length_cons, List.length_nil]); omega) ?_ | fail)
      all_goals (conv => whnf)
      all_goals try first
        | exact yJ (yN (by simp only [teT, hk, pwT, hc, pwE]; simp [spl, evWords, evW8]))
        | (exfalso; omega)
    · have hD : teD e = .int .i64 e.kind :: (teD e).tail := rfl
      rw [hk] at hD
      rw [hD]
      have hw : (evW8[3]'(by decide)).length ≤ 8 := by decide
      have hw1 := jl (evW8[3]'(by decide))
      have pl1' := pl1
      have pl2' := pl2
      have hw1' := hw1
      simp only [List.length_cons, List.length_nil] at pl1' pl2' hw1'
      refine CP.enter hf rfl rfl rfl ?_
      repeat' ((conv => whnf); first | refine sel_t hc ?_ | (rw [hgl]) | (rw [chunks_ev]) | refine idx_Si (xs := evW8) 3 (by decide) (by decide) ?_ | refine zA (by first | omega | exact rfl | decide) ?_ | refine zC (CP.pu (hJ pwW [e.power.after, e.power.moves] (inR2 (numIn (hp' hc).1) (numIn (hp' hc).2.1)) (by decide) (by simp))) ?_ | refine zC (hJ _ e.power.keep (fun i h => numIn ((hp' hc).2.2 i h h)) (by omega) hkeep) ?_ | refine zA (by (try simp only [List.length_append, List.length_cons, List.length_nil]); omega) ?_ | fail)
      all_goals (conv => whnf)
      all_goals try first
        | exact yJ (yN (by simp only [teT, hk, pwT, hc, pwE]; simp [spl, evWords, evW8]))
        | (exfalso; omega)
    · have hD : teD e = .int .i64 e.kind :: (teD e).tail := rfl
      rw [hk] at hD
      rw [hD]
      have hw : (evW8[4]'(by decide)).length ≤ 8 := by decide
      have hw1 := jl (evW8[4]'(by decide))
      have pl1' := pl1
      have pl2' := pl2
      have hw1' := hw1
      simp only [List.length_cons, List.length_nil] at pl1' pl2' hw1'
      refine CP.enter hf rfl rfl rfl ?_
      repeat' ((conv => whnf); first | refine sel_t hc ?_ | (rw [hgl]) | (rw [chunks_ev]) | refine idx_Si (xs := evW8) 4 (by decide) (by decide) ?_ | refine zA (by first | omega | exact rfl | decide) ?_ | refine zC (CP.pu (hJ pwW [e.power.after, e.power.moves] (inR2 (numIn (hp' hc).1) (numIn (hp' hc).2.1)) (by decide) (by simp))) ?_ | refine zC (hJ _ e.power.keep (fun i h => numIn ((hp' hc).2.2 i h h)) (by omega) hkeep) ?_ | refine zB (CP.pu (hJ (evW8[4]'(by decide)) [e.part, e.many] (inR2 (numIn he.2.2.1.1) (numIn he.2.2.1.2)) (by omega) (by simp))) ?_ | refine zA (by (try simp only [List.length_append, List.length_cons, List.length_nil]); omega) ?_ | fail)
      all_goals (conv => whnf)
      all_goals try first
        | exact yJ (yN (by simp only [teT, hk, pwT, hc, pwE]; simp [spl, evWords, evW8]))
        | (exfalso; omega)
    · have hD : teD e = .int .i64 e.kind :: (teD e).tail := rfl
      rw [hk] at hD
      rw [hD]
      have q1 := (he.2.2.2.2.2.1.1 (.inr hk)).1.2
      have q9 := jl1 ((evW8[7]'(by decide)) ++ [32] ++ e.name)
      have q8 : ((evW8[7]'(by decide))).length ≤ 8 := by decide
      simp only [List.length_append, List.length_cons, List.length_nil] at q9
      have hw : (evW8[7]'(by decide)).length ≤ 8 := by decide
      have hw1 := jl (evW8[7]'(by decide))
      have pl1' := pl1
      have pl2' := pl2
      have hw1' := hw1
      simp only [List.length_cons, List.length_nil] at pl1' pl2' hw1'
      refine CP.enter hf rfl rfl rfl ?_
      repeat' ((conv => whnf); first | refine sel_t hc ?_ | (rw [hgl]) | (rw [chunks_ev]) | refine idx_Si (xs := evW8) 7 (by decide) (by decide) ?_ | refine zA (by first | omega | exact rfl | decide) ?_ | refine zC (CP.pu (hJ pwW [e.power.after, e.power.moves] (inR2 (numIn (hp' hc).1) (numIn (hp' hc).2.1)) (by decide) (by simp))) ?_ | refine zC (hJ _ e.power.keep (fun i h => numIn ((hp' hc).2.2 i h h)) (by omega) hkeep) ?_ | refine zB (CP.pu (hJ ((evW8[7]'(by decide)) ++ [32] ++ e.name) [e.many] (inR1 (numIn he.2.2.1.2)) (by simp only [List.length_append, List.length_cons, List.length_nil]; omega) (by simp))) ?_ | refine zA (by (try simp only [List.length_append, List.length_cons, List.length_nil]); omega) ?_ | fail)
      all_goals (conv => whnf)
      all_goals try first
        | exact yJ (yN (by simp only [teT, hk, pwT, hc, pwE]; simp [spl, evWords, evW8]))
        | (exfalso; omega)
  · have hcf : e.power.cuts = false := by cases hcc : e.power.cuts <;> simp_all
    rcases hc8 with hk | hk | hk | hk | hk | hk | hk | hk
    · have hD : teD e = .int .i64 e.kind :: (teD e).tail := rfl
      rw [hk] at hD
      rw [hD]
      have q1 := (he.2.2.2.1.1 hk).1.1.2
      have q2 := txE_len (he.2.2.2.1.1 hk).2
      have hw : (evW8[0]'(by decide)).length ≤ 8 := by decide
      have hw1 := jl (evW8[0]'(by decide))
      have hw1' := hw1
      simp only [List.length_cons, List.length_nil] at hw1'
      refine CP.enter hf rfl rfl rfl ?_
      repeat' ((conv => whnf); first | refine sel_f hcf ?_ | (rw [hgl]) | (rw [chunks_ev]) | refine idx_Si (xs := evW8) 0 (by decide) (by decide) ?_ | refine zA (by first | omega | exact rfl | decide) ?_ | refine zC (hE e.event (he.2.2.2.1.1 hk).2) ?_ | refine zA (by (try simp only [List.length_append, List.length_cons, List.length_nil]); omega) ?_ | fail)
      all_goals (conv => whnf)
      all_goals try first
        | exact yJ (yN (by simp only [teT, hk, pwT, hcf]; simp [evWords, evW8]))
        | (exfalso; omega)
    · have hD : teD e = .int .i64 e.kind :: (teD e).tail := rfl
      rw [hk] at hD
      rw [hD]
      have hw : (evW8[1]'(by decide)).length ≤ 8 := by decide
      have hw1 := jl (evW8[1]'(by decide))
      have hw1' := hw1
      simp only [List.length_cons, List.length_nil] at hw1'
      refine CP.enter hf rfl rfl rfl ?_
      repeat' ((conv => whnf); first | refine sel_f hcf ?_ | (rw [hgl]) | (rw [chunks_ev]) | refine idx_Si (xs := evW8) 1 (by decide) (by decide) ?_ | refine zA (by first | omega | exact rfl | decide) ?_ | fail)
      all_goals (conv => whnf)
      all_goals try first
        | exact yJ (yN (by simp only [teT, hk, pwT, hcf]; simp [evWords, evW8]))
        | (exfalso; omega)
    · have hD : teD e = .int .i64 e.kind :: (teD e).tail := rfl
      rw [hk] at hD
      rw [hD]
      have hw : (evW8[2]'(by decide)).length ≤ 8 := by decide
      have hw1 := jl (evW8[2]'(by decide))
      have hw1' := hw1
      simp only [List.length_cons, List.length_nil] at hw1'
      refine CP.enter hf rfl rfl rfl ?_
      repeat' ((conv => whnf); first | refine sel_f hcf ?_ | (rw [hgl]) | (rw [chunks_ev]) | refine idx_Si (xs := evW8) 2 (by decide) (by decide) ?_ | refine zA (by first | omega | exact rfl | decide) ?_ | fail)
      all_goals (conv => whnf)
      all_goals try first
        | exact yJ (yN (by simp only [teT, hk, pwT, hcf]; simp [evWords, evW8]))
        | (exfalso; omega)
    · have hD : teD e = .int .i64 e.kind :: (teD e).tail := rfl
      rw [hk] at hD
      rw [hD]
      have hw : (evW8[3]'(by decide)).length ≤ 8 := by decide
      have hw1 := jl (evW8[3]'(by decide))
      have hw1' := hw1
      simp only [List.length_cons, List.length_nil] at hw1'
      refine CP.enter hf rfl rfl rfl ?_
      repeat' ((conv => whnf); first | refine sel_f hcf ?_ | (rw [hgl]) | (rw [chunks_ev]) | refine idx_Si (xs := evW8) 3 (by decide) (by decide) ?_ | refine zA (by first | omega | exact rfl | decide) ?_ | fail)
      all_goals (conv => whnf)
      all_goals try first
        | exact yJ (yN (by simp only [teT, hk, pwT, hcf]; simp [evWords, evW8]))
        | (exfalso; omega)
    · have hD : teD e = .int .i64 e.kind :: (teD e).tail := rfl
      rw [hk] at hD
      rw [hD]
      have hw : (evW8[4]'(by decide)).length ≤ 8 := by decide
      have hw1 := jl (evW8[4]'(by decide))
      have hw1' := hw1
      simp only [List.length_cons, List.length_nil] at hw1'
      refine CP.enter hf rfl rfl rfl ?_
      repeat' ((conv => whnf); first | refine sel_f hcf ?_ | (rw [hgl]) | (rw [chunks_ev]) | refine idx_Si (xs := evW8) 4 (by decide) (by decide) ?_ | refine zA (by first | omega | exact rfl | decide) ?_ | refine zB (CP.pu (hJ (evW8[4]'(by decide)) [e.part, e.many] (inR2 (numIn he.2.2.1.1) (numIn he.2.2.1.2)) (by omega) (by simp))) ?_ | refine zA (by (try simp only [List.length_append, List.length_cons, List.length_nil]); omega) ?_ | fail)
      all_goals (conv => whnf)
      all_goals try first
        | exact yJ (yN (by simp only [teT, hk, pwT, hcf]; simp [spl, evWords, evW8]))
        | (exfalso; omega)
    · have hD : teD e = .int .i64 e.kind :: (teD e).tail := rfl
      rw [hk] at hD
      rw [hD]
      have q1 := (he.2.2.2.2.2.1.1 (.inl hk)).1.2
      have q2 := (he.2.2.2.2.2.2.1.1 hk).1
      have q3 : (txK e.form).length ≤ 550 := by have := txK_len _ _ q2.1; have := q2.2; omega
      have q4 : ¬ noT e.lift → okN true 1 e.lift := fun h => by
        rcases (he.2.2.2.2.2.2.1.1 hk).2 with h1 | h1
        · exact absurd h1 h
        · exact h1.1.1
      have q5 : ¬ noT e.lift → (txN e.lift).length ≤ 240000000 := fun h => by
        have := txN_len _ _ _ (q4 h); have := hs.lift.wt; omega
      have q6 : noT e.lift → e.lift.sort = 0 := fun h => h.1
      have q7 : ¬ noT e.lift → e.lift.sort ≠ 0 := fun h => by have := (okN_top (q4 h)).2.1; omega
      have hw : (evW8[5]'(by decide)).length ≤ 8 := by decide
      have hw1 := jl (evW8[5]'(by decide))
      have hw1' := hw1
      simp only [List.length_cons, List.length_nil] at hw1'
      refine CP.enter hf rfl rfl rfl ?_
      repeat' ((conv => whnf); first | refine sel_f hcf ?_ | (rw [hgl]) | (rw [chunks_ev]) | refine idx_Si (xs := evW8) 5 (by decide) (by decide) ?_ | refine zA (by have := q5 (by assumption); (try simp only [List.length_append, List.length_cons, List.length_nil]); omega) ?_ | refine zO (fun _ => ?_) (fun _ => ?_) | refine zA (by first | omega | exact rfl | decide) ?_ | refine zC (hK e.form 1 q2) ?_ | refine zB (hNo e.lift) ?_ | refine zB (hN e.lift true 1 (q4 (by assumption)) hs.lift) ?_ | refine zA (by (try simp only [List.length_append, List.length_cons, List.length_nil]); omega) ?_ | fail)
      all_goals (conv => whnf)
      all_goals try first
        | exact yJ (yN (by simp only [teT, hk, pwT, hcf]; simp [evWords, evW8, *]))
        | (exfalso; omega)
    · have hD : teD e = .int .i64 e.kind :: (teD e).tail := rfl
      rw [hk] at hD
      rw [hD]
      have q1 := foldT_len (he.2.2.2.2.2.2.2.1 hk) hs.plan
      simp only [foldT, List.length_append, List.length_cons, List.length_nil] at q1
      have hw : (evW8[6]'(by decide)).length ≤ 8 := by decide
      have hw1 := jl (evW8[6]'(by decide))
      have hw1' := hw1
      simp only [List.length_cons, List.length_nil] at hw1'
      refine CP.enter hf rfl rfl rfl ?_
      repeat' ((conv => whnf); first | refine sel_f hcf ?_ | (rw [hgl]) | (rw [chunks_ev]) | refine idx_Si (xs := evW8) 6 (by decide) (by decide) ?_ | refine zA (by first | omega | exact rfl | decide) ?_ | refine zB (hFo e.plan (he.2.2.2.2.2.2.2.1 hk) hs.plan) ?_ | refine zA (by (try simp only [List.length_append, List.length_cons, List.length_nil]); omega) ?_ | fail)
      all_goals (conv => whnf)
      all_goals try first
        | exact yJ (yN (by simp only [teT, hk, pwT, hcf]; simp [foldT]))
        | (exfalso; omega)
    · have hD : teD e = .int .i64 e.kind :: (teD e).tail := rfl
      rw [hk] at hD
      rw [hD]
      have q1 := (he.2.2.2.2.2.1.1 (.inr hk)).1.2
      have q9 := jl1 ((evW8[7]'(by decide)) ++ [32] ++ e.name)
      have q8 : ((evW8[7]'(by decide))).length ≤ 8 := by decide
      simp only [List.length_append, List.length_cons, List.length_nil] at q9
      have hw : (evW8[7]'(by decide)).length ≤ 8 := by decide
      have hw1 := jl (evW8[7]'(by decide))
      have hw1' := hw1
      simp only [List.length_cons, List.length_nil] at hw1'
      refine CP.enter hf rfl rfl rfl ?_
      repeat' ((conv => whnf); first | refine sel_f hcf ?_ | (rw [hgl]) | (rw [chunks_ev]) | refine idx_Si (xs := evW8) 7 (by decide) (by decide) ?_ | refine zA (by first | omega | exact rfl | decide) ?_ | refine zB (CP.pu (hJ ((evW8[7]'(by decide)) ++ [32] ++ e.name) [e.many] (inR1 (numIn he.2.2.1.2)) (by simp only [List.length_append, List.length_cons, List.length_nil]; omega) (by simp))) ?_ | refine zA (by (try simp only [List.length_append, List.length_cons, List.length_nil]); omega) ?_ | fail)
      all_goals (conv => whnf)
      all_goals try first
        | exact yJ (yN (by simp only [teT, hk, pwT, hcf]; simp [spl, evWords, evW8]))
        | (exfalso; omega)
end Go.Ab
namespace Go.Ab
open Go
set_option maxHeartbeats 4000000
attribute [local irreducible] Need IdxK FinK NextK CKs CQs ltS
theorem k_nodeOf {L : Lk} (hf : FnR L 224 c224) : ∀ n : Nd, CP L 224 [.d (.int .i64 38), .d (.sl []), .d (.sl [tD n])] (aT (valN n)) := by
  intro n
  refine CP.enter hf rfl rfl rfl ?_
  rw [aT_val]
  repeat' ((conv => whnf); first | refine zI (fun _ => ?_) (fun _ => ?_) | refine zM (fun _ => ?_) (fun _ => ?_) | refine zG (fun _ => ?_) (fun _ => ?_) | refine zF (fun _ => ?_) (fun _ => ?_) | refine zO (fun _ => ?_) (fun _ => ?_) | refine zH ?_ | refine zK ?_ | refine zL ?_ | refine zQ (fun _ => ?_) (fun _ _ => ?_) | refine zJ (fun _ => ?_) (fun _ => ?_) | (rw [zY]; intro _) | (rw [zZ]; intro _) | (rw [zX]; intro _) | intro _ | refine zA (by first | omega | exact rfl | decide) ?_ | refine yC (by omega) ?_ | refine yA (by omega) ?_ | refine yB (by omega) ?_ | refine yF (by omega) ?_ | refine yG (by omega) ?_ | refine yE (by omega) ?_ | refine yD (by omega) (by omega) (by omega) ?_ | refine yH (by omega) ?_ | refine yI (by omega) ?_ | fail)
  all_goals (conv => whnf)
  all_goals (refine yK ?_ ?_ ?_ ?_ <;> (repeat' (first | exact trivial | exact rfl    | apply And.intro)); done)
theorem k_valueOk {L : Lk} (hf : FnR L 169 c169) (hN : ∀ n : Nd, CP L 224 [.d (.int .i64 38), .d (.sl []), .d (.sl [tD n])] (aT (valN n))) (hO : K_LiftOk L 95) : K_val L 169 := by
  intro n hs
  have h := hO (valN n) (Sm.val hs)
  have h2 := hN n
  rw [aT_val] at h h2
  refine CP.enter hf rfl rfl rfl ?_
  repeat' ((conv => whnf); first | refine zB (CP.pu (h2)) ?_ | refine zB (h) ?_ | fail)
  all_goals (conv => whnf)
  all_goals try exact yJ rfl
def stepOk (s : Ft) : Prop := nameOk s.typ ∧ LiftOK true (valN s.act)
theorem k_planOk1 {L : Lk} (hf : FnR L 171 c171) (hN : K_name L 89) (hV : K_val L 169) : ∀ s : Ft, s.act.wt ≤ 3000000 → CP L 171 [.agg (av (ftD s))] (.d (.bool (!pb (stepOk s)))) := by
  intro s hs
  refine CP.enter hf rfl rfl rfl ?_
  repeat' ((conv => whnf); first | refine zO (fun _ => ?_) (fun _ => ?_) | refine zB (hN _) ?_ | refine zB (hV s.act hs) ?_ | fail)
  all_goals (conv => whnf)
  all_goals
    refine yJ (congrArg DV.bool ?_)
    first
      | (rw [pb_f (p := stepOk s) (fun h => absurd h.1 (by assumption))]; rfl)
      | (rw [pb_congr (show stepOk s ↔ LiftOK true (valN s.act) from ⟨fun h => h.2, fun h => ⟨by assumption, h⟩⟩)]; first | (rw [pb_t (by assumption)]; rfl) | (rw [pb_f (by assumption)]; rfl))
def stepsOk (l : List Ft) : Prop := AllB l.length fun i => ∀ h : i < l.length, stepOk l[i]
theorem k_IndexFunc_step {L : Lk} (hf : FnR L 247 c247) (hC : ∀ s : Ft, s.act.wt ≤ 3000000 → CP L 171 [.agg (av (ftD s))] (.d (.bool (!pb (stepOk s))))) : ∀ l : List Ft, (∀ i (h : i < l.length), l[i].act.wt ≤ 3000000) →
    (stepsOk l → CP L 247 [.d (.sl (l.map ftD)), .fn 171 []] (.d (.int .i64 (-1)))) ∧ (∀ k, ∀ h : k < l.length, (AllB k fun j => ∀ h : j < l.length, stepOk l[j]) → ¬ stepOk l[k] → CP L 247 [.d (.sl (l.map ftD)), .fn 171 []] (.d (.int .i64 k))) := by
  intro l hs
  refine ⟨fun hn => ?_, fun k hk ha hn => ?_⟩
  · refine CP.enter hf rfl rfl rfl ?_
    repeat' ((conv => whnf); first | (rw [lenFt]; intro _) | refine idx_m (f := ftD) (by omega) ?_ | refine zI (fun _ => ?_) (fun _ => ?_) | refine zO (fun _ => ?_) (fun _ => ?_) | refine zH ?_ | refine zA (by first | omega | exact rfl | decide) ?_ | refine zB (hC (l[i]'(by omega)) (hs i (by omega))) ?_ | refine ih _ (by omega) (trivial) (by refine ⟨?_, ?_, ?_⟩ <;> (repeat' (first | exact trivial | exact yM (by omega) | exact rfl | apply And.intro))) | ((fail_if_success (have _h := ih)); refine LW.count l.length (fun i => True) (fun i => ⟨[(8, .d (.int .i64 i)), (7, .d (.int .i64 l.length)), (0, .d (.sl (l.map ftD))), (1, .fn 171 [])], 0, [], []⟩) (fun _ => ⟨rfl, rfl, rfl⟩) (fun i hi hI ih => ?_) (trivial) _ (by refine ⟨?_, ?_, ?_⟩ <;> (repeat' (first | exact trivial | exact rfl | apply And.intro)))) | fail)
    all_goals (conv => whnf)
    all_goals try first
      | exact yJ rfl
      | exact absurd (hn i (by omega) (by omega)) (by assumption)
  · refine CP.enter hf rfl rfl rfl ?_
    repeat' ((conv => whnf); first | (rw [lenFt]; intro _) | refine idx_m (f := ftD) (by omega) ?_ | refine zI (fun _ => ?_) (fun _ => ?_) | refine zO (fun _ => ?_) (fun _ => ?_) | refine zH ?_ | refine zA (by first | omega | exact rfl | decide) ?_ | refine zB (hC (l[i]'(by omega)) (hs i (by omega))) ?_ | refine ih _ (by omega) (Pf.get ?_) (by refine ⟨?_, ?_, ?_⟩ <;> (repeat' (first | exact trivial | exact yM (by omega) | exact rfl | apply And.intro))) | (exfalso; omega) | ((fail_if_success (have _h := ih)); refine LW.count l.length (fun i => i ≤ k) (fun i => ⟨[(8, .d (.int .i64 i)), (7, .d (.int .i64 l.length)), (0, .d (.sl (l.map ftD))), (1, .fn 171 [])], 0, [], []⟩) (fun _ => ⟨rfl, rfl, rfl⟩) (fun i hi hI ih => ?_) (Nat.zero_le _) _ (by refine ⟨?_, ?_, ?_⟩ <;> (repeat' (first | exact trivial | exact rfl | apply And.intro)))) | fail)
    all_goals (conv => whnf)
    all_goals try first
      | exact ⟨by
          by_cases he : i = k
          · subst he; contradiction
          · omega⟩
      | exact yJ (zW (by
          by_cases he : i = k
          · rw [he]
          · exact absurd (ha i (by omega) (by omega)) (by assumption)))
theorem k_ContainsFunc_step {L : Lk} (hf : FnR L 170 c170) (hX : ∀ l : List Ft, (∀ i (h : i < l.length), l[i].act.wt ≤ 3000000) →
    (stepsOk l → CP L 247 [.d (.sl (l.map ftD)), .fn 171 []] (.d (.int .i64 (-1)))) ∧ (∀ k, ∀ h : k < l.length, (AllB k fun j => ∀ h : j < l.length, stepOk l[j]) → ¬ stepOk l[k] → CP L 247 [.d (.sl (l.map ftD)), .fn 171 []] (.d (.int .i64 k)))) :
    ∀ l : List Ft, (∀ i (h : i < l.length), l[i].act.wt ≤ 3000000) → CP L 170 [.d (.sl (l.map ftD)), .fn 171 []] (.d (.bool (!pb (stepsOk l)))) := by
  intro l hs
  by_cases hn : stepsOk l
  · refine CP.enter hf rfl rfl rfl ?_
    repeat' ((conv => whnf); first | refine zB ((hX l hs).1 hn) ?_ | fail)
    all_goals (conv => whnf)
    exact yJ (by rw [pb_t hn]; rfl)
  · obtain ⟨k, h1, h2, h3⟩ := not_allB hn
    have h4 : ¬ stepOk l[k] := fun h => h3 fun _ => h
    refine CP.enter hf rfl rfl rfl ?_
    repeat' ((conv => whnf); first | refine zB ((hX l hs).2 k h1 h2 h4) ?_ | fail)
    all_goals (conv => whnf)
    exact yJ (by rw [pb_f hn]; simp [ile])
theorem k_planOk {L : Lk} (hf : FnR L 96 c96) (hN : K_name L 89) (hIn : K_in L 163) (hT : K_TreeOk L 164) (hK : K_KindOk L 93) (hNo : K_noT L 94) (hV : K_val L 169)
    (hX : ∀ l : List Ft, (∀ i (h : i < l.length), l[i].act.wt ≤ 3000000) → CP L 170 [.d (.sl (l.map ftD)), .fn 171 []] (.d (.bool (!pb (stepsOk l))))) : K_planOk L 96 := by
  intro p hs
  have hss : stepsOk p.steps ↔ AllB p.steps.length fun i => ∀ h : i < p.steps.length, nameOk p.steps[i].typ ∧ LiftOK true (valN p.steps[i].act) := Iff.rfl
  refine CP.enter hf rfl rfl rfl ?_
  repeat' ((conv => whnf); first | (rw [lenFs]; intro _) | (rw [lenFt]; intro _) | (rw [wrap64 (by omega)]) | refine idx_m (f := fsD) (by omega) ?_ | refine zI (fun _ => ?_) (fun _ => ?_) | refine zG (fun _ => ?_) (fun _ => ?_) | refine zO (fun _ => ?_) (fun _ => ?_) | refine zH ?_ | refine zA (by first | omega | exact rfl | decide) ?_ | refine zB (hN _) ?_ | refine zB (hIn _ _ _) ?_ | refine zB (hT p.start) ?_ | refine zB (hK (p.states[i]'(by omega)).kind) ?_ | refine zB (hNo (p.states[i]'(by omega)).save) ?_ | refine zB (hNo (p.states[i]'(by omega)).lift) ?_ | refine zB (hV (p.states[i]'(by omega)).save (hs.st i (by omega)).1) ?_ | refine zB (hV (p.states[i]'(by omega)).lift (hs.st i (by omega)).2) ?_ | refine zB (hX p.steps hs.ac) ?_ | refine ih _ (by omega) (hI.snoc fun _ => Pf.get ?_) (by refine ⟨?_, ?_, ?_⟩ <;> (repeat' (first | exact trivial | exact rfl | exact Nat.le_of_ble_eq_true rfl | exact Or.inl rfl | apply And.intro))) | ((fail_if_success (have _h := ih)); refine LW.count p.states.length (fun i => AllB i fun i => ∀ h : i < p.states.length, stateOk (i + 1 = p.states.length) p.states[i]) (fun i => ⟨[(36, .d (.int .i64 i)), (35, .d (.int .i64 p.states.length)), (34, .d (.sl (p.states.map fsD))), (3, .d (.int .i64 (p.states.length - 1))), (1, .ptr 0 0)], 1, [.var 0 (av (plD p))], []⟩) (fun _ => ⟨rfl, rfl, rfl⟩) (fun i hi hI ih => ?_) (.zero) _ (by refine ⟨?_, ?_, ?_⟩ <;> (repeat' (first | exact trivial | exact rfl | exact Nat.le_of_ble_eq_true rfl | exact Or.inl rfl | apply And.intro)))) | fail)
  all_goals (conv => whnf)
  all_goals try first
    | (have h9 := ih
       first
        | exact ⟨by clear ih h9; unfold stateOk; grind⟩
        | exact fin_y ⟨by assumption, by omega, by omega, by assumption, fun k hk h => hI k (by omega) h, hss.1 (by assumption)⟩
        | exact fin_n fun h => by have := h.2.2.2.2.1 i (by omega) (by omega); unfold stateOk at this; clear ih h9; grind
        | exact fin_n fun h => absurd (hss.2 h.2.2.2.2.2) (by assumption))
    | exact fin_n fun h => by unfold planOk at h; grind
  all_goals try (exfalso; omega)
end Go.Ab
