import Derived.Test.YtkablfpnjfbhfaaGreatDoorX11
namespace Go.Ab
open Go
set_option maxHeartbeats 4000000
attribute [local irreducible] Need IdxK FinK NextK CKs CQs ltS
def preP (s w : Str) : Prop := w.length ≤ s.length ∧ s.take w.length = w
theorem k_HasPrefix {L : Lk} (hf : FnR L 413 c413) : ∀ s w : Str, CP L 413 [.d (.str s), .d (.str w)] (.d (.bool (pb (preP s w)))) := by
  intro s w
  refine CP.enter hf rfl rfl rfl ?_
  repeat' ((conv => whnf); first | refine zM (fun _ => ?_) (fun _ => ?_) | intro _ | refine zA (by first | omega | exact rfl | decide) ?_ | fail)
  all_goals (conv => whnf)
  all_goals try first
    | exact fin_n fun h => by have := h.1; omega
    | exact yL (by
        rw [beqS_iff]
        have e : List.drop (Int.toNat 0) (List.take ((w.length : Int)).toNat s) = s.take w.length := rfl
        constructor
        · intro h; exact ⟨by omega, by first | exact h | (rw [← e]; exact h)⟩
        · intro h; exact h.2)
theorem k_CutPrefix1 {L : Lk} (hf : FnR L 383 c383) (hH : ∀ s w : Str, CP L 413 [.d (.str s), .d (.str w)] (.d (.bool (pb (preP s w))))) : ∀ s w : Str,
    (preP s w → CP L 383 [.d (.str s), .d (.str w)] (.tup [.d (.str (s.drop w.length)), .d (.bool true)])) ∧ (¬ preP s w → CP L 383 [.d (.str s), .d (.str w)] (.tup [.d (.str s), .d (.bool false)])) := by
  intro s w
  refine ⟨fun h => ?_, fun h => ?_⟩
  · have h1 := h.1
    refine CP.enter hf rfl rfl rfl ?_
    repeat' ((conv => whnf); first | refine zO (fun _ => ?_) (fun _ => ?_) | intro _ | refine zA (by first | omega | exact rfl | decide) ?_ | refine zB (hH _ _) ?_ | fail)
    all_goals (conv => whnf)
    all_goals try first
      | exact absurd h (by assumption)
      | (refine yK ?_ ?_ ?_ ?_ <;> (repeat' (first | exact trivial | (show DV.str _ = DV.str _; congr 1; simp) | exact rfl    | apply And.intro)); done)
  · refine CP.enter hf rfl rfl rfl ?_
    repeat' ((conv => whnf); first | refine zO (fun _ => ?_) (fun _ => ?_) | intro _ | refine zB (hH _ _) ?_ | fail)
    all_goals (conv => whnf)
    all_goals try first
      | exact absurd (by assumption) h
      | (refine yK ?_ ?_ ?_ ?_ <;> (repeat' (first | exact trivial | exact rfl    | apply And.intro)); done)
theorem k_CutPrefix {L : Lk} (hf : FnR L 334 c334) (hH : ∀ s w : Str,
    (preP s w → CP L 383 [.d (.str s), .d (.str w)] (.tup [.d (.str (s.drop w.length)), .d (.bool true)])) ∧ (¬ preP s w → CP L 383 [.d (.str s), .d (.str w)] (.tup [.d (.str s), .d (.bool false)]))) : ∀ s w : Str,
    (preP s w → CP L 334 [.d (.str s), .d (.str w)] (.tup [.d (.str (s.drop w.length)), .d (.bool true)])) ∧ (¬ preP s w → CP L 334 [.d (.str s), .d (.str w)] (.tup [.d (.str s), .d (.bool false)])) := by
  intro s w
  refine ⟨fun h => ?_, fun h => ?_⟩
  · refine CP.enter hf rfl rfl rfl ?_
    repeat' ((conv => whnf); first | refine zB ((hH s w).1 h) ?_ | fail)
    all_goals (conv => whnf)
    all_goals try (refine yK ?_ ?_ ?_ ?_ <;> (repeat' (first | exact trivial | exact rfl    | apply And.intro)); done)
  · refine CP.enter hf rfl rfl rfl ?_
    repeat' ((conv => whnf); first | refine zB ((hH s w).2 h) ?_ | fail)
    all_goals (conv => whnf)
    all_goals try (refine yK ?_ ?_ ?_ ?_ <;> (repeat' (first | exact trivial | exact rfl    | apply And.intro)); done)
def trBx (s : Str) (b : Bool) : Bx := .var 0 [.d (.str s), .d (.bool b)]
def K_skip (L : Lk) : Prop := ∀ (s w : Str) (b : Bool), (preP s w → CT L 288 [.ptr 0 0, .d (.str w)] 1 [trBx s b] [] (.d (.bool true)) 1 [trBx (s.drop w.length) b] []) ∧
  (¬ preP s w → CT L 288 [.ptr 0 0, .d (.str w)] 1 [trBx s b] [] (.d (.bool false)) 1 [trBx s b] [])
theorem k_skip {L : Lk} (hf : FnR L 288 c288) (hC : ∀ s w : Str,
    (preP s w → CP L 334 [.d (.str s), .d (.str w)] (.tup [.d (.str (s.drop w.length)), .d (.bool true)])) ∧ (¬ preP s w → CP L 334 [.d (.str s), .d (.str w)] (.tup [.d (.str s), .d (.bool false)]))) : K_skip L := by
  intro s w b
  refine ⟨fun h => ?_, fun h => ?_⟩
  · refine CT.enter hf rfl (Nat.le_refl _) (Nat.le_refl _) ?_
    repeat' ((conv => whnf); first | refine zB ((hC s w).1 h) ?_ | fail)
    all_goals (conv => whnf)
    all_goals try (refine yK ?_ ?_ ?_ ?_ <;> (repeat' (first | exact trivial | exact rfl  | exact Or.inl rfl  | apply And.intro)); done)
  · refine CT.enter hf rfl (Nat.le_refl _) (Nat.le_refl _) ?_
    repeat' ((conv => whnf); first | refine zB ((hC s w).2 h) ?_ | fail)
    all_goals (conv => whnf)
    all_goals try (refine yK ?_ ?_ ?_ ?_ <;> (repeat' (first | exact trivial | exact rfl  | exact Or.inl rfl  | apply And.intro)); done)
end Go.Ab
namespace Go.Ab
open Go
set_option maxHeartbeats 4000000
attribute [local irreducible] Need IdxK FinK NextK CKs CQs ltS
def cl (s : Str) (c : UInt8) : Nat := (s.takeWhile fun x => x ≠ c).length
theorem cl_le (s : Str) (c : UInt8) : cl s c ≤ s.length := by
  unfold cl
  induction s with
  | nil => simp
  | cons x r ih =>
    by_cases h : x = c
    · simp [h]
    · simp [h]; simpa using ih
def ixB (s : Str) (c : UInt8) : Int := if cl s c < s.length then (cl s c : Int) else -1
def K_until (L : Lk) : Prop := ∀ (s : Str) (b : Bool), s.length ≤ 1000000 → CT L 328 [.ptr 0 0, .d (.str [58])] 1 [trBx s b] [] (.d (.str (s.take (cl s 58)))) 1 [trBx (s.drop (cl s 58)) b] []
theorem k_until {L : Lk} (hf : FnR L 328 c328) (hI : ∀ s : Str, s.length ≤ 1000000 → CP L 338 [.d (.str s), .d (.str [58])] (.d (.int .i64 (ixB s 58)))) : K_until L := by
  intro s b hs
  have hc := cl_le s 58
  by_cases h : cl s 58 < s.length
  · have e : ixB s 58 = (cl s 58 : Int) := by rw [ixB, if_pos h]
    have h1 := hI s hs
    rw [e] at h1
    refine CT.enter hf rfl (Nat.le_refl _) (Nat.le_refl _) ?_
    repeat' ((conv => whnf); first | refine zA (by first | omega | exact rfl | decide) ?_ | refine zB (h1) ?_ | fail)
    all_goals (conv => whnf)
    all_goals try first
      | (exfalso; omega)
      | (refine yK ?_ ?_ ?_ ?_ <;> (repeat' (first | exact trivial | (show DV.str _ = DV.str _; congr 1; simp) | exact rfl  | exact Or.inl rfl  | apply And.intro)); done)
  · have e : ixB s 58 = -1 := by rw [ixB, if_neg h]
    have h1 := hI s hs
    rw [e] at h1
    have e2 : cl s 58 = s.length := by omega
    rw [e2]
    refine CT.enter hf rfl (Nat.le_refl _) (Nat.le_refl _) ?_
    repeat' ((conv => whnf); first | intro _ | refine zA (by first | omega | exact rfl | decide) ?_ | refine zB (h1) ?_ | fail)
    all_goals (conv => whnf)
    all_goals try first
      | (exfalso; omega)
      | (refine yK ?_ ?_ ?_ ?_ <;> (repeat' (first | exact trivial | (show DV.str _ = DV.str _; congr 1; simp) | exact rfl  | exact Or.inl rfl  | apply And.intro)); done)
noncomputable def nmR (s : Str) (b : Bool) : Str × Bool :=
  if b = true then (s.drop (cl s 58), true) else if pb (preP (s.drop (cl s 58)) [58]) = true then (s.drop (cl s 58 + 1), !pb (nameOk (s.take (cl s 58)))) else (s.drop (cl s 58), true)
def K_nm (L : Lk) : Prop := ∀ (s : Str) (b : Bool), s.length ≤ 1000000 → CT L 291 [.ptr 0 0] 1 [trBx s b] [] (.d (.str (s.take (cl s 58)))) 1 [trBx (nmR s b).1 (nmR s b).2] []
theorem k_nm {L : Lk} (hf : FnR L 291 c291) (hU : K_until L) (hS : K_skip L) (hN : K_name L 89) : K_nm L := by
  intro s b hs
  cases b with
  | true =>
    refine CT.enter hf rfl (Nat.le_refl _) (Nat.le_refl _) ?_
    repeat' ((conv => whnf); first | refine zD (hU s true hs) [0] [] rfl rfl rfl rfl rfl ⟨rfl, trivial⟩ trivial ?_ | fail)
    all_goals (conv => whnf)
    all_goals try (refine yK ?_ ?_ ?_ ?_ <;> (repeat' (first | exact trivial | exact rfl  | exact Or.inl rfl  | apply And.intro)); done)
  | false =>
    by_cases h : preP (s.drop (cl s 58)) [58]
    · have e : nmR s false = (s.drop (cl s 58 + 1), !pb (nameOk (s.take (cl s 58)))) := by simp [nmR, h]
      rw [e]
      refine CT.enter hf rfl (Nat.le_refl _) (Nat.le_refl _) ?_
      repeat' ((conv => whnf); first | refine zO (fun _ => ?_) (fun _ => ?_) | refine zD (hU s false hs) [0] [] rfl rfl rfl rfl rfl ⟨rfl, trivial⟩ trivial ?_ | refine zD ((hS (s.drop (cl s 58)) [58] false).1 h) [0] [] rfl rfl rfl rfl rfl ⟨rfl, trivial⟩ trivial ?_ | refine zB (hN (s.take (cl s 58))) ?_ | fail)
      all_goals (conv => whnf)
      all_goals try first
        | (refine yK ?_ ?_ ?_ ?_ <;> (repeat' (first | exact trivial | (show DV.str _ = DV.str _; congr 1; simp) | exact rfl  | exact Or.inl rfl  | apply And.intro)); done)
        | (rw [pb_t (by assumption)]; (refine yK ?_ ?_ ?_ ?_ <;> (repeat' (first | exact trivial | (show DV.str _ = DV.str _; congr 1; simp) | exact rfl  | exact Or.inl rfl  | apply And.intro)); done))
        | (rw [pb_f (by assumption)]; (refine yK ?_ ?_ ?_ ?_ <;> (repeat' (first | exact trivial | (show DV.str _ = DV.str _; congr 1; simp) | exact rfl  | exact Or.inl rfl  | apply And.intro)); done))
    · have e : nmR s false = (s.drop (cl s 58), true) := by simp [nmR, h]
      rw [e]
      refine CT.enter hf rfl (Nat.le_refl _) (Nat.le_refl _) ?_
      repeat' ((conv => whnf); first | refine zD (hU s false hs) [0] [] rfl rfl rfl rfl rfl ⟨rfl, trivial⟩ trivial ?_ | refine zD ((hS (s.drop (cl s 58)) [58] false).2 h) [0] [] rfl rfl rfl rfl rfl ⟨rfl, trivial⟩ trivial ?_ | fail)
      all_goals (conv => whnf)
      all_goals try (refine yK ?_ ?_ ?_ ?_ <;> (repeat' (first | exact trivial | exact rfl  | exact Or.inl rfl  | apply And.intro)); done)
end Go.Ab
namespace Go.Ab
open Go
def nmS (s : Str) : Str := s.take (cl s 58)
inductive RdM (P : Str → Bool → Nd → Str → Bool → Prop) : Nat → List Str → List Nd → Str → Bool → List Str → List Nd → Str → Bool → Prop where
  | stop (ns : List Str) (ks : List Nd) (s : Str) : RdM P 0 ns ks s true ns ks s true
  | last (ns : List Str) (ks : List Nd) (s : Str) (k : Nd) (s2 : Str) (b2 : Bool) (hb : ns.length ≤ 800 ∧ ks.length ≤ 800 ∧ s.length ≤ 800) (h : P (nmR s false).1 (nmR s false).2 k s2 b2) (hp : preP s2 [125]) :
      RdM P 0 ns ks s false (ns ++ [nmS s]) (ks ++ [k]) (s2.drop 1) b2
  | step (m : Nat) (ns : List Str) (ks : List Nd) (s : Str) (k : Nd) (s2 : Str) (b2 : Bool) (s3 : Str) (b3 : Bool) (ns' : List Str) (ks' : List Nd) (s' : Str) (b' : Bool) (hb : ns.length ≤ 800 ∧ ks.length ≤ 800 ∧ s.length ≤ 800)
      (h : P (nmR s false).1 (nmR s false).2 k s2 b2) (hp : ¬ preP s2 [125]) (h3 : (b2 = true ∧ s3 = s2 ∧ b3 = true) ∨ (b2 = false ∧ preP s2 [44] ∧ s3 = s2.drop 1 ∧ b3 = false) ∨ (b2 = false ∧ ¬ preP s2 [44] ∧ s3 = s2 ∧ b3 = true))
      (h5 : RdM P m (ns ++ [nmS s]) (ks ++ [k]) s3 b3 ns' ks' s' b') : RdM P (m + 1) ns ks s false ns' ks' s' b'
def zN : Nd := .mk 0 0 [] [] []
def Clos (s1 : Str) (b1 : Bool) (s' : Str) (b' : Bool) : Prop := (b1 = true ∧ s' = s1 ∧ b' = true) ∨ (b1 = false ∧ preP s1 [93] ∧ s' = s1.drop 1 ∧ b' = false) ∨ (b1 = false ∧ ¬ preP s1 [93] ∧ s' = s1 ∧ b' = true)
def RdJ : Nat → Str → Bool → Nd → Str → Bool → Prop
  | 0, s, _, k, s', b' => k = zN ∧ s' = s ∧ b' = true
  | n + 1, s, b, k, s', b' => (b = true ∧ k = zN ∧ s' = s ∧ b' = true) ∨ (b = false ∧ (
      (preP s [91] ∧ ∃ k1 s1 b1, RdJ n (s.drop 1) false k1 s1 b1 ∧ Clos s1 b1 s' b' ∧ k = .mk 4 0 [] [] [k1]) ∨
      (¬ preP s [91] ∧ preP s [63] ∧ ∃ k1, RdJ n (s.drop 1) false k1 s' b' ∧ k = .mk 6 0 [] [] [k1]) ∨
      (¬ preP s [91] ∧ ¬ preP s [63] ∧ preP s [123] ∧ ((preP (s.drop 1) [125] ∧ s' = (s.drop 1).drop 1 ∧ b' = false ∧ k = .mk 5 0 [] [] []) ∨ (¬ preP (s.drop 1) [125] ∧ ∃ m ns ks, RdM (RdJ n) m [] [] (s.drop 1) false ns ks s' b' ∧ k = .mk 5 0 [] ns ks))) ∨
      (¬ preP s [91] ∧ ¬ preP s [63] ∧ ¬ preP s [123] ∧ preP s [110, 117, 109] ∧ s' = s.drop 3 ∧ b' = false ∧ k = .mk 1 0 [] [] []) ∨
      (¬ preP s [91] ∧ ¬ preP s [63] ∧ ¬ preP s [123] ∧ ¬ preP s [110, 117, 109] ∧ preP s [116, 101, 120, 116] ∧ s' = s.drop 4 ∧ b' = false ∧ k = .mk 2 0 [] [] []) ∨
      (¬ preP s [91] ∧ ¬ preP s [63] ∧ ¬ preP s [123] ∧ ¬ preP s [110, 117, 109] ∧ ¬ preP s [116, 101, 120, 116] ∧ preP s [102, 108, 97, 103] ∧ s' = s.drop 4 ∧ b' = false ∧ k = .mk 3 0 [] [] []) ∨
      (¬ preP s [91] ∧ ¬ preP s [63] ∧ ¬ preP s [123] ∧ ¬ preP s [110, 117, 109] ∧ ¬ preP s [116, 101, 120, 116] ∧ ¬ preP s [102, 108, 97, 103] ∧ s' = s ∧ b' = true ∧ k = zN)))
theorem nmR_len (s : Str) (b : Bool) : (nmR s b).1.length ≤ s.length := by
  unfold nmR; repeat' split
  all_goals simp
theorem preP_len {s w : Str} (h : preP s w) : w.length ≤ s.length := h.1
theorem nmR_ok {s : Str} (h : (nmR s false).2 = false) : (nmR s false).1.length + 1 ≤ s.length := by
  unfold nmR at *
  simp only [Bool.false_eq_true, if_false] at *
  split
  · rename_i hp
    have := preP_len (pb_iff.1 hp)
    simp at this ⊢; omega
  · rename_i hp; rw [if_neg hp] at h; cases h
theorem RdM.len {P : Str → Bool → Nd → Str → Bool → Prop} (hP : ∀ s b k s' b', P s b k s' b' → s'.length ≤ s.length) {m : Nat} {ns : List Str} {ks : List Nd} {s : Str} {b : Bool} {ns' : List Str} {ks' : List Nd} {s' : Str} {b' : Bool}
    (h : RdM P m ns ks s b ns' ks' s' b') : s'.length ≤ s.length := by
  induction h with
  | stop => exact Nat.le_refl _
  | last ns ks s k s2 b2 hb h hp => have := hP _ _ _ _ _ h; have := nmR_len s false; simp; omega
  | step m ns ks s k s2 b2 s3 b3 ns' ks' s' b' hb h hp h3 h5 ih =>
    have := hP _ _ _ _ _ h; have := nmR_len s false
    have : s3.length ≤ s2.length := by rcases h3 with ⟨_, rfl, _⟩ | ⟨_, _, rfl, _⟩ | ⟨_, _, rfl, _⟩ <;> simp
    omega
theorem Clos.len {s1 : Str} {b1 : Bool} {s' : Str} {b' : Bool} (h : Clos s1 b1 s' b') : s'.length ≤ s1.length := by
  rcases h with ⟨_, rfl, _⟩ | ⟨_, _, rfl, _⟩ | ⟨_, _, rfl, _⟩ <;> simp
theorem Clos.ex (s1 : Str) (b1 : Bool) : ∃ s' b', Clos s1 b1 s' b' := by
  cases b1 with
  | true => exact ⟨_, _, .inl ⟨rfl, rfl, rfl⟩⟩
  | false =>
    by_cases h : preP s1 [93]
    · exact ⟨_, _, .inr (.inl ⟨rfl, h, rfl, rfl⟩)⟩
    · exact ⟨_, _, .inr (.inr ⟨rfl, h, rfl, rfl⟩)⟩
theorem RdJ.len : ∀ {n : Nat} {s : Str} {b : Bool} {k : Nd} {s' : Str} {b' : Bool}, RdJ n s b k s' b' → s'.length ≤ s.length := by
  intro n
  induction n with
  | zero => intro s b k s' b' h; obtain ⟨_, rfl, _⟩ := h; exact Nat.le_refl _
  | succ n ih =>
    intro s b k s' b' h
    rcases h with ⟨_, _, rfl, _⟩ | ⟨_, ⟨_, k1, s1, b1, h, hc, _⟩ | ⟨_, _, k1, h, _⟩ | ⟨_, _, _, ⟨_, rfl, _⟩ | ⟨_, m, ns, ks, h, _⟩⟩ | ⟨_, _, _, _, rfl, _⟩ | ⟨_, _, _, _, _, rfl, _⟩ | ⟨_, _, _, _, _, _, rfl, _⟩ | ⟨_, _, _, _, _, _, rfl, _⟩⟩
    · exact Nat.le_refl _
    · have := ih h; have := hc.len; simp at *; omega
    · have := ih h; simp at *; omega
    · simp
    · have := RdM.len (fun s b k s' b' h => ih h) h; simp at *; omega
    all_goals simp
theorem RdJ.bad {n : Nat} {s : Str} {k : Nd} {s' : Str} {b' : Bool} (h : RdJ n s true k s' b') : b' = true := by
  cases n with
  | zero => exact h.2.2
  | succ n => rcases h with h | ⟨h, _⟩; exact h.2.2.2; cases h
theorem RdM.ex {P : Str → Bool → Nd → Str → Bool → Prop} (hP : ∀ s b k s' b', P s b k s' b' → s'.length ≤ s.length) (hB : ∀ s k s' b', P s true k s' b' → b' = true) (hx : ∀ s b, s.length ≤ 800 → ∃ k s' b', P s b k s' b') :
    ∀ d ns ks s b, s.length = d → (b = false → ns.length + s.length ≤ 800 ∧ ks.length = ns.length) → ∃ m ns' ks' s' b', RdM P m ns ks s b ns' ks' s' b' := by
  intro d
  induction d using Nat.strongRecOn with
  | ind d ih =>
    intro ns ks s b hd hn
    cases b with
    | true => exact ⟨_, _, _, _, _, .stop ns ks s⟩
    | false =>
      obtain ⟨hn, hk⟩ := hn rfl
      have hl := nmR_len s false
      obtain ⟨k, s2, b2, h⟩ := hx (nmR s false).1 (nmR s false).2 (by omega)
      have h2 := hP _ _ _ _ _ h
      by_cases hp : preP s2 [125]
      · exact ⟨_, _, _, _, _, .last ns ks s k s2 b2 ⟨by omega, by omega, by omega⟩ h hp⟩
      · cases b2 with
        | true => exact ⟨_, _, _, _, _, .step 0 ns ks s k s2 true s2 true _ _ _ _ ⟨by omega, by omega, by omega⟩ h hp (.inl ⟨rfl, rfl, rfl⟩) (.stop _ _ _)⟩
        | false =>
          have hb1 : (nmR s false).2 = false := by
            cases hb : (nmR s false).2 with
            | false => rfl
            | true => rw [hb] at h; have := hB _ _ _ _ h; cases this
          have h1 := nmR_ok hb1
          by_cases hc : preP s2 [44]
          · have := preP_len hc
            simp at this
            obtain ⟨m, ns', ks', s', b', h5⟩ := ih (s2.drop 1).length (by simp; omega) (ns ++ [nmS s]) (ks ++ [k]) (s2.drop 1) false rfl (fun _ => by simp; omega)
            exact ⟨_, _, _, _, _, .step m ns ks s k s2 false _ false _ _ _ _ ⟨by omega, by omega, by omega⟩ h hp (.inr (.inl ⟨rfl, hc, rfl, rfl⟩)) h5⟩
          · exact ⟨_, _, _, _, _, .step 0 ns ks s k s2 false s2 true _ _ _ _ ⟨by omega, by omega, by omega⟩ h hp (.inr (.inr ⟨rfl, hc, rfl, rfl⟩)) (.stop _ _ _)⟩
theorem RdJ.ex : ∀ n s b, s.length ≤ 800 → ∃ k s' b', RdJ n s b k s' b' := by
  intro n
  induction n with
  | zero => intro s b _; exact ⟨_, _, _, rfl, rfl, rfl⟩
  | succ n ih =>
    intro s b hs
    cases b with
    | true => exact ⟨_, _, _, .inl ⟨rfl, rfl, rfl, rfl⟩⟩
    | false =>
      by_cases h1 : preP s [91]
      · obtain ⟨k1, s1, b1, h⟩ := ih (s.drop 1) false (by simp; omega)
        obtain ⟨s', b', hc⟩ := Clos.ex s1 b1
        exact ⟨_, _, _, .inr ⟨rfl, .inl ⟨h1, k1, s1, b1, h, hc, rfl⟩⟩⟩
      by_cases h2 : preP s [63]
      · obtain ⟨k1, s1, b1, h⟩ := ih (s.drop 1) false (by simp; omega)
        exact ⟨_, _, _, .inr ⟨rfl, .inr (.inl ⟨h1, h2, k1, h, rfl⟩)⟩⟩
      by_cases h3 : preP s [123]
      · by_cases h4 : preP (s.drop 1) [125]
        · exact ⟨_, _, _, .inr ⟨rfl, .inr (.inr (.inl ⟨h1, h2, h3, .inl ⟨h4, rfl, rfl, rfl⟩⟩))⟩⟩
        · have h3l := preP_len h3
          obtain ⟨m, ns, ks, s', b', h⟩ := RdM.ex (P := RdJ n) (fun s b k s' b' h => h.len) (fun s k s' b' h => h.bad) ih _ [] [] (s.drop 1) false rfl (fun _ => by simp; omega)
          exact ⟨_, _, _, .inr ⟨rfl, .inr (.inr (.inl ⟨h1, h2, h3, .inr ⟨h4, m, ns, ks, h, rfl⟩⟩))⟩⟩
      by_cases h4 : preP s [110, 117, 109]
      · exact ⟨_, _, _, .inr ⟨rfl, .inr (.inr (.inr (.inl ⟨h1, h2, h3, h4, rfl, rfl, rfl⟩)))⟩⟩
      by_cases h5 : preP s [116, 101, 120, 116]
      · exact ⟨_, _, _, .inr ⟨rfl, .inr (.inr (.inr (.inr (.inl ⟨h1, h2, h3, h4, h5, rfl, rfl, rfl⟩))))⟩⟩
      by_cases h6 : preP s [102, 108, 97, 103]
      · exact ⟨_, _, _, .inr ⟨rfl, .inr (.inr (.inr (.inr (.inr (.inl ⟨h1, h2, h3, h4, h5, h6, rfl, rfl, rfl⟩)))))⟩⟩
      · exact ⟨_, _, _, .inr ⟨rfl, .inr (.inr (.inr (.inr (.inr (.inr ⟨h1, h2, h3, h4, h5, h6, rfl, rfl, rfl⟩)))))⟩⟩
theorem preP_app (w r : Str) : preP (w ++ r) w := ⟨by simp, by simp⟩
theorem preP_no {x y : UInt8} {w r : Str} (h : x ≠ y) : ¬ preP (x :: r) (y :: w) := by
  rintro ⟨_, h2⟩
  simp at h2
  exact h h2.1
theorem cl_at (nm r : Str) (h : ∀ x, x ∈ nm → x ≠ 58) : cl (nm ++ [58] ++ r) 58 = nm.length := by
  unfold cl
  induction nm with
  | nil => simp
  | cons x t ih =>
    have h0 := h x (by simp)
    have := ih fun y hy => h y (by simp [hy])
    simp [h0]; simpa using this
theorem name_no58 {nm : Str} (h : nameOk nm) : ∀ x, x ∈ nm → x ≠ 58 := by
  intro x hx e
  obtain ⟨i, hi, rfl⟩ := List.getElem_of_mem hx
  have := (h.2 i hi hi).1
  unfold chOk chLow at this
  rw [e] at this
  have e58 : (58 : UInt8).toNat = 58 := rfl
  omega
theorem nmR_good {nm r : Str} (h : nameOk nm) : nmR (nm ++ [58] ++ r) false = (r, false) ∧ nmS (nm ++ [58] ++ r) = nm := by
  have hc := cl_at nm r (name_no58 h)
  unfold nmR nmS
  rw [hc]
  have e1 : (nm ++ [58] ++ r).drop nm.length = [58] ++ r := by rw [List.append_assoc]; exact List.drop_left' rfl
  have e2 : (nm ++ [58] ++ r).take nm.length = nm := by rw [List.append_assoc]; exact List.take_left' rfl
  have e3 : (nm ++ [58] ++ r).drop (nm.length + 1) = r := List.drop_left' (by simp)
  rw [e1, e2, e3]
  refine ⟨?_, rfl⟩
  rw [if_neg (by simp), if_pos (pb_t (preP_app [58] r)), pb_t h]; rfl
def prtR : List (Str × Str) → Str
  | [] => []
  | (n, t) :: r => [44] ++ n ++ [58] ++ t ++ prtR r
def prt : List (Str × Str) → Str
  | [] => []
  | (n, t) :: r => n ++ [58] ++ t ++ prtR r
theorem prtR_snoc : ∀ (l : List (Str × Str)) (n t : Str), prtR (l ++ [(n, t)]) = prtR l ++ [44] ++ n ++ [58] ++ t
  | [], n, t => by simp [prtR]
  | (a, b) :: r, n, t => by
    have := prtR_snoc r n t
    simp only [List.cons_append, prtR, this, List.append_assoc]
theorem prt_snoc : ∀ (l : List (Str × Str)) (n t : Str), l ≠ [] → prt (l ++ [(n, t)]) = prt l ++ [44] ++ n ++ [58] ++ t
  | (a, b) :: r, n, t, _ => by simp only [List.cons_append, prt, prtR_snoc, List.append_assoc]
theorem prtR_ne : ∀ {l : List (Str × Str)}, l ≠ [] → prtR l = [44] ++ prt l
  | (a, b) :: r, _ => by simp only [prt, prtR, List.append_assoc]
theorem joinK_prt {ns : List Str} {ks : List Nd} (hl : ns.length = ks.length) : ∀ i, i ≤ ks.length → joinK true ns (ks.map txK) i = prt ((ns.take i).zip ((ks.take i).map txK)) := by
  intro i
  induction i with
  | zero => intro _; simp [joinK, prt]
  | succ i ih =>
    intro h
    have e : (ns.take (i + 1)).zip ((ks.take (i + 1)).map txK) = (ns.take i).zip ((ks.take i).map txK) ++ [(ns[i]'(by omega), txK ks[i])] := by
      rw [List.take_add_one, List.take_add_one, List.getElem?_eq_getElem (by omega), List.getElem?_eq_getElem (by omega), List.map_append, List.zip_append (by simp [hl])]; rfl
    rw [e]
    by_cases h0 : 0 < i
    · rw [joinK_tp h0 (by omega) (by omega), ih (by omega), prt_snoc]
      intro h2
      have := congrArg List.length h2
      rw [List.length_zip, List.length_map, List.length_take, List.length_take] at this
      simp only [List.length_nil] at this; omega
    · have : i = 0 := by omega
      subst this
      rw [joinK_tz h0 (by omega) (by omega)]; simp [joinK, prt, prtR]
theorem first_name {nm : Str} (h : nameOk nm) (r : Str) : ¬ preP (nm ++ r) [125] := by
  have h1 := h.1.1
  cases nm with
  | nil => simp at h1
  | cons x t =>
    have := (h.2 0 (by simp) (by simp)).2 rfl
    unfold chLow at this
    simp only [List.getElem_cons_zero] at this
    exact preP_no (fun e => by rw [e] at this; have e58 : (125 : UInt8).toNat = 125 := rfl; omega)
theorem RdJ_good : ∀ (k : Nd) (d : Int) (n : Nat) (r : Str), okK d k → d = 7 - n → (txK k ++ r).length ≤ 800 → ∃ k', cK k' = cK k ∧ RdJ n (txK k ++ r) false k' r false := by
  refine Nd.ind fun k ih => fun d n r hd hn hl => ?_
  have ht := okK_top hd
  have hal := ht.2
  obtain ⟨n, rfl⟩ : ∃ m, n = m + 1 := ⟨n - 1, by omega⟩
  have e := txK_eq k
  unfold aloneK at hal
  have leaf : k.names.length = 0 → k.kids.length = 0 → cK (.mk k.sort 0 [] [] []) = cK k := fun h1 h2 => by
    rw [cK_eq, cK_eq, List.eq_nil_of_length_eq_zero h1, List.eq_nil_of_length_eq_zero h2]; rfl
  have one : k.names.length = 0 → ∀ h : k.kids.length = 1, ∀ k1, cK k1 = cK (k.kids[0]'(by omega)) → cK (.mk k.sort 0 [] [] [k1]) = cK k := fun h1 h2 k1 h3 => by
    have : k.kids = [k.kids[0]'(by omega)] := by
      apply List.ext_getElem (by simp [h2])
      intro i a b
      have : i = 0 := by omega
      subst this; rfl
    rw [cK_eq, cK_eq k, List.eq_nil_of_length_eq_zero h1, this]
    simp [Nd.sort, Nd.names, Nd.kids, h3]
  by_cases h1 : k.sort = 1
  · rw [if_pos h1] at e; rw [e]
    refine ⟨.mk 1 0 [] [] [], by rw [← h1]; exact leaf (by omega) (by omega), .inr ⟨rfl, .inr (.inr (.inr (.inl ⟨preP_no (by decide), preP_no (by decide), preP_no (by decide), preP_app _ _, rfl, rfl, rfl⟩)))⟩⟩
  rw [if_neg h1] at e
  by_cases h2 : k.sort = 2
  · rw [if_pos h2] at e; rw [e]
    refine ⟨.mk 2 0 [] [] [], by rw [← h2]; exact leaf (by omega) (by omega), .inr ⟨rfl, .inr (.inr (.inr (.inr (.inl ⟨preP_no (by decide), preP_no (by decide), preP_no (by decide), preP_no (by decide), preP_app _ _, rfl, rfl, rfl⟩))))⟩⟩
  rw [if_neg h2] at e
  by_cases h3 : k.sort = 3
  · rw [if_pos h3] at e; rw [e]
    refine ⟨.mk 3 0 [] [] [], by rw [← h3]; exact leaf (by omega) (by omega), .inr ⟨rfl, .inr (.inr (.inr (.inr (.inr (.inl ⟨preP_no (by decide), preP_no (by decide), preP_no (by decide), preP_no (by decide), preP_no (by decide), preP_app _ _, rfl, rfl, rfl⟩)))))⟩⟩
  rw [if_neg h3] at e
  by_cases h4 : k.sort = 4
  · have hk : k.kids.length = 1 := by omega
    rw [if_pos h4, headD_map (by omega)] at e; rw [e] at hl ⊢
    obtain ⟨k1, q1, q2⟩ := ih _ (List.getElem_mem (show 0 < k.kids.length by omega)) (d + 1) n ([93] ++ r) (okK_any hd (by omega)) (by omega) (by simp at hl ⊢; omega)
    refine ⟨.mk 4 0 [] [] [k1], by rw [← h4]; exact one (by omega) hk _ q1, .inr ⟨rfl, .inl ⟨?_, k1, _, _, ?_, .inr (.inl ⟨rfl, preP_app [93] r, rfl, rfl⟩), rfl⟩⟩⟩
    · rw [List.append_assoc, List.append_assoc]; exact preP_app _ _
    · simpa using q2
  rw [if_neg h4] at e
  by_cases h6 : k.sort = 6
  · have hk : k.kids.length = 1 := by omega
    rw [if_pos h6, headD_map (by omega)] at e; rw [e] at hl ⊢
    obtain ⟨k1, q1, q2⟩ := ih _ (List.getElem_mem (show 0 < k.kids.length by omega)) (d + 1) n r (okK_any hd (by omega)) (by omega) (by simp at hl ⊢; omega)
    refine ⟨.mk 6 0 [] [] [k1], by rw [← h6]; exact one (by omega) hk _ q1, .inr ⟨rfl, .inr (.inl ⟨?_, ?_, k1, ?_, rfl⟩)⟩⟩
    · exact preP_no (by decide)
    · rw [List.append_assoc]; exact preP_app _ _
    · simpa using q2
  rw [if_neg h6] at e
  have h5 : k.sort = 5 := by omega
  have hr : k.names.length = k.kids.length ∧ rise k.names := by grind
  obtain ⟨hlk, hrise⟩ := hr
  have ej := joinK_prt (ns := k.names) (ks := k.kids) hlk k.kids.length (Nat.le_refl _)
  rw [List.take_of_length_le (Nat.le_refl _), List.take_of_length_le (by omega)] at ej
  rw [e, ej] at hl ⊢
  have hnm : ∀ i (h : i < k.names.length), nameOk k.names[i] := fun i h => (hrise i h h).1
  have key : ∀ q i, i + q = k.kids.length → i < k.kids.length → (prt ((k.names.drop i).zip ((k.kids.drop i).map txK)) ++ [125] ++ r).length + i ≤ 800 → ∀ ks0 : List Nd, ks0.map cK = (k.kids.take i).map cK → ∃ ks1 m, ks1.map cK = k.kids.map cK ∧
      RdM (RdJ n) m (k.names.take i) ks0 (prt ((k.names.drop i).zip ((k.kids.drop i).map txK)) ++ [125] ++ r) false k.names ks1 r false := by
    intro q
    induction q with
    | zero => intro i h1 h2; omega
    | succ q ihq =>
      intro i hi hil hlen ks0 h0
      have hlen0 : ks0.length = i := by have := congrArg List.length h0; simp at this; omega
      have ed1 : k.names.drop i = k.names[i]'(by omega) :: k.names.drop (i + 1) := by rw [List.drop_eq_getElem_cons (by omega)]
      have ed2 : k.kids.drop i = k.kids[i] :: k.kids.drop (i + 1) := by rw [List.drop_eq_getElem_cons (by omega)]
      have et : k.names.take (i + 1) = k.names.take i ++ [k.names[i]'(by omega)] := by rw [List.take_add_one, List.getElem?_eq_getElem (by omega)]; rfl
      have etk : (k.kids.take (i + 1)).map cK = (k.kids.take i).map cK ++ [cK (k.kids[i]'(by omega))] := by rw [List.take_add_one, List.getElem?_eq_getElem (by omega), List.map_append]; rfl
      have hn1 := hnm i (by omega)
      have hn8 := hn1.1.1
      by_cases hlast : i + 1 = k.kids.length
      · have ez1 : k.names.drop (i + 1) = [] := by rw [List.drop_eq_nil_iff]; omega
        have ez2 : k.kids.drop (i + 1) = [] := by rw [List.drop_eq_nil_iff]; omega
        have ep : prt ((k.names.drop i).zip ((k.kids.drop i).map txK)) ++ [125] ++ r = k.names[i]'(by omega) ++ [58] ++ (txK k.kids[i] ++ ([125] ++ r)) := by
          rw [ed1, ed2, ez1, ez2]; simp [prt, prtR]
        rw [ep] at hlen ⊢
        obtain ⟨g1, g2⟩ := nmR_good (r := txK k.kids[i] ++ ([125] ++ r)) hn1
        obtain ⟨k1, q1, q2⟩ := ih _ (List.getElem_mem hil) (d + 1) n ([125] ++ r) (okK_any hd hil) (by omega) (by simp at hlen ⊢; omega)
        refine ⟨ks0 ++ [k1], 0, ?_, ?_⟩
        · rw [List.map_append, h0]
          show _ ++ [cK k1] = _
          rw [q1, ← etk, List.take_of_length_le (by omega)]
        · have := RdM.last (P := RdJ n) (k.names.take i) ks0 (k.names[i]'(by omega) ++ [58] ++ (txK k.kids[i] ++ ([125] ++ r))) k1 ([125] ++ r) false ⟨by rw [List.length_take]; omega, by omega, by omega⟩ (by rw [g1]; exact q2) (preP_app [125] r)
          have etn : k.names.take (i + 1) = k.names := List.take_of_length_le (by omega)
          rw [g2, ← et, etn] at this
          exact this
      · have ep : prt ((k.names.drop i).zip ((k.kids.drop i).map txK)) ++ [125] ++ r = k.names[i]'(by omega) ++ [58] ++ (txK k.kids[i] ++ ([44] ++ (prt ((k.names.drop (i + 1)).zip ((k.kids.drop (i + 1)).map txK)) ++ [125] ++ r))) := by
          have hne : (k.names.drop (i + 1)).zip ((k.kids.drop (i + 1)).map txK) ≠ [] := fun h2 => by
            have := congrArg List.length h2
            simp at this; omega
          rw [ed1, ed2, List.map_cons, List.zip_cons_cons, prt, prtR_ne hne]; simp only [List.append_assoc]
        rw [ep] at hlen ⊢
        generalize hrest : prt ((k.names.drop (i + 1)).zip ((k.kids.drop (i + 1)).map txK)) ++ [125] ++ r = rest at *
        obtain ⟨g1, g2⟩ := nmR_good (r := txK k.kids[i] ++ ([44] ++ rest)) hn1
        obtain ⟨k1, q1, q2⟩ := ih _ (List.getElem_mem hil) (d + 1) n ([44] ++ rest) (okK_any hd hil) (by omega) (by simp at hlen ⊢; omega)
        obtain ⟨ks1, m, r1, r2⟩ := ihq (i + 1) (by omega) (by omega) (by rw [hrest]; simp at hlen ⊢; omega) (ks0 ++ [k1]) (by rw [etk, List.map_append, h0]; show _ ++ [cK k1] = _; rw [q1])
        rw [hrest] at r2
        refine ⟨ks1, m + 1, r1, ?_⟩
        have hne : ¬ preP ([44] ++ rest) [125] := preP_no (by decide)
        have := RdM.step (P := RdJ n) m (k.names.take i) ks0 (k.names[i]'(by omega) ++ [58] ++ (txK k.kids[i] ++ ([44] ++ rest))) k1 ([44] ++ rest) false rest false k.names ks1 r false ⟨by rw [List.length_take]; omega, by omega, by omega⟩ (by rw [g1]; exact q2) hne (.inr (.inl ⟨rfl, preP_app [44] rest, rfl, rfl⟩)) (by rw [g2, ← et]; exact r2)
        exact this
  by_cases hz : k.kids.length = 0
  · have hz1 := List.eq_nil_of_length_eq_zero hz
    have hz2 := List.eq_nil_of_length_eq_zero (show k.names.length = 0 by omega)
    have ez : k.names.zip (k.kids.map txK) = [] := by rw [hz1, hz2]; rfl
    rw [ez]
    refine ⟨.mk 5 0 [] [] [], by rw [← h5]; exact leaf (by omega) (by omega), .inr ⟨rfl, .inr (.inr (.inl ⟨preP_no (by decide), preP_no (by decide), ?_, .inl ⟨?_, ?_, rfl, rfl⟩⟩))⟩⟩
    · exact preP_app [123] ([125] ++ r)
    · exact preP_app [125] r
    · rfl
  · obtain ⟨ks1, m, r1, r2⟩ := key k.kids.length 0 (by omega) (by omega) (by simp at hl ⊢; omega) [] rfl
    have hn0 := hnm 0 (by omega)
    refine ⟨.mk 5 0 [] k.names ks1, ?_, .inr ⟨rfl, .inr (.inr (.inl ⟨preP_no (by decide), preP_no (by decide), ?_, .inr ⟨?_, m, k.names, ks1, ?_, rfl⟩⟩))⟩⟩
    · rw [cK_eq]; show [DV.int .i64 5, .sl (encS k.names), .sl (ks1.map cK)] = cK k; rw [cK_eq k, h5, r1]
    · rw [List.append_assoc, List.append_assoc]; exact preP_app _ _
    · have ed1 : k.names = k.names[0]'(by omega) :: k.names.drop 1 := by
        have := List.drop_eq_getElem_cons (l := k.names) (i := 0) (by omega); simpa using this
      have ed2 : k.kids = k.kids[0]'(by omega) :: k.kids.drop 1 := by
        have := List.drop_eq_getElem_cons (l := k.kids) (i := 0) (by omega); simpa using this
      have e0 : prt (k.names.zip (k.kids.map txK)) = k.names[0]'(by omega) ++ (([58] : Str) ++ txK (k.kids[0]'(by omega)) ++ prtR ((k.names.drop 1).zip ((k.kids.drop 1).map txK))) := by
        have : k.names.zip (k.kids.map txK) = (k.names[0]'(by omega), txK (k.kids[0]'(by omega))) :: (k.names.drop 1).zip ((k.kids.drop 1).map txK) := by
          conv => lhs; rw [ed1, ed2]
          rfl
        rw [this, prt]; simp only [List.append_assoc]
      have : (([123] ++ prt (k.names.zip (k.kids.map txK)) ++ [125] ++ r).drop 1) = k.names[0]'(by omega) ++ ((([58] : Str) ++ txK (k.kids[0]'(by omega)) ++ prtR ((k.names.drop 1).zip ((k.kids.drop 1).map txK))) ++ [125] ++ r) := by
        rw [e0]; simp
      rw [this]
      exact first_name hn0 _
    · simpa using r2
end Go.Ab
namespace Go.Ab
open Go
set_option maxHeartbeats 4000000
attribute [local irreducible] Need IdxK FinK NextK CKs CQs ltS
theorem CT.weak {L : Lk} {f : Nat} {args : List AV} {nb n0 nb' : Nat} {bx bx0 bx' : List Bx} {rl rl0 rl' : List (Nat × Nat)} {v0 v : AV} (h : CT L f args nb bx rl v0 n0 bx0 rl0) (hw : FinK v0 bx0 rl0 v nb' bx' rl') (hnb : nb ≤ nb') (hrl : rl.length ≤ rl'.length) :
    CT L f args nb bx rl v nb' bx' rl' := by
  intro g w cargs hsh hcl hargs
  refine (h g w cargs hsh hcl hargs).mono ?_
  rintro e w' ⟨cv, g', rfl, s, sh', hv⟩
  unfold FinK at hw
  obtain ⟨f1, f2, f3, f4⟩ := hw
  have hbk0 : g.bk.length ≤ nb' := by rw [hsh.bkl, ← hsh.nb]; exact hnb
  refine ⟨cv, g'.cut nb' rl'.length, rfl, s.cut f3 hbk0 hrl, sh'.cut f2 f3 f4, ?_⟩
  have := hv.wkT f1
  rw [← (preR_eq f3).1] at this
  exact this
theorem pairE {a b e : Nat} (h : a = b) : (a, e) = (b, e) := by rw [h]
def K_RdJ (L : Lk) (n : Nat) : Prop := ∀ (d : Int) (s : Str) (b : Bool) (k : Nd) (s' : Str) (b' : Bool), d = 7 - n → RdJ n s b k s' b' → s.length ≤ 800 →
  CT L 220 [.ptr 0 0, .d (.int .i64 d)] 1 [trBx s b] [] (aK k) 1 [trBx s' b'] []
def kB (ns : List Str) (ks : List Nd) : Bx := .var 0 [.d (.int .i64 5), .rsl (encS ns) (.row 0), .rsl (ks.map cK) (.row 1)]
theorem k_one {L : Lk} (hf : FnR L 290 c290) (hN : K_nm L) {n : Nat} (hn : n ≤ 6) (hJ : K_RdJ L n) : ∀ (ns : List Str) (ks : List Nd) (s : Str) (k : Nd) (s2 : Str) (b2 : Bool), (ns.length ≤ 800 ∧ ks.length ≤ 800 ∧ s.length ≤ 800) → RdJ n (nmR s false).1 (nmR s false).2 k s2 b2 →
    CT L 290 [.ptr 0 0, .ptr 1 0, .ptr 2 0] 4 [kB ns ks, .var 0 [.ptr 3 0], .var 0 [.d (.int .i64 (6 - n))], trBx s false] [(ns.length, 1), (ks.length, 3)] (.tup []) 4 [kB (ns ++ [nmS s]) (ks ++ [k]), .var 0 [.ptr 3 0], .var 0 [.d (.int .i64 (6 - n))], trBx s2 b2] [((ns ++ [nmS s]).length, 1), ((ks ++ [k]).length, 3)] := by
  intro ns ks s k s2 b2 hb h
  have hl := nmR_len s false
  have h1 := hN s false (by omega)
  have h2 := hJ (7 - n) _ _ _ _ _ rfl h (by omega)
  have e1 := zX ns
  have e2 := zZ ks
  unfold kB
  refine CT.enter hf rfl (Nat.le_refl _) (by simp) ?_
  repeat' ((conv => whnf); first | (rw [wrap64 (by omega)]) | (rw [show (6 : Int) - n + 1 = 7 - n by omega]) | refine zA (by rw [zZ]; omega) ?_ | refine zA ⟨by rw [zX]; simp; omega, by intro y hy; simp at hy; subst hy; rfl⟩ ?_ | refine zA ⟨by rw [zZ]; simp; omega, by intro y hy; simp at hy; subst hy; rfl⟩ ?_ | refine zA ⟨zX _, rfl⟩ ?_ | refine zA ⟨zZ _, rfl⟩ ?_ | refine zA (by first | omega | exact rfl | decide) ?_ | refine zD h1 [3] [] rfl rfl rfl rfl rfl ⟨rfl, trivial⟩ trivial ?_ | refine zD h2 [3] [] rfl rfl rfl rfl rfl ⟨rfl, trivial⟩ trivial ?_ | fail)
  all_goals (conv => whnf)
  (refine yK ?_ ?_ ?_ ?_ <;> (repeat' (first | exact trivial | (show (_ : List (List DV)) = _; simp [encS, nmS, cK_eq]) | exact pairE (by simp) | exact rfl | exact Nat.le_of_ble_eq_true rfl | exact Or.inl rfl  | apply And.intro)); done)
def K_kids (L : Lk) (n : Nat) : Prop := ∀ (m : Nat) (ns' : List Str) (ks' : List Nd) (s s' : Str) (b' : Bool), s.length ≤ 800 →
  ((preP s [125] ∧ ns' = [] ∧ ks' = [] ∧ s' = s.drop 1 ∧ b' = false) ∨ (¬ preP s [125] ∧ RdM (RdJ n) m [] [] s false ns' ks' s' b')) →
  CT L 289 [.ptr 3 0, .d (.str [125]), .fn 290 [.ptr 0 0, .ptr 1 0, .ptr 2 0]] 4 [.var 0 [.d (.int .i64 5), .rsl [] .nil, .rsl [] .nil], .var 0 [.ptr 3 0], .var 0 [.d (.int .i64 (6 - n))], trBx s false] [] (.tup []) 4
    [.var 0 [.d (.int .i64 5), .d (.sl (encS ns')), .d (.sl (ks'.map cK))], .var 0 [.ptr 3 0], .var 0 [.d (.int .i64 (6 - n))], trBx s' b'] []
theorem k_kids {L : Lk} (hf : FnR L 289 c289) (hS : K_skip L) {n : Nat} (h1 : ∀ (ns : List Str) (ks : List Nd) (s : Str) (k : Nd) (s2 : Str) (b2 : Bool), (ns.length ≤ 800 ∧ ks.length ≤ 800 ∧ s.length ≤ 800) → RdJ n (nmR s false).1 (nmR s false).2 k s2 b2 →
    CT L 290 [.ptr 0 0, .ptr 1 0, .ptr 2 0] 4 [kB ns ks, .var 0 [.ptr 3 0], .var 0 [.d (.int .i64 (6 - n))], trBx s false] [(ns.length, 1), (ks.length, 3)] (.tup []) 4 [kB (ns ++ [nmS s]) (ks ++ [k]), .var 0 [.ptr 3 0], .var 0 [.d (.int .i64 (6 - n))], trBx s2 b2] [((ns ++ [nmS s]).length, 1), ((ks ++ [k]).length, 3)]) : K_kids L n := by
  intro m ns' ks' s s' b' hs h
  refine CT.weak (n0 := 4) (v0 := .tup []) (bx0 := [kB ns' ks', .var 0 [.ptr 3 0], .var 0 [.d (.int .i64 (6 - n))], trBx s' b']) (rl0 := [(ns'.length, 1), (ks'.length, 3)]) ?_ (by (refine yK ?_ ?_ ?_ ?_ <;> (repeat' (first | exact trivial | exact rfl | exact Nat.le_of_ble_eq_true rfl | exact Or.inl rfl  | apply And.intro)); done)) (Nat.le_refl _) (Nat.zero_le _)
  refine CT.ghost (bx' := [.var 0 [.d (.int .i64 5), .rsl [] (.row 0), .rsl [] .nil], .var 0 [.ptr 3 0], .var 0 [.d (.int .i64 (6 - n))], trBx s false]) 1 rfl (by repeat' (first | exact trivial | exact rfl | exact Or.inl rfl | exact Or.inr ⟨rfl, rfl⟩ | apply And.intro)) ?_
  refine CT.ghost (bx' := [.var 0 [.d (.int .i64 5), .rsl [] (.row 0), .rsl [] (.row 1)], .var 0 [.ptr 3 0], .var 0 [.d (.int .i64 (6 - n))], trBx s false]) 3 rfl (by repeat' (first | exact trivial | exact rfl | exact Or.inl rfl | exact Or.inr ⟨rfl, rfl⟩ | apply And.intro)) ?_
  rcases h with ⟨hp, rfl, rfl, rfl, rfl⟩ | ⟨hp, h⟩
  · refine CT.enter hf rfl (Nat.le_refl _) (Nat.le_refl _) ?_
    repeat' ((conv => whnf); first | refine zD ((hS s [125] false).1 hp) [3] [] rfl rfl rfl rfl rfl ⟨rfl, trivial⟩ trivial ?_ | fail)
    all_goals (conv => whnf)
    all_goals try (refine yK ?_ ?_ ?_ ?_ <;> (repeat' (first | exact trivial | exact rfl | exact Nat.le_of_ble_eq_true rfl | exact Or.inl rfl  | apply And.intro)); done)
  · refine CT.enter hf rfl (Nat.le_refl _) (Nat.le_refl _) ?_
    repeat' ((conv => whnf); first | refine zD ((hS s [125] false).2 hp) [3] [] rfl rfl rfl rfl rfl ⟨rfl, trivial⟩ trivial ?_ | fail)
    all_goals (conv => whnf)
    refine LW.gen (S := Nat × List Str × List Nd × Str × Bool) (fun x => x.1) (fun x => RdM (RdJ n) x.1 x.2.1 x.2.2.1 x.2.2.2.1 x.2.2.2.2 ns' ks' s' b')
      (fun x => ⟨[(0, .ptr 3 0), (1, .d (.str [125])), (2, .fn 290 [.ptr 0 0, .ptr 1 0, .ptr 2 0])], 4, [kB x.2.1 x.2.2.1, .var 0 [.ptr 3 0], .var 0 [.d (.int .i64 (6 - n))], trBx x.2.2.2.1 x.2.2.2.2], [(x.2.1.length, 1), (x.2.2.1.length, 3)]⟩)
      (fun _ => ⟨rfl, rfl, rfl⟩) ?_ (m, [], [], s, false) h _ (by refine ⟨?_, ?_, ?_⟩ <;> (repeat' (first | exact trivial  | exact rfl | exact Nat.le_of_ble_eq_true rfl | exact Or.inl rfl  | apply And.intro)))
    rintro ⟨m, ns, ks, s1, b1⟩ hI ih
    cases hI with
    | stop =>
      skip
      repeat' ((conv => whnf); first | refine zI (fun _ => ?_) (fun _ => ?_) | refine zM (fun _ => ?_) (fun _ => ?_) | refine zG (fun _ => ?_) (fun _ => ?_) | refine zF (fun _ => ?_) (fun _ => ?_) | refine zO (fun _ => ?_) (fun _ => ?_) | refine zH ?_ | refine zK ?_ | refine zL ?_ | refine zQ (fun _ => ?_) (fun _ _ => ?_) | refine zJ (fun _ => ?_) (fun _ => ?_) | (rw [zY]; intro _) | (rw [zZ]; intro _) | (rw [zX]; intro _) | intro _ | refine zA (by first | omega | exact rfl | decide) ?_ | refine yC (by omega) ?_ | refine yA (by omega) ?_ | refine yB (by omega) ?_ | refine yF (by omega) ?_ | refine yG (by omega) ?_ | refine yE (by omega) ?_ | refine yD (by omega) (by omega) (by omega) ?_ | refine yH (by omega) ?_ | refine yI (by omega) ?_ | fail)
      all_goals (conv => whnf)
      all_goals try (refine yK ?_ ?_ ?_ ?_ <;> (repeat' (first | exact trivial | exact rfl | exact Nat.le_of_ble_eq_true rfl | exact Or.inl rfl  | apply And.intro)); done)
    | last _ _ _ k s2 b2 hb hj hp2 =>
      dsimp only at hb hj hp2
      repeat' ((conv => whnf); first | refine zD (h1 ns ks s1 k _ _ hb hj) [0, 1, 2, 3] [0, 1] rfl rfl rfl rfl rfl ⟨rfl, rfl, rfl, rfl, trivial⟩ ⟨rfl, rfl, trivial⟩ ?_ | refine zD ((hS _ [125] _).1 hp2) [3] [] rfl rfl rfl rfl rfl ⟨rfl, trivial⟩ trivial ?_ | fail)
      all_goals (conv => whnf)
      all_goals try (refine yK ?_ ?_ ?_ ?_ <;> (repeat' (first | exact trivial | exact rfl | exact Nat.le_of_ble_eq_true rfl | exact Or.inl rfl  | apply And.intro)); done)
    | step m _ _ _ k s2 b2 s3 b3 _ _ _ _ hb hj hp2 h3 h5 =>
      dsimp only at hb hj hp2 h3 h5 ih
      rcases h3 with ⟨rfl, rfl, rfl⟩ | ⟨rfl, hc, rfl, rfl⟩ | ⟨rfl, hc, rfl, rfl⟩
      · skip
        repeat' ((conv => whnf); first | refine zD (h1 ns ks s1 k _ _ hb hj) [0, 1, 2, 3] [0, 1] rfl rfl rfl rfl rfl ⟨rfl, rfl, rfl, rfl, trivial⟩ ⟨rfl, rfl, trivial⟩ ?_ | refine zD ((hS _ [125] _).2 hp2) [3] [] rfl rfl rfl rfl rfl ⟨rfl, trivial⟩ trivial ?_ | refine ih (m, ns ++ [nmS s1], ks ++ [k], _, true) _ (Nat.lt_succ_self _) h5 (by refine ⟨?_, ?_, ?_⟩ <;> (repeat' (first | exact trivial | exact rfl | exact Nat.le_of_ble_eq_true rfl | exact Or.inl rfl | apply And.intro))) | fail)
        all_goals (conv => whnf)
      · skip
        repeat' ((conv => whnf); first | refine zD (h1 ns ks s1 k _ _ hb hj) [0, 1, 2, 3] [0, 1] rfl rfl rfl rfl rfl ⟨rfl, rfl, rfl, rfl, trivial⟩ ⟨rfl, rfl, trivial⟩ ?_ | refine zD ((hS _ [125] _).2 hp2) [3] [] rfl rfl rfl rfl rfl ⟨rfl, trivial⟩ trivial ?_ | refine zD ((hS _ [44] _).1 hc) [3] [] rfl rfl rfl rfl rfl ⟨rfl, trivial⟩ trivial ?_ | refine ih (m, ns ++ [nmS s1], ks ++ [k], _, false) _ (Nat.lt_succ_self _) h5 (by refine ⟨?_, ?_, ?_⟩ <;> (repeat' (first | exact trivial | exact rfl | exact Nat.le_of_ble_eq_true rfl | exact Or.inl rfl | apply And.intro))) | fail)
        all_goals (conv => whnf)
      · skip
        repeat' ((conv => whnf); first | refine zD (h1 ns ks s1 k _ _ hb hj) [0, 1, 2, 3] [0, 1] rfl rfl rfl rfl rfl ⟨rfl, rfl, rfl, rfl, trivial⟩ ⟨rfl, rfl, trivial⟩ ?_ | refine zD ((hS _ [125] _).2 hp2) [3] [] rfl rfl rfl rfl rfl ⟨rfl, trivial⟩ trivial ?_ | refine zD ((hS _ [44] _).2 hc) [3] [] rfl rfl rfl rfl rfl ⟨rfl, trivial⟩ trivial ?_ | refine ih (m, ns ++ [nmS s1], ks ++ [k], _, true) _ (Nat.lt_succ_self _) h5 (by refine ⟨?_, ?_, ?_⟩ <;> (repeat' (first | exact trivial | exact rfl | exact Nat.le_of_ble_eq_true rfl | exact Or.inl rfl | apply And.intro))) | fail)
        all_goals (conv => whnf)
theorem k_kind {L : Lk} (hf : FnR L 220 c220) (hS : K_skip L) (hN : K_nm L) (hf1 : FnR L 290 c290) (hf2 : FnR L 289 c289) : ∀ n, n ≤ 7 → K_RdJ L n := by
  intro n
  induction n with
  | zero =>
    intro hn d s b k s' b' hd h hs
    obtain ⟨rfl, rfl, rfl⟩ := h
    refine CT.enter hf rfl (Nat.le_refl _) (Nat.le_refl _) ?_
    repeat' ((conv => whnf); first | (exfalso; omega) | refine zI (fun _ => ?_) (fun _ => ?_) | fail)
    all_goals (conv => whnf)
    all_goals try (refine yK ?_ ?_ ?_ ?_ <;> (repeat' (first | exact trivial | exact rfl  | exact Or.inl rfl  | apply And.intro)); done)
  | succ n ihn =>
    intro hn d s b k s' b' hd h hs
    have hJ := ihn (by omega)
    have hK : K_kids L n := k_kids hf2 hS (k_one hf1 hN (by omega) hJ)
    have ed : d = 6 - n := by omega
    subst ed
    have e7 : (6 : Int) - n + 1 = 7 - n := by omega
    rcases h with ⟨rfl, rfl, rfl, rfl⟩ | ⟨rfl, ⟨p1, k1, s1, b1, h, hc, rfl⟩ | ⟨n1, p2, k1, h, rfl⟩ | ⟨n1, n2, p3, h⟩ | ⟨n1, n2, n3, p4, rfl, rfl, rfl⟩ | ⟨n1, n2, n3, n4, p5, rfl, rfl, rfl⟩ | ⟨n1, n2, n3, n4, n5, p6, rfl, rfl, rfl⟩ | ⟨n1, n2, n3, n4, n5, n6, rfl, rfl, rfl⟩⟩
    · refine CT.enter hf rfl (Nat.le_refl _) (Nat.le_refl _) ?_
      repeat' ((conv => whnf); first | (exfalso; omega) | refine zI (fun _ => ?_) (fun _ => ?_) | fail)
      all_goals (conv => whnf)
      all_goals try (refine yK ?_ ?_ ?_ ?_ <;> (repeat' (first | exact trivial | exact rfl  | exact Or.inl rfl  | apply And.intro)); done)
    · have h2 := hJ _ _ _ _ _ _ rfl h (by simp; omega)
      rcases hc with ⟨rfl, rfl, rfl⟩ | ⟨rfl, q, rfl, rfl⟩ | ⟨rfl, q, rfl, rfl⟩
      · refine CT.enter hf rfl (Nat.le_refl _) (Nat.le_refl _) ?_
        repeat' ((conv => whnf); first | (exfalso; omega) | (rw [wrap64 (by omega)]) | (rw [e7]) | refine zI (fun _ => ?_) (fun _ => ?_) | refine zA (by first | omega | exact rfl | decide) ?_ | refine zD ((hS s [91] false).1 p1) [0] [] rfl rfl rfl rfl rfl ⟨rfl, trivial⟩ trivial ?_ | refine zD h2 [0] [] rfl rfl rfl rfl rfl ⟨rfl, trivial⟩ trivial ?_ | fail)
        all_goals (conv => whnf)
        all_goals try (refine yK ?_ ?_ ?_ ?_ <;> (repeat' (first | exact trivial | (show (_ : List (List DV)) = _; simp [cK_eq, Nd.kids, Nd.names, Nd.sort, encS]) | exact rfl  | exact Or.inl rfl  | apply And.intro)); done)
      · refine CT.enter hf rfl (Nat.le_refl _) (Nat.le_refl _) ?_
        repeat' ((conv => whnf); first | (exfalso; omega) | (rw [wrap64 (by omega)]) | (rw [e7]) | refine zI (fun _ => ?_) (fun _ => ?_) | refine zA (by first | omega | exact rfl | decide) ?_ | refine zD ((hS s [91] false).1 p1) [0] [] rfl rfl rfl rfl rfl ⟨rfl, trivial⟩ trivial ?_ | refine zD h2 [0] [] rfl rfl rfl rfl rfl ⟨rfl, trivial⟩ trivial ?_ | refine zD ((hS _ [93] _).1 q) [0] [] rfl rfl rfl rfl rfl ⟨rfl, trivial⟩ trivial ?_ | fail)
        all_goals (conv => whnf)
        all_goals try (refine yK ?_ ?_ ?_ ?_ <;> (repeat' (first | exact trivial | (show (_ : List (List DV)) = _; simp [cK_eq, Nd.kids, Nd.names, Nd.sort, encS]) | exact rfl  | exact Or.inl rfl  | apply And.intro)); done)
      · refine CT.enter hf rfl (Nat.le_refl _) (Nat.le_refl _) ?_
        repeat' ((conv => whnf); first | (exfalso; omega) | (rw [wrap64 (by omega)]) | (rw [e7]) | refine zI (fun _ => ?_) (fun _ => ?_) | refine zA (by first | omega | exact rfl | decide) ?_ | refine zD ((hS s [91] false).1 p1) [0] [] rfl rfl rfl rfl rfl ⟨rfl, trivial⟩ trivial ?_ | refine zD h2 [0] [] rfl rfl rfl rfl rfl ⟨rfl, trivial⟩ trivial ?_ | refine zD ((hS _ [93] _).2 q) [0] [] rfl rfl rfl rfl rfl ⟨rfl, trivial⟩ trivial ?_ | fail)
        all_goals (conv => whnf)
        all_goals try (refine yK ?_ ?_ ?_ ?_ <;> (repeat' (first | exact trivial | (show (_ : List (List DV)) = _; simp [cK_eq, Nd.kids, Nd.names, Nd.sort, encS]) | exact rfl  | exact Or.inl rfl  | apply And.intro)); done)
    · have h2 := hJ _ _ _ _ _ _ rfl h (by simp; omega)
      refine CT.enter hf rfl (Nat.le_refl _) (Nat.le_refl _) ?_
      repeat' ((conv => whnf); first | (exfalso; omega) | (rw [wrap64 (by omega)]) | (rw [e7]) | refine zI (fun _ => ?_) (fun _ => ?_) | refine zD ((hS s [91] false).2 n1) [0] [] rfl rfl rfl rfl rfl ⟨rfl, trivial⟩ trivial ?_ | refine zD ((hS s [63] false).1 p2) [0] [] rfl rfl rfl rfl rfl ⟨rfl, trivial⟩ trivial ?_ | refine zD h2 [0] [] rfl rfl rfl rfl rfl ⟨rfl, trivial⟩ trivial ?_ | fail)
      all_goals (conv => whnf)
      all_goals try (refine yK ?_ ?_ ?_ ?_ <;> (repeat' (first | exact trivial | (show (_ : List (List DV)) = _; simp [cK_eq, Nd.kids, Nd.names, Nd.sort, encS]) | exact rfl  | exact Or.inl rfl  | apply And.intro)); done)
    · have hk : ∃ m ns ks, ((preP (s.drop 1) [125] ∧ ns = [] ∧ ks = [] ∧ s' = (s.drop 1).drop 1 ∧ b' = false) ∨ (¬ preP (s.drop 1) [125] ∧ RdM (RdJ n) m [] [] (s.drop 1) false ns ks s' b')) ∧ k = .mk 5 0 [] ns ks := by
        rcases h with ⟨q, rfl, rfl, rfl⟩ | ⟨q, m, ns, ks, h, rfl⟩
        · exact ⟨0, [], [], .inl ⟨q, rfl, rfl, rfl, rfl⟩, rfl⟩
        · exact ⟨m, ns, ks, .inr ⟨q, h⟩, rfl⟩
      obtain ⟨m, ns, ks, hm, rfl⟩ := hk
      have h2 := hK m ns ks (s.drop 1) s' b' (by simp; omega) hm
      refine CT.enter hf rfl (Nat.le_refl _) (Nat.le_refl _) ?_
      repeat' ((conv => whnf); first | (exfalso; omega) | refine zI (fun _ => ?_) (fun _ => ?_) | refine zD ((hS s [91] false).2 n1) [0] [] rfl rfl rfl rfl rfl ⟨rfl, trivial⟩ trivial ?_ | refine zD ((hS s [63] false).2 n2) [0] [] rfl rfl rfl rfl rfl ⟨rfl, trivial⟩ trivial ?_ | refine zD ((hS s [123] false).1 p3) [0] [] rfl rfl rfl rfl rfl ⟨rfl, trivial⟩ trivial ?_ | refine zD h2 [4, 1, 2, 0] [] rfl rfl rfl rfl rfl ⟨rfl, rfl, rfl, rfl, trivial⟩ trivial ?_ | fail)
      all_goals (conv => whnf)
      all_goals try (refine yK ?_ ?_ ?_ ?_ <;> (repeat' (first | exact trivial  | exact rfl  | exact Or.inl rfl  | apply And.intro)); done)
    · refine CT.enter hf rfl (Nat.le_refl _) (Nat.le_refl _) ?_
      repeat' ((conv => whnf); first | (exfalso; omega) | refine zI (fun _ => ?_) (fun _ => ?_) | refine zD ((hS s [91] false).2 n1) [0] [] rfl rfl rfl rfl rfl ⟨rfl, trivial⟩ trivial ?_ | refine zD ((hS s [63] false).2 n2) [0] [] rfl rfl rfl rfl rfl ⟨rfl, trivial⟩ trivial ?_ | refine zD ((hS s [123] false).2 n3) [0] [] rfl rfl rfl rfl rfl ⟨rfl, trivial⟩ trivial ?_ | refine zD ((hS s [110, 117, 109] false).1 p4) [0] [] rfl rfl rfl rfl rfl ⟨rfl, trivial⟩ trivial ?_ | fail)
      all_goals (conv => whnf)
      all_goals try (refine yK ?_ ?_ ?_ ?_ <;> (repeat' (first | exact trivial | exact rfl  | exact Or.inl rfl  | apply And.intro)); done)
    · refine CT.enter hf rfl (Nat.le_refl _) (Nat.le_refl _) ?_
      repeat' ((conv => whnf); first | (exfalso; omega) | refine zI (fun _ => ?_) (fun _ => ?_) | refine zD ((hS s [91] false).2 n1) [0] [] rfl rfl rfl rfl rfl ⟨rfl, trivial⟩ trivial ?_ | refine zD ((hS s [63] false).2 n2) [0] [] rfl rfl rfl rfl rfl ⟨rfl, trivial⟩ trivial ?_ | refine zD ((hS s [123] false).2 n3) [0] [] rfl rfl rfl rfl rfl ⟨rfl, trivial⟩ trivial ?_ | refine zD ((hS s [110, 117, 109] false).2 n4) [0] [] rfl rfl rfl rfl rfl ⟨rfl, trivial⟩ trivial ?_ | refine zD ((hS s [116, 101, 120, 116] false).1 p5) [0] [] rfl rfl rfl rfl rfl ⟨rfl, trivial⟩ trivial ?_ | fail)
      all_goals (conv => whnf)
      all_goals try (refine yK ?_ ?_ ?_ ?_ <;> (repeat' (first | exact trivial | exact rfl  | exact Or.inl rfl  | apply And.intro)); done)
    · refine CT.enter hf rfl (Nat.le_refl _) (Nat.le_refl _) ?_
      repeat' ((conv => whnf); first | (exfalso; omega) | refine zI (fun _ => ?_) (fun _ => ?_) | refine zD ((hS s [91] false).2 n1) [0] [] rfl rfl rfl rfl rfl ⟨rfl, trivial⟩ trivial ?_ | refine zD ((hS s [63] false).2 n2) [0] [] rfl rfl rfl rfl rfl ⟨rfl, trivial⟩ trivial ?_ | refine zD ((hS s [123] false).2 n3) [0] [] rfl rfl rfl rfl rfl ⟨rfl, trivial⟩ trivial ?_ | refine zD ((hS s [110, 117, 109] false).2 n4) [0] [] rfl rfl rfl rfl rfl ⟨rfl, trivial⟩ trivial ?_ | refine zD ((hS s [116, 101, 120, 116] false).2 n5) [0] [] rfl rfl rfl rfl rfl ⟨rfl, trivial⟩ trivial ?_ | refine zD ((hS s [102, 108, 97, 103] false).1 p6) [0] [] rfl rfl rfl rfl rfl ⟨rfl, trivial⟩ trivial ?_ | fail)
      all_goals (conv => whnf)
      all_goals try (refine yK ?_ ?_ ?_ ?_ <;> (repeat' (first | exact trivial | exact rfl  | exact Or.inl rfl  | apply And.intro)); done)
    · refine CT.enter hf rfl (Nat.le_refl _) (Nat.le_refl _) ?_
      repeat' ((conv => whnf); first | (exfalso; omega) | refine zI (fun _ => ?_) (fun _ => ?_) | refine zD ((hS s' [91] false).2 n1) [0] [] rfl rfl rfl rfl rfl ⟨rfl, trivial⟩ trivial ?_ | refine zD ((hS s' [63] false).2 n2) [0] [] rfl rfl rfl rfl rfl ⟨rfl, trivial⟩ trivial ?_ | refine zD ((hS s' [123] false).2 n3) [0] [] rfl rfl rfl rfl rfl ⟨rfl, trivial⟩ trivial ?_ | refine zD ((hS s' [110, 117, 109] false).2 n4) [0] [] rfl rfl rfl rfl rfl ⟨rfl, trivial⟩ trivial ?_ | refine zD ((hS s' [116, 101, 120, 116] false).2 n5) [0] [] rfl rfl rfl rfl rfl ⟨rfl, trivial⟩ trivial ?_ | refine zD ((hS s' [102, 108, 97, 103] false).2 n6) [0] [] rfl rfl rfl rfl rfl ⟨rfl, trivial⟩ trivial ?_ | fail)
      all_goals (conv => whnf)
      all_goals try (refine yK ?_ ?_ ?_ ?_ <;> (repeat' (first | exact trivial | exact rfl  | exact Or.inl rfl  | apply And.intro)); done)
theorem k_KindWrite {L : Lk} (hf : FnR L 221 c221) (hO : K_KindOk L 93) (hT : K_textK L 103) : ∀ k : Nd, (KindOK k → CP L 221 [aK k] (.d (.str (txK k)))) ∧ (¬ KindOK k → CP L 221 [aK k] (.d (.str []))) := by
  intro k
  refine ⟨fun h => ?_, fun h => ?_⟩
  · refine CP.enter hf rfl rfl rfl ?_
    repeat' ((conv => whnf); first | refine zO (fun _ => ?_) (fun _ => ?_) | refine zB (hO k) ?_ | refine zB (hT k 1 ⟨h.1, by have := h.2; omega⟩) ?_ | fail)
    all_goals (conv => whnf)
    all_goals try first
      | (refine yK ?_ ?_ ?_ ?_ <;> (repeat' (first | exact trivial | exact rfl    )); done)
      | exact absurd h (by assumption)
  · refine CP.enter hf rfl rfl rfl ?_
    repeat' ((conv => whnf); first | refine zO (fun _ => ?_) (fun _ => ?_) | refine zB (hO k) ?_ | fail)
    all_goals (conv => whnf)
    all_goals try first
      | (refine yK ?_ ?_ ?_ ?_ <;> (repeat' (first | exact trivial | exact rfl    )); done)
      | exact absurd (by assumption) h
theorem RdJ_nil {k : Nd} {s' : Str} {b' : Bool} (h : RdJ 6 [] false k s' b') : b' = true := by
  have no : ∀ x w, ¬ preP [] (x :: w) := fun x w h => by have := h.1; simp at this
  rcases h with ⟨h, _⟩ | ⟨_, ⟨h, _⟩ | ⟨_, h, _⟩ | ⟨_, _, h, _⟩ | ⟨_, _, _, h, _⟩ | ⟨_, _, _, _, h, _⟩ | ⟨_, _, _, _, _, h, _⟩ | ⟨_, _, _, _, _, _, _, h, _⟩⟩
  · cases h
  all_goals first | exact h | exact absurd h (no _ _)
theorem k_KindRead_i {L : Lk} (hf : FnR L 138 c138) (hR : ∀ n, n ≤ 7 → K_RdJ L n) (hW : ∀ k : Nd, (KindOK k → CP L 221 [aK k] (.d (.str (txK k)))) ∧ (¬ KindOK k → CP L 221 [aK k] (.d (.str [])))) : K_KindRead L 138 := by
  intro s
  refine ⟨fun k hk hs => ?_, fun hno => ?_⟩
  · have hlen := txK_len k 1 hk.1
    have hk2 := hk.2
    rw [hs] at hlen
    obtain ⟨k', q1, q2⟩ := RdJ_good k 1 6 [] hk.1 rfl (by rw [hs]; simp; omega)
    rw [List.append_nil, hs] at q2
    have hk' := KindOK_of q1.symm hk
    have hs' := (cK_same k' k q1).2.1
    rw [hs] at hs'
    have hc := hR 6 (by omega) 1 s false k' _ _ rfl q2 (by omega)
    have hw := (hW k').1 hk'
    rw [hs'] at hw
    rw [← aK_of q1]
    refine CP.enter hf rfl rfl rfl ?_
    repeat' ((conv => whnf); first | (exfalso; omega) | refine zI (fun _ => ?_) (fun _ => ?_) | refine zF (fun _ => ?_) (fun _ => ?_) | refine zH ?_ | intro _ | refine zD hc [1] [] rfl rfl rfl rfl rfl ⟨rfl, trivial⟩ trivial ?_ | refine zB (hw) ?_ | fail)
    all_goals (conv => whnf)
    all_goals try first
      | (refine yK ?_ ?_ ?_ ?_ <;> (repeat' (first | exact trivial | exact rfl    | apply And.intro)); done)
      | (exfalso; simp at *; done)
      | exact absurd rfl (by assumption)
  · by_cases hl : s.length ≤ 800
    · obtain ⟨k', s', b', hrd⟩ := RdJ.ex 6 s false (by omega)
      have hc := hR 6 (by omega) 1 s false k' _ _ rfl hrd (by omega)
      have hb : b' = true ∨ b' = false := by cases b' <;> simp
      rcases hb with rfl | rfl
      · refine CP.enter hf rfl rfl rfl ?_
        repeat' ((conv => whnf); first | (exfalso; omega) | refine zI (fun _ => ?_) (fun _ => ?_) | intro _ | refine zD hc [1] [] rfl rfl rfl rfl rfl ⟨rfl, trivial⟩ trivial ?_ | fail)
        all_goals (conv => whnf)
        all_goals try (refine yK ?_ ?_ ?_ ?_ <;> (repeat' (first | exact trivial | exact rfl    | apply And.intro)); done)
      · by_cases hk : KindOK k'
        · have hw := (hW k').1 hk
          refine CP.enter hf rfl rfl rfl ?_
          repeat' ((conv => whnf); first | (exfalso; omega) | refine zI (fun _ => ?_) (fun _ => ?_) | refine zF (fun _ => ?_) (fun _ => ?_) | refine zH ?_ | intro _ | refine zD hc [1] [] rfl rfl rfl rfl rfl ⟨rfl, trivial⟩ trivial ?_ | refine zB (hw) ?_ | fail)
          all_goals (conv => whnf)
          all_goals try first
            | (refine yK ?_ ?_ ?_ ?_ <;> (repeat' (first | exact trivial | exact rfl    | apply And.intro)); done)
            | exact absurd ⟨k', hk, by assumption⟩ hno
        · have hw := (hW k').2 hk
          have hne : s ≠ [] := fun e => by rw [e] at hrd; have := RdJ_nil hrd; cases this
          refine CP.enter hf rfl rfl rfl ?_
          repeat' ((conv => whnf); first | (exfalso; omega) | refine zI (fun _ => ?_) (fun _ => ?_) | refine zF (fun _ => ?_) (fun _ => ?_) | refine zH ?_ | intro _ | refine zD hc [1] [] rfl rfl rfl rfl rfl ⟨rfl, trivial⟩ trivial ?_ | refine zB (hw) ?_ | fail)
          all_goals (conv => whnf)
          all_goals try first
            | (refine yK ?_ ?_ ?_ ?_ <;> (repeat' (first | exact trivial | exact rfl    | apply And.intro)); done)
            | exact absurd (Eq.symm (by assumption)) hne
    · refine CP.enter hf rfl rfl rfl ?_
      repeat' ((conv => whnf); first | (exfalso; omega) | refine zI (fun _ => ?_) (fun _ => ?_) | intro _ | fail)
      all_goals (conv => whnf)
      all_goals try (refine yK ?_ ?_ ?_ ?_ <;> (repeat' (first | exact trivial | exact rfl    | apply And.intro)); done)
end Go.Ab
namespace Go.Ab
open Go
set_option maxHeartbeats 4000000
attribute [local irreducible] Need IdxK FinK NextK CKs CQs ltS
def LiftOK (a : Bool) (n : Nd) : Prop := (okN a 1 n ∧ n.size ≤ 200) ∧ (txN n).length ≤ 3000
def K_LiftOk (L : Lk) (f : Nat) : Prop := ∀ n : Nd, Sm n → CP L f [aT n] (.d (.bool (pb (LiftOK true n))))
theorem k_l11Is {L : Lk} (hf : FnR L 152 c152) (hN : K_nodes L) (hT : K_textN L 80) : ∀ (n : Nd) (a : Bool), Sm n → CP L 152 [aT n, .d (.bool a)] (.d (.bool (pb (LiftOK a n)))) := by
  intro n a hs
  have hp := n.size_pos
  refine CP.enter hf rfl rfl rfl ?_
  repeat' ((conv => whnf); first | refine zI (fun _ => ?_) (fun _ => ?_) | intro _ | refine callPV (hN n a 1 hs (by omega)) (fun hk => ?_) (fun hk => ?_) | refine zB (hT n a 1 hk.1 hs) ?_ | fail)
  all_goals (conv => whnf)
  all_goals try first
    | exact yL (by simp only [LiftOK, ile_iff]; exact ⟨fun h => ⟨hk, by omega⟩, fun h => by have := h.2; omega⟩)
    | exact fin_n fun h => hk h.1
    | (exfalso; omega)
theorem k_LiftOk_s {L : Lk} (hf : FnR L 73 c73) (hI : ∀ (n : Nd) (a : Bool), Sm n → CP L 152 [aT n, .d (.bool a)] (.d (.bool (pb (LiftOK a n))))) : K_LiftOk L 73 := by
  intro n hs
  refine CP.enter hf rfl rfl rfl ?_
  repeat' ((conv => whnf); first | refine zB (hI n true hs) ?_ | fail)
  all_goals (conv => whnf)
  all_goals try exact yJ rfl
def valN (n : Nd) : Nd := .mk 38 0 [] [] [n]
theorem Sm.val {n : Nd} (h : n.wt ≤ 3000000) : Sm (valN n) := ⟨by have := (valN n).wt_eq; show (valN n).wt ≤ _; rw [this]; simp only [valN, Nd.text, Nd.names, Nd.kids, wtS, wts]; simp; omega⟩
def K_val (L : Lk) (f : Nat) : Prop := ∀ n : Nd, n.wt ≤ 3000000 → CP L f [aT n] (.d (.bool (pb (LiftOK true (valN n)))))
theorem aT_val (n : Nd) : aT (valN n) = .agg [.d (.int .i64 38), .d (.int .i64 0), .d (.str []), .d (.sl []), .d (.sl [tD n])] := by
  show AV.agg [_, _, _, _, .d (.sl ([n].map cT))] = _
  rw [List.map_cons, cT_eq]; rfl
theorem k_l85Value {L : Lk} (hf : FnR L 153 c153) (hO : K_LiftOk L 73) : K_val L 153 := by
  intro n hs
  have h := hO (valN n) (Sm.val hs)
  rw [aT_val] at h
  refine CP.enter hf rfl rfl rfl ?_
  repeat' ((conv => whnf); first | refine zB (CP.pu (h)) ?_ | fail)
  all_goals (conv => whnf)
  all_goals try exact yJ rfl
def stateOk (last : Prop) (s : Fs) : Prop := KindOK s.kind ∧ (last → noT s.save ∧ noT s.lift) ∧ (¬ last → LiftOK true (valN s.save) ∧ LiftOK true (valN s.lift))
def planOk (p : Pl) : Prop := nameOk p.name ∧ (1 ≤ p.states.length ∧ p.states.length ≤ 4) ∧ p.steps.length ≤ 8 ∧ TreeOK p.start ∧
  (AllB p.states.length fun i => ∀ h : i < p.states.length, stateOk (i + 1 = p.states.length) p.states[i]) ∧
  (AllB p.steps.length fun i => ∀ h : i < p.steps.length, nameOk p.steps[i].typ ∧ LiftOK true (valN p.steps[i].act))
structure SmP (p : Pl) : Prop where
  st : ∀ i (h : i < p.states.length), p.states[i].save.wt ≤ 3000000 ∧ p.states[i].lift.wt ≤ 3000000
  ac : ∀ i (h : i < p.steps.length), p.steps[i].act.wt ≤ 3000000
def K_planOk (L : Lk) (f : Nat) : Prop := ∀ p : Pl, SmP p → CP L f [.agg (av (plD p))] (.d (.bool (pb (planOk p))))
theorem k_l85PlanOk {L : Lk} (hf : FnR L 75 c75) (hN : K_name L 68) (hIn : K_in L 65) (hT : K_TreeOk L 150) (hK : K_KindOk L 71) (hNo : K_noT L 72) (hV : K_val L 153) : K_planOk L 75 := by
  intro p hs
  refine CP.enter hf rfl rfl rfl ?_
  repeat' ((conv => whnf); first | (rw [lenFs]; intro _) | (rw [lenFt]; intro _) | (rw [wrap64 (by omega)]) | refine jh _ (by omega) (hJ.snoc fun _ => Pf.get ?_) (by refine ⟨?_, ?_, ?_⟩ <;> (repeat' (first | exact trivial | exact rfl | exact Nat.le_of_ble_eq_true rfl | exact Or.inl rfl | apply And.intro))) | refine zI (fun _ => ?_) (fun _ => ?_) | refine zG (fun _ => ?_) (fun _ => ?_) | refine zO (fun _ => ?_) (fun _ => ?_) | refine zA (by first | omega | exact rfl | decide) ?_ | refine zB (hN _) ?_ | refine zB (hIn _ _ _) ?_ | refine zB (hT p.start) ?_ | refine zB (hK (p.states[i]'(by omega)).kind) ?_ | refine zB (hNo (p.states[i]'(by omega)).save) ?_ | refine zB (hNo (p.states[i]'(by omega)).lift) ?_ | refine zB (hV (p.states[i]'(by omega)).save (hs.st i (by omega)).1) ?_ | refine zB (hV (p.states[i]'(by omega)).lift (hs.st i (by omega)).2) ?_ | refine zB (hV (p.steps[j]'(by omega)).act (hs.ac j (by omega))) ?_ | refine idx_m (f := fsD) (by omega) ?_ | refine idx_m (f := ftD) (by omega) ?_ | refine ih _ (by omega) (hI.snoc fun _ => Pf.get ?_) (by refine ⟨?_, ?_, ?_⟩ <;> (repeat' (first | exact trivial | exact rfl | exact Nat.le_of_ble_eq_true rfl | exact Or.inl rfl | apply And.intro))) | (exfalso; omega) | ((fail_if_success (have _h := ih)); refine LW.count p.states.length (fun i => AllB i fun i => ∀ h : i < p.states.length, stateOk (i + 1 = p.states.length) p.states[i]) (fun i => ⟨[(4, .d (.int .i64 i)), (3, .d (.int .i64 p.states.length)), (1, .ptr 0 0)], 1, [.var 0 (av (plD p))], []⟩) (fun _ => ⟨rfl, rfl, rfl⟩) (fun i hi hI ih => ?_) (.zero) _ (by refine ⟨?_, ?_, ?_⟩ <;> (repeat' (first | exact trivial | exact rfl | exact Nat.le_of_ble_eq_true rfl | exact Or.inl rfl | apply And.intro)))) | ((fail_if_success (have _h := jh)); (have hi' : i = p.states.length := by omega); refine LW.count p.steps.length (fun j => AllB j fun j => ∀ h : j < p.steps.length, nameOk p.steps[j].typ ∧ LiftOK true (valN p.steps[j].act)) (fun j => ⟨[(7, .d (.int .i64 j)), (1, .ptr 0 0)], 1, [.var 0 (av (plD p))], []⟩) (fun _ => ⟨rfl, rfl, rfl⟩) (fun j hj hJ jh => ?_) .zero _ (by refine ⟨?_, ?_, ?_⟩ <;> (repeat' (first | exact trivial | exact rfl | exact Nat.le_of_ble_eq_true rfl | exact Or.inl rfl | apply And.intro)))) | fail)
  all_goals (conv => whnf)
  all_goals try first
    | (have h9 := jh
       first
        | exact ⟨by clear ih jh h9; grind⟩
        | exact fin_y ⟨by assumption, by omega, by omega, by assumption, fun k hk h => hI k (by omega) h, fun k hk h => hJ k (by omega) h⟩
        | exact fin_n fun h => by have := h.2.2.2.2.2 j (by omega) (by omega); clear ih jh h9; grind)
    | (have h9 := ih
       first
        | exact ⟨by clear ih h9; unfold stateOk; grind⟩
        | exact fin_n fun h => by have := h.2.2.2.2.1 i (by omega) (by omega); unfold stateOk at this; clear ih h9; grind)
    | exact fin_n fun h => by unfold planOk at h; grind
  all_goals try (exfalso; omega)
end Go.Ab
namespace Go.Ab
open Go
set_option maxHeartbeats 4000000
attribute [local irreducible] Need IdxK FinK NextK CKs CQs ltS
def pwOk1 (e : Te) : Prop := (e.kind = 1 → nameOk e.key ∧ EventOK e.event) ∧ (e.kind ≠ 1 → e.key = [] ∧ noE e.event)
def pwOk2 (e : Te) : Prop := (e.kind ≠ 5 → e.part = 0) ∧ (e.kind ≠ 5 → e.kind ≠ 8 → e.many = 0)
def pwOk3 (e : Te) : Prop := (e.kind = 6 ∨ e.kind = 8 → nameOk e.name) ∧ (¬ (e.kind = 6 ∨ e.kind = 8) → e.name = [])
def pwOk4 (e : Te) : Prop := (e.kind = 6 → KindOK e.form ∧ (noT e.lift ∨ LiftOK true e.lift)) ∧ (e.kind ≠ 6 → noK e.form ∧ noT e.lift)
def pwOk5 (e : Te) : Prop := (e.kind = 7 → planOk e.plan) ∧ (e.kind ≠ 7 → noP e.plan)
def teOk (e : Te) : Prop := (1 ≤ e.kind ∧ e.kind ≤ 8) ∧ wOkS e ∧ (numOk e.part ∧ numOk e.many) ∧ pwOk1 e ∧ pwOk2 e ∧ pwOk3 e ∧ pwOk4 e ∧ pwOk5 e
structure SmE (e : Te) : Prop where
  lift : Sm e.lift
  plan : SmP e.plan
  keep : e.power.keep.length ≤ 4000000
def K_teOk (L : Lk) (f : Nat) : Prop := ∀ e : Te, SmE e → CP L f [.agg (av (teD e))] (.d (.bool (pb (teOk e))))
theorem k_l85Ok {L : Lk} (hf : FnR L 22 c22) (hN : K_name L 68) (hIn : K_in L 65) (hW : ∀ e : Te, CP L 66 [.agg (av (teD e))] (.d (.bool (pb (wOkS e))))) (hNums : K_nums L 67) (hE : K_EventOk L 69) (hNE : K_noE L 70)
    (hK : K_KindOk L 71) (hNo : K_noT L 72) (hL : K_LiftOk L 73) (hNK : K_noK L 74) (hP : K_planOk L 75) (hNP : K_noP L 76) : K_teOk L 22 := by
  intro e hs
  have n2 := numsOk2 e.part e.many
  have hc : e.kind = 1 ∨ e.kind = 2 ∨ e.kind = 3 ∨ e.kind = 4 ∨ e.kind = 5 ∨ e.kind = 6 ∨ e.kind = 7 ∨ e.kind = 8 ∨ ¬ (1 ≤ e.kind ∧ e.kind ≤ 8) := by omega
  rcases hc with hk | hk | hk | hk | hk | hk | hk | hk | hk
  · have hD : teD e = .int .i64 e.kind :: (teD e).tail := rfl
    rw [hk] at hD
    have hW := hW e
    rw [hD] at hW ⊢
    refine CP.enter hf rfl rfl rfl ?_
    repeat' ((conv => whnf); first | refine zG (fun _ => ?_) (fun _ => ?_) | refine zF (fun _ => ?_) (fun _ => ?_) | refine zO (fun _ => ?_) (fun _ => ?_) | refine zH ?_ | refine zB (hIn _ _ _) ?_ | refine zB (hW) ?_ | refine zB (CP.pu (hNums [e.part, e.many])) ?_ | refine zB (hN _) ?_ | refine zB (hE e.event) ?_ | refine zB (hNo e.lift) ?_ | refine zB (hNK e.form) ?_ | refine zB (hNP e.plan) ?_ | fail)
    all_goals (conv => whnf)
    all_goals try first
      | (exfalso; omega)
      | exact yL (by simp only [teOk, pwOk1, pwOk2, pwOk3, pwOk4, pwOk5, pb_iff, n2] at *; grind)
  · have hD : teD e = .int .i64 e.kind :: (teD e).tail := rfl
    rw [hk] at hD
    have hW := hW e
    rw [hD] at hW ⊢
    refine CP.enter hf rfl rfl rfl ?_
    repeat' ((conv => whnf); first | refine zG (fun _ => ?_) (fun _ => ?_) | refine zF (fun _ => ?_) (fun _ => ?_) | refine zO (fun _ => ?_) (fun _ => ?_) | refine zH ?_ | refine zB (hIn _ _ _) ?_ | refine zB (hW) ?_ | refine zB (CP.pu (hNums [e.part, e.many])) ?_ | refine zB (hNE e.event) ?_ | refine zB (hNo e.lift) ?_ | refine zB (hNK e.form) ?_ | refine zB (hNP e.plan) ?_ | fail)
    all_goals (conv => whnf)
    all_goals try first
      | (exfalso; omega)
      | exact yL (by simp only [teOk, pwOk1, pwOk2, pwOk3, pwOk4, pwOk5, pb_iff, n2] at *; grind)
  · have hD : teD e = .int .i64 e.kind :: (teD e).tail := rfl
    rw [hk] at hD
    have hW := hW e
    rw [hD] at hW ⊢
    refine CP.enter hf rfl rfl rfl ?_
    repeat' ((conv => whnf); first | refine zG (fun _ => ?_) (fun _ => ?_) | refine zF (fun _ => ?_) (fun _ => ?_) | refine zO (fun _ => ?_) (fun _ => ?_) | refine zH ?_ | refine zB (hIn _ _ _) ?_ | refine zB (hW) ?_ | refine zB (CP.pu (hNums [e.part, e.many])) ?_ | refine zB (hNE e.event) ?_ | refine zB (hNo e.lift) ?_ | refine zB (hNK e.form) ?_ | refine zB (hNP e.plan) ?_ | fail)
    all_goals (conv => whnf)
    all_goals try first
      | (exfalso; omega)
      | exact yL (by simp only [teOk, pwOk1, pwOk2, pwOk3, pwOk4, pwOk5, pb_iff, n2] at *; grind)
  · have hD : teD e = .int .i64 e.kind :: (teD e).tail := rfl
    rw [hk] at hD
    have hW := hW e
    rw [hD] at hW ⊢
    refine CP.enter hf rfl rfl rfl ?_
    repeat' ((conv => whnf); first | refine zG (fun _ => ?_) (fun _ => ?_) | refine zF (fun _ => ?_) (fun _ => ?_) | refine zO (fun _ => ?_) (fun _ => ?_) | refine zH ?_ | refine zB (hIn _ _ _) ?_ | refine zB (hW) ?_ | refine zB (CP.pu (hNums [e.part, e.many])) ?_ | refine zB (hNE e.event) ?_ | refine zB (hNo e.lift) ?_ | refine zB (hNK e.form) ?_ | refine zB (hNP e.plan) ?_ | fail)
    all_goals (conv => whnf)
    all_goals try first
      | (exfalso; omega)
      | exact yL (by simp only [teOk, pwOk1, pwOk2, pwOk3, pwOk4, pwOk5, pb_iff, n2] at *; grind)
  · have hD : teD e = .int .i64 e.kind :: (teD e).tail := rfl
    rw [hk] at hD
    have hW := hW e
    rw [hD] at hW ⊢
    refine CP.enter hf rfl rfl rfl ?_
    repeat' ((conv => whnf); first | refine zF (fun _ => ?_) (fun _ => ?_) | refine zO (fun _ => ?_) (fun _ => ?_) | refine zH ?_ | refine zB (hIn _ _ _) ?_ | refine zB (hW) ?_ | refine zB (CP.pu (hNums [e.part, e.many])) ?_ | refine zB (hNE e.event) ?_ | refine zB (hNo e.lift) ?_ | refine zB (hNK e.form) ?_ | refine zB (hNP e.plan) ?_ | fail)
    all_goals (conv => whnf)
    all_goals try first
      | (exfalso; omega)
      | exact yL (by simp only [teOk, pwOk1, pwOk2, pwOk3, pwOk4, pwOk5, pb_iff, n2] at *; grind)
  · have hD : teD e = .int .i64 e.kind :: (teD e).tail := rfl
    rw [hk] at hD
    have hW := hW e
    rw [hD] at hW ⊢
    refine CP.enter hf rfl rfl rfl ?_
    repeat' ((conv => whnf); first | refine zG (fun _ => ?_) (fun _ => ?_) | refine zF (fun _ => ?_) (fun _ => ?_) | refine zO (fun _ => ?_) (fun _ => ?_) | refine zH ?_ | refine zB (hIn _ _ _) ?_ | refine zB (hW) ?_ | refine zB (CP.pu (hNums [e.part, e.many])) ?_ | refine zB (hN _) ?_ | refine zB (hNE e.event) ?_ | refine zB (hK e.form) ?_ | refine zB (hNo e.lift) ?_ | refine zB (hL e.lift hs.lift) ?_ | refine zB (hNP e.plan) ?_ | fail)
    all_goals (conv => whnf)
    all_goals try first
      | (exfalso; omega)
      | exact yL (by simp only [teOk, pwOk1, pwOk2, pwOk3, pwOk4, pwOk5, pb_iff, n2] at *; grind)
  · have hD : teD e = .int .i64 e.kind :: (teD e).tail := rfl
    rw [hk] at hD
    have hW := hW e
    rw [hD] at hW ⊢
    refine CP.enter hf rfl rfl rfl ?_
    repeat' ((conv => whnf); first | refine zG (fun _ => ?_) (fun _ => ?_) | refine zF (fun _ => ?_) (fun _ => ?_) | refine zO (fun _ => ?_) (fun _ => ?_) | refine zH ?_ | refine zB (hIn _ _ _) ?_ | refine zB (hW) ?_ | refine zB (CP.pu (hNums [e.part, e.many])) ?_ | refine zB (hNE e.event) ?_ | refine zB (hNo e.lift) ?_ | refine zB (hNK e.form) ?_ | refine zB (hP e.plan hs.plan) ?_ | fail)
    all_goals (conv => whnf)
    all_goals try first
      | (exfalso; omega)
      | exact yL (by simp only [teOk, pwOk1, pwOk2, pwOk3, pwOk4, pwOk5, n2] at *; grind)
  · have hD : teD e = .int .i64 e.kind :: (teD e).tail := rfl
    rw [hk] at hD
    have hW := hW e
    rw [hD] at hW ⊢
    refine CP.enter hf rfl rfl rfl ?_
    repeat' ((conv => whnf); first | refine zG (fun _ => ?_) (fun _ => ?_) | refine zF (fun _ => ?_) (fun _ => ?_) | refine zO (fun _ => ?_) (fun _ => ?_) | refine zH ?_ | refine zB (hIn _ _ _) ?_ | refine zB (hW) ?_ | refine zB (CP.pu (hNums [e.part, e.many])) ?_ | refine zB (hN _) ?_ | refine zB (hNE e.event) ?_ | refine zB (hNo e.lift) ?_ | refine zB (hNK e.form) ?_ | refine zB (hNP e.plan) ?_ | fail)
    all_goals (conv => whnf)
    all_goals try first
      | (exfalso; omega)
      | exact yL (by simp only [teOk, pwOk1, pwOk2, pwOk3, pwOk4, pwOk5, pb_iff, n2] at *; grind)
  · refine CP.enter hf rfl rfl rfl ?_
    repeat' ((conv => whnf); first | refine zO (fun _ => ?_) (fun _ => ?_) | refine zB (hIn _ _ _) ?_ | fail)
    all_goals (conv => whnf)
    all_goals try first
      | (exfalso; omega)
      | exact fin_n fun h => hk h.1
end Go.Ab
namespace Go.Ab
open Go
set_option maxHeartbeats 4000000
attribute [local irreducible] Need IdxK FinK NextK CKs CQs ltS
def txE (e : Ev) : Str := e.typ ++ [64] ++ dec e.ver ++ txT e.body
theorem EventOK.len {e : Ev} (h : EventOK e) : e.typ.length ≤ 8 ∧ inR .i64 e.ver ∧ (txT e.body).length ≤ 8640 := by
  obtain ⟨h1, h2, _, h4⟩ := h
  have := txT_len _ _ h4.1
  have := h4.2
  exact ⟨h1.1.2, by unfold inR; simp only; omega, by omega⟩
theorem txE_len {e : Ev} (h : EventOK e) : (txE e).length ≤ 8670 := by
  have h1 := h.len
  have := dec_len h1.2.1
  simp [txE]; omega
def K_EventWrite (L : Lk) (f : Nat) : Prop := ∀ e : Ev, EventOK e → CP L f [.agg (av (eD e))] (.d (.str (txE e)))
theorem k_EventWrite_s {L : Lk} (hf : FnR L 82 c82) (hO : K_EventOk L 69) (hD : K_l6Dec L) (hT : K_textT L 154) : K_EventWrite L 82 := by
  intro e he
  have h1 := he.len
  have h2 := dec_len h1.2.1
  have h3 := h1.1
  have h4 := h1.2.2
  refine CP.enter hf rfl rfl rfl ?_
  repeat' ((conv => whnf); first | refine zO (fun _ => ?_) (fun _ => ?_) | refine zB (hO e) ?_ | refine zC (hD _ h1.2.1) ?_ | refine zC (hT e.body 1 he.2.2.2) ?_ | refine zA (by (try simp only [List.length_append, List.length_cons, List.length_nil]); omega) ?_ | fail)
  all_goals (conv => whnf)
  all_goals try first
    | exact yJ rfl
    | exact absurd he (by assumption)
def foldS (p : Pl) : Nat → Str
  | 0 => [102, 111, 108, 100, 32] ++ p.name ++ [10]
  | i + 1 => match p.states[i]? with
    | some s => if i + 1 < p.states.length then foldS p i ++ [115, 116, 97, 116, 101, 32] ++ txK s.kind ++ [10] ++ [115, 97, 118, 101, 32] ++ txN s.save ++ [10, 108, 105, 102, 116, 32] ++ txN s.lift ++ [10] else foldS p i ++ [115, 116, 97, 116, 101, 32] ++ txK s.kind ++ [10]
    | none => foldS p i
theorem foldS_y {p : Pl} {i : Nat} (h : i < p.states.length) (h2 : i + 1 < p.states.length) : foldS p (i + 1) = foldS p i ++ [115, 116, 97, 116, 101, 32] ++ txK p.states[i].kind ++ [10] ++ [115, 97, 118, 101, 32] ++ txN p.states[i].save ++ [10, 108, 105, 102, 116, 32] ++ txN p.states[i].lift ++ [10] := by
  simp [foldS, h, h2]
theorem foldS_n {p : Pl} {i : Nat} (h : i < p.states.length) (h2 : ¬ i + 1 < p.states.length) : foldS p (i + 1) = foldS p i ++ [115, 116, 97, 116, 101, 32] ++ txK p.states[i].kind ++ [10] := by
  simp [foldS, h, h2]
def foldE (p : Pl) (b : Str) : Nat → Str
  | 0 => b
  | i + 1 => match p.steps[i]? with
    | some s => foldE p b i ++ [111, 110, 32] ++ s.typ ++ [32] ++ txN s.act ++ [10]
    | none => foldE p b i
theorem foldE_s {p : Pl} {b : Str} {i : Nat} (h : i < p.steps.length) : foldE p b (i + 1) = foldE p b i ++ [111, 110, 32] ++ p.steps[i].typ ++ [32] ++ txN p.steps[i].act ++ [10] := by
  simp [foldE, h]
def foldM (p : Pl) : Str := foldS p p.states.length ++ [115, 116, 97, 114, 116, 32] ++ txT p.start ++ [10]
def foldT (p : Pl) : Str := foldE p (foldM p) p.steps.length ++ [101, 110, 100, 10]
theorem val_ok {n : Nd} (h : LiftOK true (valN n)) : okN (kaN (valN n) 0) 2 n := okN_any h.1.1 (i := 0) (by show 0 < 1; omega)
theorem val_len {n : Nd} (h : LiftOK true (valN n)) (hw : n.wt ≤ 3000000) : (txN n).length ≤ 180000000 := by have := txN_len _ _ _ (val_ok h); omega
theorem foldS_len {p : Pl} (h : planOk p) (hs : SmP p) : ∀ i, i ≤ p.states.length → (foldS p i).length ≤ 20 + i * 400000000 := by
  intro i
  induction i with
  | zero => intro _; have := h.1.1.2; simp [foldS]; omega
  | succ i ih =>
    intro hi
    have h1 := ih (by omega)
    have h2 := h.2.2.2.2.1 i (by omega) (by omega)
    have h3 := txK_len _ _ h2.1.1
    have h4 := h2.1.2
    by_cases hl : i + 1 < p.states.length
    · have h5 := h2.2.2 (by omega)
      have h6 := val_len h5.1 (hs.st i (by omega)).1
      have h7 := val_len h5.2 (hs.st i (by omega)).2
      rw [foldS_y (by omega) hl]; simp; omega
    · rw [foldS_n (by omega) hl]; simp; omega
theorem foldM_len {p : Pl} (h : planOk p) (hs : SmP p) : (foldM p).length ≤ 2000000000 := by
  have h1 := foldS_len h hs p.states.length (Nat.le_refl _)
  have h2 := h.2.1.2
  have h3 := txT_len _ _ h.2.2.2.1.1
  have h4 := h.2.2.2.1.2
  simp [foldM]; omega
theorem foldE_len {p : Pl} (h : planOk p) (hs : SmP p) : ∀ i, i ≤ p.steps.length → (foldE p (foldM p) i).length ≤ 2000000000 + i * 200000000 := by
  intro i
  induction i with
  | zero => intro _; have := foldM_len h hs; simpa [foldE] using this
  | succ i ih =>
    intro hi
    have h1 := ih (by omega)
    have h2 := h.2.2.2.2.2 i (by omega) (by omega)
    have h3 := val_len h2.2 (hs.ac i (by omega))
    have h4 := h2.1.1.2
    rw [foldE_s (by omega)]; simp; omega
theorem foldT_len {p : Pl} (h : planOk p) (hs : SmP p) : (foldT p).length ≤ 4000000000 := by
  have h1 := foldE_len h hs p.steps.length (Nat.le_refl _)
  have h2 := h.2.2.1
  simp [foldT]; omega
def K_foldT (L : Lk) (f : Nat) : Prop := ∀ p : Pl, planOk p → SmP p → CP L f [.agg (av (plD p))] (.d (.str (foldT p)))
theorem k_l85Fold {L : Lk} (hf : FnR L 78 c78) (hK : K_textK L 79) (hN : K_textN L 80) (hT : K_textT L 154) : K_foldT L 78 := by
  intro p hp hs
  have hn8 := hp.1.1.2
  have h4 := hp.2.1.2
  have h8 := hp.2.2.1
  have hSl := foldS_len hp hs
  have hEl := foldE_len hp hs
  have hMl := foldM_len hp hs
  have hst : ∀ i (h : i < p.states.length), (okK 1 p.states[i].kind ∧ p.states[i].kind.size ≤ 40) ∧ (txK p.states[i].kind).length ≤ 1000 := fun i h => by
    have h2 := hp.2.2.2.2.1 i h h
    have h3 := txK_len _ _ h2.1.1
    have h4 := h2.1.2
    exact ⟨h2.1, by omega⟩
  have hsv : ∀ i (h : i < p.states.length), i + 1 < p.states.length → (LiftOK true (valN p.states[i].save) ∧ LiftOK true (valN p.states[i].lift)) ∧ (txN p.states[i].save).length ≤ 180000000 ∧ (txN p.states[i].lift).length ≤ 180000000 := fun i h hl => by
    have h5 := (hp.2.2.2.2.1 i h h).2.2 (by omega)
    exact ⟨h5, val_len h5.1 (hs.st i h).1, val_len h5.2 (hs.st i h).2⟩
  have hac : ∀ i (h : i < p.steps.length), LiftOK true (valN p.steps[i].act) ∧ (txN p.steps[i].act).length ≤ 180000000 ∧ p.steps[i].typ.length ≤ 8 := fun i h => by
    have h5 := hp.2.2.2.2.2 i h h
    exact ⟨h5.2, val_len h5.2 (hs.ac i h), h5.1.1.2⟩
  have htl : (txT p.start).length ≤ 8640 := by have h3 := txT_len _ _ hp.2.2.2.1.1; have h4 := hp.2.2.2.1.2; omega
  refine CP.enter hf rfl rfl rfl ?_
  repeat' ((conv => whnf); first | (rw [lenFs]; intro _) | (rw [lenFt]; intro _) | (rw [wrap64 (by omega)]) | refine zA (by have := hEl j (by omega); have := hac j (by omega); (try simp only [List.length_append, List.length_cons, List.length_nil]); omega) ?_ | refine zA (by have := hEl j (by omega); (try simp only [List.length_cons, List.length_nil]); omega) ?_ | refine zA (by have := hSl i (by omega); have := (hst i (by omega)).2; have := (hsv i (by omega) (by omega)).2; (try simp only [List.length_append, List.length_cons, List.length_nil]); omega) ?_ | refine zA (by have := hSl i (by omega); have := (hst i (by omega)).2; (try simp only [List.length_append, List.length_cons, List.length_nil]); omega) ?_ | refine zA (by have := hSl i (by omega); (try simp only [List.length_append, List.length_cons, List.length_nil]); omega) ?_ | refine jh _ (by omega) trivial (by refine ⟨?_, ?_, ?_⟩ <;> (repeat' (first | exact trivial | exact yN (foldE_s (by omega)).symm | exact rfl | exact Nat.le_of_ble_eq_true rfl | exact Or.inl rfl | apply And.intro))) | refine zI (fun _ => ?_) (fun _ => ?_) | refine zA (by first | omega | exact rfl | decide) ?_ | refine zB (hK (p.states[i]'(by omega)).kind 1 (hst i (by omega)).1) ?_ | refine zB (hT p.start 1 hp.2.2.2.1) ?_ | refine zC (hN (p.states[i]'(by omega)).save _ _ (val_ok (hsv i (by omega) (by omega)).1.1) ⟨by have := (hs.st i (by omega)).1; omega⟩) ?_ | refine zC (hN (p.states[i]'(by omega)).lift _ _ (val_ok (hsv i (by omega) (by omega)).1.2) ⟨by have := (hs.st i (by omega)).2; omega⟩) ?_ | refine zC (hN (p.steps[j]'(by omega)).act _ _ (val_ok (hac j (by omega)).1) ⟨by have := hs.ac j (by omega); omega⟩) ?_ | refine idx_m (f := fsD) (by omega) ?_ | refine idx_m (f := ftD) (by omega) ?_ | refine zA (by (try simp only [List.length_append, List.length_cons, List.length_nil]); omega) ?_ | refine ih _ (by omega) (trivial) (by refine ⟨?_, ?_, ?_⟩ <;> (repeat' (first | exact trivial | exact yN (foldS_y (by omega) (by omega)).symm | exact yN (foldS_n (by omega) (by omega)).symm | exact rfl | exact Nat.le_of_ble_eq_true rfl | exact Or.inl rfl | apply And.intro))) | ((fail_if_success (have _h := ih)); refine LW.count p.states.length (fun i => True) (fun i => ⟨[(4, .d (.int .i64 i)), (3, .d (.str (foldS p i))), (1, .ptr 0 0)], 1, [.var 0 (av (plD p))], []⟩) (fun _ => ⟨rfl, rfl, rfl⟩) (fun i hi hI ih => ?_) (trivial) _ (by refine ⟨?_, ?_, ?_⟩ <;> (repeat' (first | exact trivial | exact rfl | exact Nat.le_of_ble_eq_true rfl | exact Or.inl rfl | apply And.intro)))) | ((fail_if_success (have _h := jh)); (have hi' : i = p.states.length := by omega); refine LW.count p.steps.length (fun _ => True) (fun j => ⟨[(5, .d (.int .i64 j)), (3, .d (.str (foldE p (foldM p) j))), (1, .ptr 0 0)], 1, [.var 0 (av (plD p))], []⟩) (fun _ => ⟨rfl, rfl, rfl⟩) (fun j hj hJ jh => ?_) trivial _ (by refine ⟨?_, ?_, ?_⟩ <;> (repeat' (first | exact trivial | exact yN (by rw [hi']; rfl) | exact rfl | exact Nat.le_of_ble_eq_true rfl | exact Or.inl rfl | apply And.intro)))) | fail)
  all_goals (conv => whnf)
  all_goals try first
    | (have hj' : j = p.steps.length := by omega
       exact yJ (yN (by rw [hj']; rfl)))
end Go.Ab
