import Derived.Test.YtkablfpnjfbhfaaGreatDoorX10
namespace Go.Ab
open Go
set_option maxHeartbeats 4000000
attribute [local irreducible] Need IdxK FinK NextK CKs CQs ltS
def Eat (s w : Str) (p : Nat) (b : Bool) (p' : Nat) (b' : Bool) : Prop := (at1 s w p ∧ p' = p + w.length ∧ b' = b) ∨ (¬ at1 s w p ∧ p' = p ∧ b' = true)
def K_Eat (L : Lk) : Prop := ∀ (s w : Str) (p : Nat) (b : Bool) (p' : Nat) (b' : Bool), Eat s w p b p' b' → s.length ≤ 1000000 → w.length ≤ 100 → p ≤ s.length + 7 →
  CT L 191 [.ptr 0 0, .d (.str w)] 1 [rdBx s p b] [] (.tup []) 1 [rdBx s p' b'] []
theorem k_Eat {L : Lk} (h : K_eat L) : K_Eat L := by
  intro s w p b p' b' he hs hw hp
  rcases he with ⟨h1, rfl, rfl⟩ | ⟨h1, rfl, rfl⟩
  · exact (h s w p b' hs hw hp).1 h1
  · exact (h s w p' b hs hw hp).2 h1
inductive RdL (s : Str) (P : Nat → Bool → Nd → Nat → Bool → Prop) : Nat → List Str → List Nd → Nat → Bool → List Str → List Nd → Nat → Bool → Prop where
  | stop (ns : List Str) (ks : List Nd) (p : Nat) (b : Bool) (h : b = true ∨ lookN s p = 125) : RdL s P 0 ns ks p b ns ks p b
  | step (m : Nat) (ns : List Str) (ks : List Nd) (p p1 : Nat) (b1 : Bool) (q p2 : Nat) (b2 : Bool) (k : Nd) (p3 : Nat) (b3 : Bool) (ns' : List Str) (ks' : List Nd) (p' : Nat) (b' : Bool)
      (hl : lookN s p ≠ 125) (hp : p ≤ s.length) (hn : ns.length ≤ s.length) (hk : ks.length ≤ s.length) (h1 : (ks.length = 0 ∧ p1 = p ∧ b1 = false) ∨ (0 < ks.length ∧ Eat s [44] p false p1 b1)) (h2 : NameEnd s p1 q) (h3 : Eat s [58] q b1 p2 b2)
      (h4 : P p2 b2 k p3 b3) (h5 : RdL s P m (ns ++ [(s.take q).drop p1]) (ks ++ [k]) p3 b3 ns' ks' p' b') : RdL s P (m + 1) ns ks p false ns' ks' p' b'
def zNd : Nd := .mk 0 0 [] [] []
def RdK (s : Str) : Nat → Nat → Bool → Nd → Nat → Bool → Prop
  | 0, p, _, k, p', b' => k = zNd ∧ p' = p ∧ b' = true
  | n + 1, p, b, k, p', b' => (b = true ∧ k = zNd ∧ p' = p ∧ b' = true) ∨ (b = false ∧ (
      (lookN s p = 110 ∧ Eat s [110, 117, 109] p false p' b' ∧ k = .mk 1 0 [] [] []) ∨
      (lookN s p = 116 ∧ Eat s [116, 101, 120, 116] p false p' b' ∧ k = .mk 2 0 [] [] []) ∨
      (lookN s p = 102 ∧ Eat s [102, 108, 97, 103] p false p' b' ∧ k = .mk 3 0 [] [] []) ∨
      (lookN s p = 63 ∧ ∃ p1 b1 k1, Eat s [63] p false p1 b1 ∧ RdK s n p1 b1 k1 p' b' ∧ k = .mk 6 0 [] [] [k1]) ∨
      (lookN s p = 91 ∧ ∃ p1 b1 k1 p2 b2, Eat s [91] p false p1 b1 ∧ RdK s n p1 b1 k1 p2 b2 ∧ Eat s [93] p2 b2 p' b' ∧ k = .mk 4 0 [] [] [k1]) ∨
      ((lookN s p ≠ 110 ∧ lookN s p ≠ 116 ∧ lookN s p ≠ 102 ∧ lookN s p ≠ 63 ∧ lookN s p ≠ 91) ∧ ∃ m p1 b1 ns ks p2, Eat s [123] p false p1 b1 ∧ RdL s (RdK s n) m [] [] p1 b1 ns ks p2 b' ∧ p' = p2 + 1 ∧ k = .mk 5 0 [] ns ks)))
theorem Eat.le {s w : Str} {p p' : Nat} {b b' : Bool} (h : Eat s w p b p' b') (hp : p ≤ s.length) : p ≤ p' ∧ p' ≤ s.length ∧ (b' = false → b = false ∧ p' = p + w.length) := by
  rcases h with ⟨h1, rfl, rfl⟩ | ⟨h1, rfl, rfl⟩
  · exact ⟨by omega, h1.1, fun h => ⟨h, rfl⟩⟩
  · exact ⟨Nat.le_refl _, hp, fun h => by cases h⟩
theorem RdL.le {s : Str} {P : Nat → Bool → Nd → Nat → Bool → Prop} {c : Nat} (hP : ∀ p b k p' b', P p b k p' b' → p ≤ s.length → p ≤ p' ∧ p' ≤ s.length + c ∧ (b' = false → p' ≤ s.length))
    {m : Nat} {ns : List Str} {ks : List Nd} {p : Nat} {b : Bool} {ns' : List Str} {ks' : List Nd} {p' : Nat} {b' : Bool} (h : RdL s P m ns ks p b ns' ks' p' b') (h1 : p ≤ s.length + c) (h2 : b = false → p ≤ s.length) :
    p ≤ p' ∧ p' ≤ s.length + c ∧ (b' = false → p' ≤ s.length ∧ lookN s p' = 125) := by
  induction h with
  | stop ns ks p b h => exact ⟨Nat.le_refl _, h1, fun hb => ⟨h2 hb, h.resolve_left (by rw [hb]; simp)⟩⟩
  | step m ns ks p p1 b1 q p2 b2 k p3 b3 ns' ks' p' b' hl hp hn hk e1 e2 e3 e4 e5 ih =>
    have a1 : p ≤ p1 ∧ p1 ≤ s.length := by
      rcases e1 with ⟨_, rfl, _⟩ | ⟨_, e⟩
      · exact ⟨Nat.le_refl _, hp⟩
      · have := e.le hp; exact ⟨this.1, this.2.1⟩
    have a2 := e2.1
    have a3 := e3.le e2.2.1
    have a4 := hP _ _ _ _ _ e4 a3.2.1
    have a5 := ih a4.2.1 a4.2.2
    exact ⟨by omega, a5.2⟩
theorem RdK.le {s : Str} : ∀ {n : Nat} {p : Nat} {b : Bool} {k : Nd} {p' : Nat} {b' : Bool}, RdK s n p b k p' b' → p ≤ s.length → p ≤ p' ∧ p' ≤ s.length + n ∧ (b' = false → p' ≤ s.length) := by
  intro n
  induction n with
  | zero => intro p b k p' b' h hp; obtain ⟨_, rfl, rfl⟩ := h; exact ⟨Nat.le_refl _, hp, fun h => by cases h⟩
  | succ n ih =>
    intro p b k p' b' h hp
    rcases h with ⟨_, _, rfl, rfl⟩ | ⟨_, ⟨_, h, _⟩ | ⟨_, h, _⟩ | ⟨_, h, _⟩ | ⟨_, p1, b1, k1, h, h2, _⟩ | ⟨_, p1, b1, k1, p2, b2, h, h2, h3, _⟩ | ⟨_, m, p1, b1, ns, ks, p2, h, h2, rfl, _⟩⟩
    · exact ⟨Nat.le_refl _, by omega, fun h => by cases h⟩
    · have := h.le hp; exact ⟨this.1, by omega, fun _ => this.2.1⟩
    · have := h.le hp; exact ⟨this.1, by omega, fun _ => this.2.1⟩
    · have := h.le hp; exact ⟨this.1, by omega, fun _ => this.2.1⟩
    · have a := h.le hp; have b := ih h2 a.2.1; exact ⟨by omega, by omega, b.2.2⟩
    · have a := h.le hp; have c := ih h2 a.2.1
      by_cases hp2 : p2 ≤ s.length
      · have d := h3.le hp2; exact ⟨by omega, by omega, fun _ => d.2.1⟩
      · rcases h3 with ⟨q1, rfl, rfl⟩ | ⟨q1, rfl, rfl⟩
        · have := q1.1; omega
        · exact ⟨by omega, by omega, fun h => by cases h⟩
    · have a := h.le hp
      have c := RdL.le (c := n) (fun p b k p' b' h hp => ih h hp) h2 (by omega) (fun _ => a.2.1)
      refine ⟨by omega, by omega, fun hb => ?_⟩
      have := c.2.2 hb
      by_cases hl : p2 < s.length
      · omega
      · rw [lookN_ge (by omega)] at this; omega
def K_RdK (L : Lk) (s : Str) (n : Nat) : Prop := ∀ (d : Int) (p : Nat) (b : Bool) (k : Nd) (p' : Nat) (b' : Bool), d = 7 - n → RdK s n p b k p' b' → p ≤ s.length →
  CT L 205 [.ptr 0 0, .d (.int .i64 d)] 1 [rdBx s p b] [] (aK k) 1 [rdBx s p' b'] []
theorem k_l2Kind {L : Lk} (hf : FnR L 205 c205) (hL : K_look1 L) (hE : K_Eat L) (hN : K_name1 L) (s : Str) (hs : s.length ≤ 1000000) : ∀ n, n ≤ 7 → K_RdK L s n := by
  intro n
  induction n with
  | zero =>
    intro hn d p b k p' b' hd h hp
    obtain ⟨rfl, rfl, rfl⟩ := h
    refine CT.enter hf rfl (Nat.le_refl _) (Nat.le_refl _) ?_
    repeat' ((conv => whnf); first | refine zI (fun _ => ?_) (fun _ => ?_) | refine zJ (fun _ => ?_) (fun _ => ?_) | fail)
    all_goals (conv => whnf)
    all_goals try first
      | (refine yK ?_ ?_ ?_ ?_ <;> (repeat' (first | exact trivial | exact rfl  | exact Or.inl rfl  | apply And.intro)); done)
      | (exfalso; omega)
  | succ n ihn =>
    intro hn d p b k p' b' hd h hp
    rcases h with ⟨rfl, rfl, rfl, rfl⟩ | ⟨rfl, ⟨hl, h, rfl⟩ | ⟨hl, h, rfl⟩ | ⟨hl, h, rfl⟩ | ⟨hl, p1, b1, k1, h, h2, rfl⟩ | ⟨hl, p1, b1, k1, p2, b2, h, h2, h3, rfl⟩ | ⟨hl, m, p1, b1, ns, ks, p2, h, h2, rfl, rfl⟩⟩
    · refine CT.enter hf rfl (Nat.le_refl _) (Nat.le_refl _) ?_
      repeat' ((conv => whnf); first | refine zI (fun _ => ?_) (fun _ => ?_) | refine zM (fun _ => ?_) (fun _ => ?_) | refine zG (fun _ => ?_) (fun _ => ?_) | refine zF (fun _ => ?_) (fun _ => ?_) | refine zO (fun _ => ?_) (fun _ => ?_) | refine zH ?_ | refine zK ?_ | refine zL ?_ | refine zQ (fun _ => ?_) (fun _ _ => ?_) | refine zJ (fun _ => ?_) (fun _ => ?_) | (rw [zY]; intro _) | (rw [zZ]; intro _) | (rw [zX]; intro _) | intro _ | refine zA (by first | omega | exact rfl | decide) ?_ | refine yC (by omega) ?_ | refine yA (by omega) ?_ | refine yB (by omega) ?_ | refine yF (by omega) ?_ | refine yG (by omega) ?_ | refine yE (by omega) ?_ | refine yD (by omega) (by omega) (by omega) ?_ | refine yH (by omega) ?_ | refine yI (by omega) ?_ | fail)
      all_goals (conv => whnf)
      all_goals try (refine yK ?_ ?_ ?_ ?_ <;> (repeat' (first | exact trivial | exact rfl  | exact Or.inl rfl  | apply And.intro)); done)
    · refine CT.enter hf rfl (Nat.le_refl _) (Nat.le_refl _) ?_
      repeat' ((conv => whnf); first | (exfalso; omega) | refine zI (fun _ => ?_) (fun _ => ?_) | refine zG (fun _ => ?_) (fun _ => ?_) | refine zD (hL s p false hs) [0] [] rfl rfl rfl rfl rfl ⟨rfl, trivial⟩ trivial ?_ | refine zD (hE _ _ _ _ _ _ h hs (by decide) (by omega)) [0] [] rfl rfl rfl rfl rfl ⟨rfl, trivial⟩ trivial ?_ | fail)
      all_goals (conv => whnf)
      all_goals try (refine yK ?_ ?_ ?_ ?_ <;> (repeat' (first | exact trivial | exact rfl  | exact Or.inl rfl  | apply And.intro)); done)
    · refine CT.enter hf rfl (Nat.le_refl _) (Nat.le_refl _) ?_
      repeat' ((conv => whnf); first | (exfalso; omega) | refine zI (fun _ => ?_) (fun _ => ?_) | refine zG (fun _ => ?_) (fun _ => ?_) | refine zD (hL s p false hs) [0] [] rfl rfl rfl rfl rfl ⟨rfl, trivial⟩ trivial ?_ | refine zD (hE _ _ _ _ _ _ h hs (by decide) (by omega)) [0] [] rfl rfl rfl rfl rfl ⟨rfl, trivial⟩ trivial ?_ | fail)
      all_goals (conv => whnf)
      all_goals try (refine yK ?_ ?_ ?_ ?_ <;> (repeat' (first | exact trivial | exact rfl  | exact Or.inl rfl  | apply And.intro)); done)
    · refine CT.enter hf rfl (Nat.le_refl _) (Nat.le_refl _) ?_
      repeat' ((conv => whnf); first | (exfalso; omega) | refine zI (fun _ => ?_) (fun _ => ?_) | refine zG (fun _ => ?_) (fun _ => ?_) | refine zD (hL s p false hs) [0] [] rfl rfl rfl rfl rfl ⟨rfl, trivial⟩ trivial ?_ | refine zD (hE _ _ _ _ _ _ h hs (by decide) (by omega)) [0] [] rfl rfl rfl rfl rfl ⟨rfl, trivial⟩ trivial ?_ | fail)
      all_goals (conv => whnf)
      all_goals try (refine yK ?_ ?_ ?_ ?_ <;> (repeat' (first | exact trivial | exact rfl  | exact Or.inl rfl  | apply And.intro)); done)
    · refine CT.enter hf rfl (Nat.le_refl _) (Nat.le_refl _) ?_
      have h1 := h.le hp
      repeat' ((conv => whnf); first | (exfalso; omega) | (rw [wrap64 (by omega)]) | refine zI (fun _ => ?_) (fun _ => ?_) | refine zG (fun _ => ?_) (fun _ => ?_) | refine zD (hL s p false hs) [0] [] rfl rfl rfl rfl rfl ⟨rfl, trivial⟩ trivial ?_ | refine zD (hE _ _ _ _ _ _ h hs (by decide) (by omega)) [0] [] rfl rfl rfl rfl rfl ⟨rfl, trivial⟩ trivial ?_ | refine zD (ihn (by omega) (d + 1) _ _ _ _ _ (by omega) h2 h1.2.1) [0] [] rfl rfl rfl rfl rfl ⟨rfl, trivial⟩ trivial ?_ | fail)
      all_goals (conv => whnf)
      all_goals try (refine yK ?_ ?_ ?_ ?_ <;> (repeat' (first | exact trivial | (show (_ : List (List DV)) = _; simp [cK_eq, Nd.kids, Nd.names, Nd.sort, encS]) | exact rfl  | exact Or.inl rfl  | apply And.intro)); done)
    · refine CT.enter hf rfl (Nat.le_refl _) (Nat.le_refl _) ?_
      have h1 := h.le hp
      have h4 := h2.le h1.2.1
      repeat' ((conv => whnf); first | (exfalso; omega) | (rw [wrap64 (by omega)]) | refine zI (fun _ => ?_) (fun _ => ?_) | refine zG (fun _ => ?_) (fun _ => ?_) | refine zD (hL s p false hs) [0] [] rfl rfl rfl rfl rfl ⟨rfl, trivial⟩ trivial ?_ | refine zD (hE _ _ _ _ _ _ h hs (by decide) (by omega)) [0] [] rfl rfl rfl rfl rfl ⟨rfl, trivial⟩ trivial ?_ | refine zD (hE _ _ _ _ _ _ h3 hs (by decide) (by omega)) [0] [] rfl rfl rfl rfl rfl ⟨rfl, trivial⟩ trivial ?_ | refine zD (ihn (by omega) (d + 1) _ _ _ _ _ (by omega) h2 h1.2.1) [0] [] rfl rfl rfl rfl rfl ⟨rfl, trivial⟩ trivial ?_ | fail)
      all_goals (conv => whnf)
      all_goals try (refine yK ?_ ?_ ?_ ?_ <;> (repeat' (first | exact trivial | (show (_ : List (List DV)) = _; simp [cK_eq, Nd.kids, Nd.names, Nd.sort, encS]) | exact rfl  | exact Or.inl rfl  | apply And.intro)); done)
    · refine CT.enter hf rfl (Nat.le_refl _) (Nat.le_refl _) ?_
      have h1 := h.le hp
      have hle := RdL.le (c := n) (fun p b k p' b' h hp => h.le hp) h2 (by omega) (fun _ => h1.2.1)
      have hle2 := hle.2.1
      repeat' ((conv => whnf); first | (exfalso; omega) | refine zI (fun _ => ?_) (fun _ => ?_) | refine zG (fun _ => ?_) (fun _ => ?_) | refine zD (hL s p false hs) [0] [] rfl rfl rfl rfl rfl ⟨rfl, trivial⟩ trivial ?_ | refine zD (hE _ _ _ _ _ _ h hs (by decide) (by omega)) [0] [] rfl rfl rfl rfl rfl ⟨rfl, trivial⟩ trivial ?_ | fail)
      all_goals (conv => whnf)
      refine LW.ghost (bx' := [rdBx s p1 b1, .var 0 [.d (.int .i64 0), .rsl [] .nil, .rsl [] .nil], .var 0 [.d (.int .i64 5), .rsl [] (.row 0), .rsl [] .nil]]) 1 rfl ⟨⟨rfl, .inl rfl, .inl rfl, .inl rfl, trivial⟩, ⟨rfl, .inl rfl, .inl rfl, .inl rfl, trivial⟩, ⟨rfl, .inl rfl, .inr ⟨rfl, rfl⟩, .inl rfl, trivial⟩, trivial⟩ ?_
      refine LW.ghost (bx' := [rdBx s p1 b1, .var 0 [.d (.int .i64 0), .rsl [] .nil, .rsl [] .nil], .var 0 [.d (.int .i64 5), .rsl [] (.row 0), .rsl [] (.row 1)]]) 3 rfl ⟨⟨rfl, .inl rfl, .inl rfl, .inl rfl, trivial⟩, ⟨rfl, .inl rfl, .inl rfl, .inl rfl, trivial⟩, ⟨rfl, .inl rfl, .inl rfl, .inr ⟨rfl, rfl⟩, trivial⟩, trivial⟩ ?_
      refine LW.gen (S := Nat × List Str × List Nd × Nat × Bool) (fun x => x.1) (fun x => RdL s (RdK s n) x.1 x.2.1 x.2.2.1 x.2.2.2.1 x.2.2.2.2 ns ks p2 b')
        (fun x => ⟨[(0, .ptr 0 0), (1, .d (.int .i64 d)), (4, .ptr 1 0), (6, .ptr 2 0)], 3, [rdBx s x.2.2.2.1 x.2.2.2.2, .var 0 [.d (.int .i64 0), .rsl [] .nil, .rsl [] .nil], .var 0 [.d (.int .i64 5), .rsl (encS x.2.1) (.row 0), .rsl (x.2.2.1.map cK) (.row 1)]], [(x.2.1.length, 1), (x.2.2.1.length, 3)]⟩)
        (fun _ => ⟨rfl, rfl, rfl⟩) ?_ (m, [], [], p1, b1) h2 _ (by refine ⟨?_, ?_, ?_⟩ <;> (repeat' (first | exact trivial  | exact rfl | exact Nat.le_of_ble_eq_true rfl | exact Or.inl rfl  | apply And.intro)))
      rintro ⟨m, ns0, ks0, p0, b0⟩ hI ih
      cases hI with
      | stop _ _ _ _ hb =>
        dsimp only at ih hb hle2 ⊢
        have hbb : b0 = true ∨ (b0 = false ∧ lookN s p0 = 125) := by
          cases b0 with
          | true => exact .inl rfl
          | false => exact .inr ⟨rfl, hb.resolve_left (by simp)⟩
        rcases hbb with rfl | ⟨rfl, hl⟩
        · skip
          repeat' ((conv => whnf); first | (rw [wrap64 (by omega)]) | fail)
          all_goals (conv => whnf)
          all_goals try (refine yK ?_ ?_ ?_ ?_ <;> (repeat' (first | exact trivial | (refine zW ?_; (try rw [wrap64 (by omega)]); omega) | exact rfl  | exact Or.inl rfl  | apply And.intro)); done)
        · skip
          repeat' ((conv => whnf); first | (exfalso; omega) | (rw [wrap64 (by omega)]) | refine zG (fun _ => ?_) (fun _ => ?_) | refine zH ?_ | refine zD (hL s _ false hs) [0] [] rfl rfl rfl rfl rfl ⟨rfl, trivial⟩ trivial ?_ | fail)
          all_goals (conv => whnf)
          all_goals try first
            | (refine yK ?_ ?_ ?_ ?_ <;> (repeat' (first | exact trivial | (refine zW ?_; (try rw [wrap64 (by omega)]); omega) | exact rfl  | exact Or.inl rfl  | apply And.intro)); done)
            | (exfalso; omega)
      | step m _ _ _ p1' b1' q p2' b2' k p3 b3 _ _ _ _ e1 e2 hn1 hk1 e3 e4 e5 e6 e7 =>
        dsimp only at hn1 hk1 e1 e2 e3 e7 ih ⊢
        have a2 := e4.2.1
        have a3 := e5.le a2
        have a6 := e4.1
        have hnl : (encS ns0).length = ns0.length := zX _
        have hkl : (ks0.map cK).length = ks0.length := zZ _
        rcases e3 with ⟨e0, rfl, rfl⟩ | ⟨e0, e3⟩
        · skip
          repeat' ((conv => whnf); first | (exfalso; omega) | (rw [wrap64 (by omega)]) | refine zI (fun _ => ?_) (fun _ => ?_) | refine zG (fun _ => ?_) (fun _ => ?_) | refine zH ?_ | (rw [zZ]; intro _) | refine zA (by first | omega | exact rfl | decide) ?_ | refine zD (hL s _ false hs) [0] [] rfl rfl rfl rfl rfl ⟨rfl, trivial⟩ trivial ?_ | refine zD (hN s _ _ q hs e4) [0] [] rfl rfl rfl rfl rfl ⟨rfl, trivial⟩ trivial ?_ | refine zD (hE _ _ _ _ _ _ e5 hs (by decide) (by omega)) [0] [] rfl rfl rfl rfl rfl ⟨rfl, trivial⟩ trivial ?_ | refine zD (ihn (by omega) (d + 1) _ _ _ _ _ (by omega) e6 a3.2.1) [0] [] rfl rfl rfl rfl rfl ⟨rfl, trivial⟩ trivial ?_ | refine zA ⟨by simp only [hnl, hkl, List.length_cons, List.length_nil]; omega, by intro y hy; rw [List.mem_singleton.1 hy]; rfl⟩ ?_ | refine zA ⟨by simp only [hnl, hkl], rfl⟩ ?_ | refine ih (m, ns0 ++ [(s.take q).drop _], ks0 ++ [k], p3, b3) _ (by show m < m + 1; omega) e7 (by refine ⟨?_, ?_, ?_⟩ <;> (repeat' (first | exact trivial | (show (_ : List (List DV)) = _; simp [cK_eq, encS]) | (show (_, _) = (_, _); simp [encS]) | exact rfl | exact Nat.le_of_ble_eq_true rfl | exact Or.inl rfl | apply And.intro))) | fail)
          all_goals (conv => whnf)
          all_goals try first
            | (refine yK ?_ ?_ ?_ ?_ <;> (repeat' (first | exact trivial | exact rfl | exact Nat.le_of_ble_eq_true rfl | exact Or.inl rfl | exact Or.inr rfl | apply And.intro)); done)
            | (exfalso; omega)
        · skip
          have a4 := e3.le e2
          repeat' ((conv => whnf); first | (exfalso; omega) | (rw [wrap64 (by omega)]) | refine zI (fun _ => ?_) (fun _ => ?_) | refine zG (fun _ => ?_) (fun _ => ?_) | refine zH ?_ | (rw [zZ]; intro _) | refine zA (by first | omega | exact rfl | decide) ?_ | refine zD (hL s _ false hs) [0] [] rfl rfl rfl rfl rfl ⟨rfl, trivial⟩ trivial ?_ | refine zD (hN s _ _ q hs e4) [0] [] rfl rfl rfl rfl rfl ⟨rfl, trivial⟩ trivial ?_ | refine zD (hE _ _ _ _ _ _ e5 hs (by decide) (by omega)) [0] [] rfl rfl rfl rfl rfl ⟨rfl, trivial⟩ trivial ?_ | refine zD (hE _ _ _ _ _ _ e3 hs (by decide) (by omega)) [0] [] rfl rfl rfl rfl rfl ⟨rfl, trivial⟩ trivial ?_ | refine zD (ihn (by omega) (d + 1) _ _ _ _ _ (by omega) e6 a3.2.1) [0] [] rfl rfl rfl rfl rfl ⟨rfl, trivial⟩ trivial ?_ | refine zA ⟨by simp only [hnl, hkl, List.length_cons, List.length_nil]; omega, by intro y hy; rw [List.mem_singleton.1 hy]; rfl⟩ ?_ | refine zA ⟨by simp only [hnl, hkl], rfl⟩ ?_ | refine ih (m, ns0 ++ [(s.take q).drop _], ks0 ++ [k], p3, b3) _ (by show m < m + 1; omega) e7 (by refine ⟨?_, ?_, ?_⟩ <;> (repeat' (first | exact trivial | (show (_ : List (List DV)) = _; simp [cK_eq, encS]) | (show (_, _) = (_, _); simp [encS]) | exact rfl | exact Nat.le_of_ble_eq_true rfl | exact Or.inl rfl | apply And.intro))) | fail)
          all_goals (conv => whnf)
          all_goals try first
            | (refine yK ?_ ?_ ?_ ?_ <;> (repeat' (first | exact trivial | exact rfl | exact Nat.le_of_ble_eq_true rfl | exact Or.inl rfl | exact Or.inr rfl | apply And.intro)); done)
            | (exfalso; omega)
end Go.Ab
namespace Go.Ab
open Go
set_option maxHeartbeats 4000000
attribute [local irreducible] Need IdxK FinK NextK CKs CQs ltS
theorem at1_app {s a b : Str} {p : Nat} : at1 s (a ++ b) p ↔ at1 s a p ∧ at1 s b (p + a.length) := by
  unfold at1
  simp only [List.length_append]
  constructor
  · rintro ⟨h1, h2⟩
    refine ⟨⟨by omega, ?_⟩, by omega, ?_⟩
    · have := congrArg (List.take a.length) h2
      rw [List.take_left', List.take_drop, List.take_take] at this
      · rw [show min (p + a.length) (p + (a.length + b.length)) = p + a.length by omega] at this; exact this
      · rfl
    · have := congrArg (List.drop a.length) h2
      rw [List.drop_left', List.drop_drop] at this
      · rw [Nat.add_assoc]; first | exact this | (rw [Nat.add_comm a.length p] at this; exact this)
      · rfl
  · rintro ⟨⟨h1, h2⟩, h3, h4⟩
    refine ⟨by omega, ?_⟩
    apply List.ext_getElem?
    intro i
    simp only [List.getElem?_drop, List.getElem?_take]
    by_cases hi : i < a.length
    · rw [List.getElem?_append_left hi]
      have := congrArg (·[i]?) h2
      simp only [List.getElem?_drop, List.getElem?_take] at this
      rw [if_pos (by omega)] at this
      rw [if_pos (by omega)]; exact this
    · rw [List.getElem?_append_right (by omega)]
      have := congrArg (·[i - a.length]?) h4
      simp only [List.getElem?_drop, List.getElem?_take] at this
      rw [show p + a.length + (i - a.length) = p + i by omega] at this
      rw [Nat.add_assoc] at this
      exact this
theorem at1_look {s a : Str} {p i : Nat} (h : at1 s a p) (hi : i < a.length) : lookN s (p + i) = a[i].toNat := by
  have := congrArg (·[i]?) h.2
  simp only [List.getElem?_drop, List.getElem?_take] at this
  rw [if_pos (by omega), List.getElem?_eq_getElem hi] at this
  simp [lookN, this]
theorem at1_cut {s a : Str} {p : Nat} (h : at1 s a p) : (s.take (p + a.length)).drop p = a := h.2
theorem Eat.yes {s w : Str} {p : Nat} {b : Bool} (h : at1 s w p) : Eat s w p b (p + w.length) b := .inl ⟨h, rfl, rfl⟩
theorem Eat.ex (s w : Str) (p : Nat) (b : Bool) : ∃ p' b', Eat s w p b p' b' := by
  by_cases h : at1 s w p
  · exact ⟨_, _, .inl ⟨h, rfl, rfl⟩⟩
  · exact ⟨_, _, .inr ⟨h, rfl, rfl⟩⟩
theorem NameEnd.ex (s : Str) : ∀ d p, s.length - p = d → p ≤ s.length → ∃ q, NameEnd s p q := by
  intro d
  induction d with
  | zero => intro p h hp; exact ⟨p, Nat.le_refl _, hp, fun i h1 h2 => by omega, by rw [lookN_ge (by omega)]; unfold nmC; omega⟩
  | succ d ih =>
    intro p h hp
    by_cases hn : nmC (lookN s p)
    · obtain ⟨q, q1, q2, q3, q4⟩ := ih (p + 1) (by omega) (by omega)
      refine ⟨q, by omega, q2, fun i h1 h2 => ?_, q4⟩
      by_cases hi : i = p
      · rw [hi]; exact hn
      · exact q3 i (by omega) h2
    · exact ⟨p, Nat.le_refl _, hp, fun i h1 h2 => by omega, hn⟩
theorem RdL.ex {s : Str} {P : Nat → Bool → Nd → Nat → Bool → Prop} {c : Nat} (hP : ∀ p b k p' b', P p b k p' b' → p ≤ s.length → p ≤ p' ∧ p' ≤ s.length + c ∧ (b' = false → p' ≤ s.length))
    (hB : ∀ p k p' b', P p true k p' b' → b' = true) (hx : ∀ p b, p ≤ s.length → ∃ k p' b', P p b k p' b') : ∀ d ns ks p b, s.length - p = d → (b = false → p ≤ s.length) → (b = false → ns.length ≤ p ∧ ks.length = ns.length) → ∃ m ns' ks' p' b', RdL s P m ns ks p b ns' ks' p' b' := by
  intro d
  induction d using Nat.strongRecOn with
  | ind d ih =>
  intro ns ks p b hd hp hn
  by_cases hs : b = true ∨ lookN s p = 125
  · exact ⟨_, _, _, _, _, .stop ns ks p b hs⟩
  · have hb : b = false := by cases b <;> simp_all
    subst hb
    have hp := hp rfl
    have hn := hn rfl
    have h1 : ∃ p1 b1, (ks.length = 0 ∧ p1 = p ∧ b1 = false) ∨ (0 < ks.length ∧ Eat s [44] p false p1 b1) := by
      by_cases hk : ks.length = 0
      · exact ⟨p, false, .inl ⟨hk, rfl, rfl⟩⟩
      · obtain ⟨p1, b1, h⟩ := Eat.ex s [44] p false
        exact ⟨p1, b1, .inr ⟨by omega, h⟩⟩
    obtain ⟨p1, b1, h1⟩ := h1
    have hp1 : p ≤ p1 ∧ p1 ≤ s.length := by
      rcases h1 with ⟨_, rfl, _⟩ | ⟨_, e⟩
      · exact ⟨Nat.le_refl _, hp⟩
      · have := e.le hp; exact ⟨this.1, this.2.1⟩
    obtain ⟨q, hq⟩ := NameEnd.ex s _ p1 rfl hp1.2
    obtain ⟨p2, b2, h3⟩ := Eat.ex s [58] q b1
    have h3' := h3.le hq.2.1
    obtain ⟨k, p3, b3, h4⟩ := hx p2 b2 h3'.2.1
    have h4' := hP _ _ _ _ _ h4 h3'.2.1
    have hq1 := hq.1
    by_cases hb2 : b2 = false
    · have h5 := (h3'.2.2 hb2).2
      simp at h5
      by_cases hb3 : b3 = false
      · obtain ⟨m, ns', ks', p', b', h6⟩ := ih (s.length - p3) (by have := h4'.2.2 hb3; omega) (ns ++ [(s.take q).drop p1]) (ks ++ [k]) p3 b3 rfl h4'.2.2 (fun _ => by simp; omega)
        exact ⟨_, _, _, _, _, .step m ns ks p p1 b1 q p2 b2 k p3 b3 ns' ks' p' b' (fun e => hs (.inr e)) hp (by omega) (by omega) h1 hq h3 h4 h6⟩
      · have hb3 : b3 = true := by cases b3 <;> simp_all
        exact ⟨_, _, _, _, _, .step 0 ns ks p p1 b1 q p2 b2 k p3 b3 _ _ _ _ (fun e => hs (.inr e)) hp (by omega) (by omega) h1 hq h3 h4 (.stop _ _ _ _ (.inl hb3))⟩
    · have hb2 : b2 = true := by cases b2 <;> simp_all
      subst hb2
      have hb3 := hB _ _ _ _ h4
      exact ⟨_, _, _, _, _, .step 0 ns ks p p1 b1 q p2 true k p3 b3 _ _ _ _ (fun e => hs (.inr e)) hp (by omega) (by omega) h1 hq h3 h4 (.stop _ _ _ _ (.inl hb3))⟩
theorem RdK.bad {s : Str} {n p : Nat} {k : Nd} {p' : Nat} {b' : Bool} (h : RdK s n p true k p' b') : b' = true := by
  cases n with
  | zero => exact h.2.2
  | succ n => rcases h with h | ⟨h, _⟩; exact h.2.2.2; cases h
theorem RdK.ex (s : Str) : ∀ n p b, p ≤ s.length → ∃ k p' b', RdK s n p b k p' b' := by
  intro n
  induction n with
  | zero => intro p b _; exact ⟨_, _, _, rfl, rfl, rfl⟩
  | succ n ih =>
    intro p b hp
    cases b with
    | true => exact ⟨_, _, _, .inl ⟨rfl, rfl, rfl, rfl⟩⟩
    | false =>
      by_cases h1 : lookN s p = 110
      · obtain ⟨p', b', h⟩ := Eat.ex s [110, 117, 109] p false; exact ⟨_, _, _, .inr ⟨rfl, .inl ⟨h1, h, rfl⟩⟩⟩
      by_cases h2 : lookN s p = 116
      · obtain ⟨p', b', h⟩ := Eat.ex s [116, 101, 120, 116] p false; exact ⟨_, _, _, .inr ⟨rfl, .inr (.inl ⟨h2, h, rfl⟩)⟩⟩
      by_cases h3 : lookN s p = 102
      · obtain ⟨p', b', h⟩ := Eat.ex s [102, 108, 97, 103] p false; exact ⟨_, _, _, .inr ⟨rfl, .inr (.inr (.inl ⟨h3, h, rfl⟩))⟩⟩
      by_cases h4 : lookN s p = 63
      · obtain ⟨p1, b1, h⟩ := Eat.ex s [63] p false
        obtain ⟨k, p', b', h5⟩ := ih p1 b1 (h.le hp).2.1
        exact ⟨_, _, _, .inr ⟨rfl, .inr (.inr (.inr (.inl ⟨h4, p1, b1, k, h, h5, rfl⟩)))⟩⟩
      by_cases h5 : lookN s p = 91
      · obtain ⟨p1, b1, h⟩ := Eat.ex s [91] p false
        obtain ⟨k, p2, b2, h6⟩ := ih p1 b1 (h.le hp).2.1
        obtain ⟨p', b', h7⟩ := Eat.ex s [93] p2 b2
        exact ⟨_, _, _, .inr ⟨rfl, .inr (.inr (.inr (.inr (.inl ⟨h5, p1, b1, k, p2, b2, h, h6, h7, rfl⟩))))⟩⟩
      · obtain ⟨p1, b1, h⟩ := Eat.ex s [123] p false
        obtain ⟨m, ns, ks, p2, b', h6⟩ := RdL.ex (P := RdK s n) (c := n) (fun p b k p' b' h hp => h.le hp) (fun p k p' b' h => h.bad) ih _ [] [] p1 b1 rfl (fun _ => (h.le hp).2.1) (fun _ => ⟨Nat.zero_le _, rfl⟩)
        exact ⟨_, _, _, .inr ⟨rfl, .inr (.inr (.inr (.inr (.inr ⟨⟨h1, h2, h3, h4, h5⟩, m, p1, b1, ns, ks, p2, h, h6, rfl, rfl⟩))))⟩⟩
theorem cK_inj {k k' : Nd} (h : cK k = cK k') : k.sort = k'.sort ∧ k.names = k'.names ∧ k.kids.map cK = k'.kids.map cK := by
  rw [cK_eq, cK_eq] at h
  simp only [List.cons.injEq, DV.int.injEq, DV.sl.injEq, true_and, and_true] at h
  obtain ⟨h1, h2, h3⟩ := h
  refine ⟨h1, ?_, h3⟩
  have h4 : Function.Injective fun s : Str => [DV.str s] := fun a b e => by simpa using e
  exact (List.map_inj_right fun _ _ e => h4 e).1 h2
theorem mapK {l l' : List Nd} (h : l.map cK = l'.map cK) : l.length = l'.length ∧ ∀ i (h1 : i < l.length) (h2 : i < l'.length), cK l[i] = cK l'[i] := by
  have hl : l.length = l'.length := by simpa using congrArg List.length h
  refine ⟨hl, fun i h1 h2 => ?_⟩
  have := congrArg (·[i]?) h
  simpa [h1, h2] using this
theorem sizes_map {l l' : List Nd} (hl : l.length = l'.length) (h : ∀ i (h1 : i < l.length) (h2 : i < l'.length), l[i].size = l'[i].size) : sizes l = sizes l' := by
  induction l generalizing l' with
  | nil => cases l' with | nil => rfl | cons x r => simp at hl
  | cons x r ih =>
    cases l' with
    | nil => simp at hl
    | cons y s =>
      have h0 := h 0 (by simp) (by simp)
      have := ih (l' := s) (by simpa using hl) (fun i h1 h2 => by have := h (i + 1) (by simp; omega) (by simp; omega); simpa using this)
      simp at h0
      simp [sizes, h0, this]
theorem cK_same : ∀ (k k' : Nd), cK k = cK k' → k.size = k'.size ∧ txK k = txK k' ∧ ∀ d, okK d k → okK d k' := by
  refine Nd.ind fun k ih => fun k' h => ?_
  obtain ⟨h1, h2, h3⟩ := cK_inj h
  obtain ⟨h4, h5⟩ := mapK h3
  have hk : ∀ i (a : i < k.kids.length) (b : i < k'.kids.length), k.kids[i].size = k'.kids[i].size ∧ txK k.kids[i] = txK k'.kids[i] ∧ ∀ d, okK d k.kids[i] → okK d k'.kids[i] := fun i a b => ih _ (List.getElem_mem a) _ (h5 i a b)
  refine ⟨?_, ?_, fun d hd => ?_⟩
  · rw [k.size_eq, k'.size_eq, sizes_map h4 fun i a b => (hk i a b).1]
  · rw [txK_eq, txK_eq, h1, h2, h4]
    have : k.kids.map txK = k'.kids.map txK := List.ext_getElem (by simpa using h4) fun i a b => by simpa using (hk i (by simpa using a) (by simpa using b)).2.1
    rw [this]
  · have a := okK_top hd
    refine OkG.iff.2 ⟨a.1, ?_, fun i hi => (hk i (by omega) hi).2.2 _ (okK_any hd (by omega))⟩
    have := a.2
    unfold aloneK at this
    show aloneK k'
    unfold aloneK
    rw [← h1, ← h2, ← h4]; exact this
theorem aK_of {k k' : Nd} (h : cK k = cK k') : aK k = aK k' := by
  have e : ∀ k : Nd, aK k = .agg (av (cK k)) := fun k => by rw [cK_eq]; rfl
  rw [e, e, h]
theorem KindOK_of {k k' : Nd} (h : cK k = cK k') (ho : KindOK k) : KindOK k' := by
  obtain ⟨h1, _, h3⟩ := cK_same k k' h
  exact ⟨h3 _ ho.1, by rw [← h1]; exact ho.2⟩
end Go.Ab
namespace Go.Ab
open Go
set_option maxHeartbeats 4000000
attribute [local irreducible] Need IdxK FinK NextK CKs CQs ltS
theorem joinK_ge {ns : List Str} {ks : List Nd} {f : Nd → Str} : ∀ i, i ≤ ns.length → i ≤ ks.length → i ≤ (joinK true ns (ks.map f) i).length := by
  intro i
  induction i with
  | zero => intro _ _; omega
  | succ i ih =>
    intro h1 h2
    have := ih (by omega) (by omega)
    by_cases h0 : 0 < i
    · rw [joinK_tp h0 (by omega) (by omega)]; simp; omega
    · rw [joinK_tz h0 (by omega) (by omega)]; simp; omega
theorem at1_join {s : Str} {ns : List Str} {ks : List Nd} {f : Nd → Str} {q n : Nat} (hn : n ≤ ns.length) (hk : n ≤ ks.length) (h : at1 s (joinK true ns (ks.map f) n) q) : ∀ d i, i + d = n → at1 s (joinK true ns (ks.map f) i) q := by
  intro d
  induction d with
  | zero => intro i hi; rw [show i = n by omega]; exact h
  | succ d ih =>
    intro i hi
    have h1 := ih (i + 1) (by omega)
    by_cases h0 : 0 < i
    · rw [joinK_tp h0 (by omega) (by omega), List.append_assoc, List.append_assoc, List.append_assoc] at h1; exact (at1_app.1 h1).1
    · rw [joinK_tz h0 (by omega) (by omega), List.append_assoc, List.append_assoc] at h1; exact (at1_app.1 h1).1
theorem name_nmC {s : Str} (h : nameOk s) {i : Nat} (hi : i < s.length) : nmC s[i].toNat := by
  have := (h.2 i hi hi).1
  unfold chOk chLow at this
  unfold nmC; omega
theorem nameEnd_at {s nm : Str} {p : Nat} (hn : nameOk nm) (h : at1 s (nm ++ [58]) p) : NameEnd s p (p + nm.length) ∧ at1 s nm p ∧ at1 s [58] (p + nm.length) := by
  obtain ⟨h1, h2⟩ := at1_app.1 h
  refine ⟨⟨by omega, h1.1, fun i a b => ?_, ?_⟩, h1, h2⟩
  · have := at1_look (i := i - p) h1 (by omega)
    rw [show p + (i - p) = i by omega] at this
    rw [this]; exact name_nmC hn _
  · have := at1_look (i := 0) h2 (by simp)
    rw [Nat.add_zero] at this
    rw [this]; unfold nmC; decide
theorem RdK_good (s : Str) : ∀ (k : Nd) (d : Int) (n p : Nat), okK d k → d = 7 - n → at1 s (txK k) p → ∃ k', cK k' = cK k ∧ RdK s n p false k' (p + (txK k).length) false := by
  refine Nd.ind fun k ih => fun d n p hd hn ha => ?_
  have ht := okK_top hd
  have hal := ht.2
  obtain ⟨n, rfl⟩ : ∃ m, n = m + 1 := ⟨n - 1, by omega⟩
  have e := txK_eq k
  unfold aloneK at hal
  have leaf : k.names.length = 0 → k.kids.length = 0 → cK (.mk k.sort 0 [] [] []) = cK k := fun h1 h2 => by
    rw [cK_eq, cK_eq, List.eq_nil_of_length_eq_zero h1, List.eq_nil_of_length_eq_zero h2]; rfl
  have one : k.names.length = 0 → ∀ h : k.kids.length = 1, ∀ k1, cK k1 = cK (k.kids[0]'(by omega)) → cK (.mk k.sort 0 [] [] [k1]) = cK k := fun h1 h2 k1 h3 => by
    have : k.kids = [k.kids[0]'(by omega)] := by
      apply List.ext_getElem (by simp [h2])
      intro i a b
      have : i = 0 := by omega
      subst this; rfl
    rw [cK_eq, cK_eq k, List.eq_nil_of_length_eq_zero h1, this]
    simp [Nd.sort, Nd.names, Nd.kids, h3]
  by_cases h1 : k.sort = 1
  · rw [if_pos h1] at e; rw [e] at ha ⊢
    refine ⟨.mk 1 0 [] [] [], by rw [← h1]; exact leaf (by omega) (by omega), .inr ⟨rfl, .inl ⟨?_, Eat.yes ha, rfl⟩⟩⟩
    exact at1_look (i := 0) ha (by simp)
  rw [if_neg h1] at e
  by_cases h2 : k.sort = 2
  · rw [if_pos h2] at e; rw [e] at ha ⊢
    refine ⟨.mk 2 0 [] [] [], by rw [← h2]; exact leaf (by omega) (by omega), .inr ⟨rfl, .inr (.inl ⟨?_, Eat.yes ha, rfl⟩)⟩⟩
    exact at1_look (i := 0) ha (by simp)
  rw [if_neg h2] at e
  by_cases h3 : k.sort = 3
  · rw [if_pos h3] at e; rw [e] at ha ⊢
    refine ⟨.mk 3 0 [] [] [], by rw [← h3]; exact leaf (by omega) (by omega), .inr ⟨rfl, .inr (.inr (.inl ⟨?_, Eat.yes ha, rfl⟩))⟩⟩
    exact at1_look (i := 0) ha (by simp)
  rw [if_neg h3] at e
  by_cases h4 : k.sort = 4
  · have hk : k.kids.length = 1 := by omega
    rw [if_pos h4, headD_map (by omega)] at e; rw [e] at ha ⊢
    obtain ⟨a1, a3⟩ := at1_app.1 ha
    obtain ⟨a1, a2⟩ := at1_app.1 a1
    obtain ⟨k1, q1, q2⟩ := ih _ (List.getElem_mem (show 0 < k.kids.length by omega)) (d + 1) n _ (okK_any hd (by omega)) (by omega) a2
    refine ⟨.mk 4 0 [] [] [k1], by rw [← h4]; exact one (by omega) hk _ q1, .inr ⟨rfl, .inr (.inr (.inr (.inr (.inl ⟨?_, _, _, k1, _, _, Eat.yes a1, q2, ?_, rfl⟩))))⟩⟩
    · exact at1_look (i := 0) a1 (by simp)
    · have := Eat.yes (b := false) a3
      simp only [List.length_append, List.length_cons, List.length_nil] at this ⊢
      simp only [Nat.add_assoc] at this ⊢
      exact this
  rw [if_neg h4] at e
  by_cases h6 : k.sort = 6
  · have hk : k.kids.length = 1 := by omega
    rw [if_pos h6, headD_map (by omega)] at e; rw [e] at ha ⊢
    obtain ⟨a1, a2⟩ := at1_app.1 ha
    obtain ⟨k1, q1, q2⟩ := ih _ (List.getElem_mem (show 0 < k.kids.length by omega)) (d + 1) n _ (okK_any hd (by omega)) (by omega) a2
    refine ⟨.mk 6 0 [] [] [k1], by rw [← h6]; exact one (by omega) hk _ q1, .inr ⟨rfl, .inr (.inr (.inr (.inl ⟨?_, _, _, k1, Eat.yes a1, ?_, rfl⟩)))⟩⟩
    · exact at1_look (i := 0) a1 (by simp)
    · simp only [List.length_append, List.length_cons, List.length_nil] at q2 ⊢
      simp only [Nat.add_assoc] at q2 ⊢
      exact q2
  rw [if_neg h6] at e
  have h5 : k.sort = 5 := by omega
  have hr : k.names.length = k.kids.length ∧ rise k.names := by grind
  obtain ⟨hl, hrise⟩ := hr
  rw [e] at ha ⊢
  obtain ⟨a1, a3⟩ := at1_app.1 ha
  obtain ⟨a1, a2⟩ := at1_app.1 a1
  have hj := at1_join (n := k.kids.length) (by omega) (Nat.le_refl _) a2
  have key : ∀ r i, i + r = k.kids.length → ∀ ks0 : List Nd, ks0.map cK = (k.kids.take i).map cK → ∃ ks1 m, ks1.map cK = k.kids.map cK ∧
      RdL s (RdK s n) m (k.names.take i) ks0 (p + ([123] : Str).length + (joinK true k.names (k.kids.map txK) i).length) false k.names ks1 (p + ([123] : Str).length + (joinK true k.names (k.kids.map txK) k.kids.length).length) false := by
    intro r
    induction r with
    | zero =>
      intro i hi ks0 h0
      rw [show i = k.kids.length by omega] at h0 ⊢
      rw [List.take_of_length_le (Nat.le_refl _)] at h0
      rw [List.take_of_length_le (by omega)]
      refine ⟨ks0, 0, h0, .stop _ _ _ _ (.inr ?_)⟩
      have := at1_look (i := 0) a3 (by simp)
      simp only [List.length_append, Nat.add_zero] at this
      rw [Nat.add_assoc] ; exact this
    | succ r ihr =>
      intro i hi ks0 h0
      have hlen : ks0.length = i := by have := (mapK h0).1; simp at this; omega
      have hi1 := hj (k.kids.length - (i + 1)) (i + 1) (by omega)
      have hnm : nameOk (k.names[i]'(by omega)) := (hrise i (by omega) (by omega)).1
      have hge := joinK_ge (ns := k.names) (ks := k.kids) (f := txK) i (by omega) (by omega)
      have hle := (hj (k.kids.length - i) i (by omega)).1
      have hstep : ∃ p1, ((ks0.length = 0 ∧ p1 = p + ([123] : Str).length + (joinK true k.names (k.kids.map txK) i).length ∧ false = false) ∨ (0 < ks0.length ∧ Eat s [44] (p + ([123] : Str).length + (joinK true k.names (k.kids.map txK) i).length) false p1 false)) ∧
          at1 s (k.names[i]'(by omega) ++ [58] ++ txK k.kids[i]) p1 ∧ p + ([123] : Str).length + (joinK true k.names (k.kids.map txK) (i + 1)).length = p1 + (k.names[i]'(by omega) ++ [58] ++ txK k.kids[i]).length ∧ lookN s (p + ([123] : Str).length + (joinK true k.names (k.kids.map txK) i).length) ≠ 125 := by
        by_cases h0 : 0 < i
        · rw [joinK_tp h0 (by omega) (by omega), List.append_assoc, List.append_assoc, List.append_assoc] at hi1
          obtain ⟨b1, b2⟩ := at1_app.1 hi1
          obtain ⟨b2, b3⟩ := at1_app.1 b2
          refine ⟨_, .inr ⟨by omega, Eat.yes b2⟩, by rw [List.append_assoc]; exact b3, by rw [joinK_tp h0 (by omega) (by omega)]; simp; omega, ?_⟩
          have := at1_look (i := 0) b2 (by simp)
          rw [Nat.add_zero] at this
          rw [this]; decide
        · rw [joinK_tz h0 (by omega) (by omega), List.append_assoc, List.append_assoc] at hi1
          obtain ⟨b1, b2⟩ := at1_app.1 hi1
          refine ⟨_, .inl ⟨by omega, rfl, rfl⟩, by rw [List.append_assoc]; exact b2, by rw [joinK_tz h0 (by omega) (by omega)]; simp; omega, ?_⟩
          have b3 := (at1_app.1 b2).1
          have := at1_look (i := 0) b3 (by have := hnm.1; omega)
          rw [Nat.add_zero] at this
          rw [this]
          have := name_nmC hnm (i := 0) (by have := hnm.1; omega)
          unfold nmC at this; omega
      obtain ⟨p1, g1, g2, g3, g4⟩ := hstep
      obtain ⟨b1, b2⟩ := at1_app.1 g2
      obtain ⟨c1, c2, c3⟩ := nameEnd_at hnm b1
      obtain ⟨k1, q1, q2⟩ := ih _ (List.getElem_mem (show i < k.kids.length by omega)) (d + 1) n _ (okK_any hd (by omega)) (by omega) b2
      obtain ⟨ks1, m, r1, r2⟩ := ihr (i + 1) (by omega) (ks0 ++ [k1]) (by
        have e1 : (k.kids.take (i + 1)).map cK = (k.kids.take i).map cK ++ [cK (k.kids[i]'(by omega))] := by rw [List.take_add_one, List.getElem?_eq_getElem (by omega), List.map_append]; rfl
        rw [e1, List.map_append, h0]; show _ ++ [cK k1] = _; rw [q1])
      refine ⟨ks1, m + 1, r1, ?_⟩
      rw [g3] at r2
      have hcut := at1_cut c2
      refine .step m _ _ _ p1 false (p1 + (k.names[i]'(by omega)).length) (p1 + (k.names[i]'(by omega)).length + ([58] : Str).length) false k1 _ false _ _ _ _ g4 (by omega) (by simp; omega) (by omega) g1 c1 (Eat.yes c3) (by
        have := q2
        simp only [List.length_append] at this
        simp only [Nat.add_assoc] at this ⊢
        exact this) (by
        rw [hcut]
        have : k.names.take i ++ [k.names[i]'(by omega)] = k.names.take (i + 1) := by rw [List.take_add_one, List.getElem?_eq_getElem (by omega)]; rfl
        rw [this]
        simp only [List.length_append] at r2
        simp only [Nat.add_assoc] at r2 ⊢
        exact r2)
  obtain ⟨ks1, m, r1, r2⟩ := key k.kids.length 0 (by omega) [] rfl
  refine ⟨.mk 5 0 [] k.names ks1, ?_, .inr ⟨rfl, .inr (.inr (.inr (.inr (.inr ⟨?_, m, _, _, k.names, ks1, _, Eat.yes a1, r2, ?_, rfl⟩))))⟩⟩
  · rw [cK_eq]; show [DV.int .i64 5, .sl (encS k.names), .sl (ks1.map cK)] = cK k; rw [cK_eq k, h5, r1]
  · have := at1_look (i := 0) a1 (by simp)
    rw [Nat.add_zero] at this
    rw [this]; decide
  · simp only [List.length_append, List.length_cons, List.length_nil]; omega
def K_KindRead (L : Lk) (f : Nat) : Prop := ∀ s : Str, (∀ k, KindOK k → txK k = s → CP L f [.d (.str s)] (.tup [aK k, .d (.bool true)])) ∧
  ((¬ ∃ k, KindOK k ∧ txK k = s) → CP L f [.d (.str s)] (.tup [aK zNd, .d (.bool false)]))
theorem k_KindRead_s {L : Lk} (hf : FnR L 127 c127) (hR : ∀ s : Str, s.length ≤ 1000000 → ∀ n, n ≤ 7 → K_RdK L s n) (hO : K_KindOk L 71) (hT : K_textK L 79) : K_KindRead L 127 := by
  intro s
  refine ⟨fun k hk hs => ?_, fun hno => ?_⟩
  · have hlen := txK_len k 1 hk.1
    have hk2 := hk.2
    rw [hs] at hlen
    have ha : at1 s (txK k) 0 := by rw [hs]; exact ⟨by simp, by simp⟩
    obtain ⟨k', q1, q2⟩ := RdK_good s k 1 6 0 hk.1 rfl ha
    have hk' := KindOK_of q1.symm hk
    have hs' := (cK_same k' k q1).2.1
    rw [hs] at hs' q2
    have hc := hR s (by omega) 6 (by omega) 1 0 false k' _ _ rfl q2 (by omega)
    rw [← aK_of q1]
    refine CP.enter hf rfl rfl rfl ?_
    repeat' ((conv => whnf); first | (exfalso; omega) | refine zI (fun _ => ?_) (fun _ => ?_) | refine zG (fun _ => ?_) (fun _ => ?_) | refine zF (fun _ => ?_) (fun _ => ?_) | refine zO (fun _ => ?_) (fun _ => ?_) | refine zH ?_ | intro _ | refine zD hc [1] [] rfl rfl rfl rfl rfl ⟨rfl, trivial⟩ trivial ?_ | refine zB (hO k') ?_ | refine zB (hT k' 1 ⟨hk'.1, by have := hk'.2; omega⟩) ?_ | fail)
    all_goals (conv => whnf)
    all_goals try first
      | (refine yK ?_ ?_ ?_ ?_ <;> (repeat' (first | exact trivial | exact rfl    | apply And.intro)); done)
      | exact absurd hk' (by assumption)
      | exact absurd hs' (by assumption)
      | (exfalso; simp at *; done)
  · by_cases hl : s.length ≤ 800
    · obtain ⟨k', p', b', hrd⟩ := RdK.ex s 6 0 false (by omega)
      have hc := hR s (by omega) 6 (by omega) 1 0 false k' _ _ rfl hrd (by omega)
      have hb : b' = true ∨ b' = false := by cases b' <;> simp
      rcases hb with rfl | rfl
      · refine CP.enter hf rfl rfl rfl ?_
        repeat' ((conv => whnf); first | (exfalso; omega) | refine zI (fun _ => ?_) (fun _ => ?_) | intro _ | refine zD hc [1] [] rfl rfl rfl rfl rfl ⟨rfl, trivial⟩ trivial ?_ | fail)
        all_goals (conv => whnf)
        all_goals try (refine yK ?_ ?_ ?_ ?_ <;> (repeat' (first | exact trivial | exact rfl    | apply And.intro)); done)
      · refine CP.enter hf rfl rfl rfl ?_
        repeat' ((conv => whnf); first | (exfalso; omega) | refine zI (fun _ => ?_) (fun _ => ?_) | refine zG (fun _ => ?_) (fun _ => ?_) | refine zF (fun _ => ?_) (fun _ => ?_) | refine zO (fun _ => ?_) (fun _ => ?_) | refine zH ?_ | intro _ | refine zD hc [1] [] rfl rfl rfl rfl rfl ⟨rfl, trivial⟩ trivial ?_ | refine zB (hO k') ?_ | refine zB (hT k' 1 (by assumption)) ?_ | fail)
        all_goals (conv => whnf)
        all_goals try first
          | (refine yK ?_ ?_ ?_ ?_ <;> (repeat' (first | exact trivial | exact rfl    | apply And.intro)); done)
          | exact absurd ⟨k', by assumption, by assumption⟩ hno
    · refine CP.enter hf rfl rfl rfl ?_
      repeat' ((conv => whnf); first | (exfalso; omega) | refine zI (fun _ => ?_) (fun _ => ?_) | intro _ | fail)
      all_goals (conv => whnf)
      all_goals try (refine yK ?_ ?_ ?_ ?_ <;> (repeat' (first | exact trivial | exact rfl    | apply And.intro)); done)
end Go.Ab
namespace Go.Ab
open Go
set_option maxHeartbeats 4000000
attribute [local irreducible] Need IdxK FinK NextK CKs CQs ltS
theorem idx_Si {xs : List Str} {i : Int} {K : List DV → Prop} (n : Nat) (e : i = (n : Int)) (h : n < xs.length) (k : K [.str xs[n]]) : IdxK (encS xs) i K := by subst e; exact yE h k
def opWords : List Str := [[110, 111, 110, 101], [101, 109, 112, 116, 121], [115, 111, 109, 101], [111, 110, 101], [97, 100, 100], [115, 117, 98], [109, 117, 108], [100, 105, 118], [114, 101, 109], [108, 101, 115, 115], [115, 97, 109, 101], [97, 110, 100], [111, 114], [110, 111, 116], [105, 102], [108, 101, 116], [103, 101, 116], [112, 117, 116], [99, 117, 116], [102, 111, 114, 109], [97, 116], [115, 105, 122, 101], [106, 111, 105, 110], [112, 97, 114, 116], [115, 104, 111, 119], [114, 101, 97, 100], [101, 108, 115, 101], [99, 97, 115, 101], [109, 97, 112], [107, 101, 101, 112], [102, 111, 108, 100], [100, 114, 111, 112], [102, 97, 105, 108], [101, 109, 105, 116], [115, 101, 110, 100], [98, 111, 116, 104], [99, 104, 111, 111, 115, 101], [116, 97, 107, 101], [101, 97, 99, 104]]
def opWord (op : Int) : Str := if 5 ≤ op ∧ op ≤ 43 then opWords.getD (op - 5).toNat [] else []
theorem opWord_in {n : Nat} (h : n < opWords.length) : opWord (5 + n) = opWords[n] := by
  have h9 : opWords.length = 39 := rfl
  rw [opWord, if_pos (by omega), show ((5 : Int) + n - 5).toNat = n by omega, List.getD_eq_getElem?_getD, List.getElem?_eq_getElem h]; rfl
theorem opWord_out {op : Int} (h : ¬ (5 ≤ op ∧ op ≤ 43)) : opWord op = [] := by rw [opWord, if_neg h]
theorem k_l11Word {L : Lk} (hf : FnR L 155 c155) (hIn : K_in L 65) : ∀ op : Int, CP L 155 [.d (.int .i64 op)] (.d (.str (opWord op))) := by
  intro op
  refine CP.enter hf rfl rfl rfl ?_
  repeat' ((conv => whnf); first | (rw [wrap64 (by omega)]) | refine idx_Si (xs := opWords) (op - 5).toNat (by omega) (by show _ < 39; omega) ?_ | refine zO (fun _ => ?_) (fun _ => ?_) | refine zA (by first | omega | exact rfl | decide) ?_ | refine zB (hIn _ _ _) ?_ | fail)
  all_goals (conv => whnf)
  · have := opWord_in (n := (op - 5).toNat) (by show _ < 39; omega)
    rw [show (5 : Int) + ((op - 5).toNat : Int) = op by omega] at this
    exact yJ (yN this.symm)
  · exact yJ (yN (opWord_out (by assumption)).symm)
def firstIdx : List Str → Str → Nat
  | [], _ => 0
  | x :: r, w => if x = w then 0 else firstIdx r w + 1
theorem firstIdx_of : ∀ {l : List Str} {w : Str} {i : Nat} (h : i < l.length), l[i] = w → (∀ j (h : j < l.length), j < i → l[j] ≠ w) → firstIdx l w = i
  | x :: r, w, 0, h, e, hn => by simp at e; simp [firstIdx, e]
  | x :: r, w, i + 1, h, e, hn => by
    have h0 := hn 0 (by simp) (by omega)
    simp at h0 e
    have := firstIdx_of (l := r) (i := i) (by simpa using h) e (fun j hj hlt => by have := hn (j + 1) (by simp; omega) (by omega); simpa using this)
    simp [firstIdx, h0, this]
theorem firstIdx_none : ∀ {l : List Str} {w : Str}, (∀ j (h : j < l.length), l[j] ≠ w) → firstIdx l w = l.length
  | [], w, _ => rfl
  | x :: r, w, hn => by
    have h0 := hn 0 (by simp)
    simp at h0
    have := firstIdx_none (l := r) (w := w) fun j hj => by have := hn (j + 1) (by simp; omega); simpa using this
    simp [firstIdx, h0, this]
def opOf (w : Str) : Int := if firstIdx opWords w < 39 then 5 + (firstIdx opWords w : Int) else 0
def K_opOf (L : Lk) (f : Nat) : Prop := ∀ w : Str, CP L f [.d (.str w)] (.d (.int .i64 (opOf w)))
theorem k_l11Op {L : Lk} (hf : FnR L 273 c273) (hW : ∀ op : Int, CP L 155 [.d (.int .i64 op)] (.d (.str (opWord op)))) : K_opOf L 273 := by
  intro w
  refine CP.enter hf rfl rfl rfl ?_
  repeat' ((conv => whnf); first | (rw [wrap64 (by omega)]) | refine zM (fun _ => ?_) (fun _ => ?_) | refine zF (fun _ => ?_) (fun _ => ?_) | refine zB (hW _) ?_ | refine ih _ (by omega) (Pf.get ?_) (by refine ⟨?_, ?_, ?_⟩ <;> (repeat' (first | exact trivial | (refine zW ?_; (try rw [wrap64 (by omega)]); omega) | exact rfl | apply And.intro))) | ((fail_if_success (have _h := ih)); refine LW.count 39 (fun i => ∀ j (h : j < opWords.length), j < i → opWords[j] ≠ w) (fun i => ⟨[(3, .d (.int .i64 (5 + i))), (0, .d (.str w))], 0, [], []⟩) (fun _ => ⟨rfl, rfl, rfl⟩) (fun i hi hI ih => ?_) (fun j h1 h2 => by omega) _ (by refine ⟨?_, ?_, ?_⟩ <;> (repeat' (first | exact trivial | (refine zW ?_; (try rw [wrap64 (by omega)]); omega) | exact rfl | apply And.intro)))) | fail)
  all_goals (conv => whnf)
  · have hl : i < opWords.length := by show i < 39; omega
    have e := opWord_in hl
    have hx : opWords[i] = w := by rw [← e]; assumption
    exact yJ (zW (by rw [opOf, firstIdx_of hl hx hI, if_pos (by omega)]))
  · have hl : i < opWords.length := by show i < 39; omega
    have e := opWord_in hl
    refine ⟨fun j h1 h2 => ?_⟩
    by_cases hj : j = i
    · subst hj; rw [← e]; assumption
    · exact hI j h1 (by omega)
  · have h9 : opWords.length = 39 := rfl
    exact yJ (zW (by rw [opOf, firstIdx_none fun j h => hI j h (by omega), h9]; rfl))
def varOk (s : Str) : Prop := nameOk s ∧ opOf s = 0 ∧ s ≠ [121, 101, 115] ∧ s ≠ [110, 111] ∧ s ≠ [101, 110, 100]
def K_var (L : Lk) (f : Nat) : Prop := ∀ w : Str, CP L f [.d (.str w)] (.d (.bool (pb (varOk w))))
theorem k_l11FreeName {L : Lk} (hf : FnR L 330 c330) (hN : K_name L 68) (hO : K_opOf L 273) : K_var L 330 := by
  intro w
  refine CP.enter hf rfl rfl rfl ?_
  repeat' ((conv => whnf); first | refine zG (fun _ => ?_) (fun _ => ?_) | refine zF (fun _ => ?_) (fun _ => ?_) | refine zO (fun _ => ?_) (fun _ => ?_) | refine zH ?_ | refine zB (hN _) ?_ | refine zB (hO _) ?_ | fail)
  all_goals (conv => whnf)
  all_goals try exact yL (by simp only [varOk, zR]; grind)
def nNames (op : Int) : Int := if op = 4 ∨ op = 20 ∨ op = 21 ∨ op = 22 ∨ op = 23 ∨ op = 32 ∨ op = 33 ∨ op = 34 ∨ op = 39 ∨ op = 42 ∨ op = 43 then 1 else if op = 35 then 2 else 0
theorem k_l11Names {L : Lk} (hf : FnR L 275 c275) : ∀ op : Int, CP L 275 [.d (.int .i64 op)] (.d (.int .i64 (nNames op))) := by
  intro op
  refine CP.enter hf rfl rfl rfl ?_
  repeat' ((conv => whnf); first | refine zG (fun _ => ?_) (fun _ => ?_) | fail)
  all_goals (conv => whnf)
  all_goals try exact yJ (zW (by unfold nNames; grind))
def binds (op : Int) : Prop := op = 4 ∨ op = 20 ∨ op = 32 ∨ op = 33 ∨ op = 34 ∨ op = 35 ∨ op = 42 ∨ op = 43
theorem k_l11Binds {L : Lk} (hf : FnR L 277 c277) : ∀ op : Int, CP L 277 [.d (.int .i64 op)] (.d (.bool (pb (binds op)))) := by
  intro op
  refine CP.enter hf rfl rfl rfl ?_
  repeat' ((conv => whnf); first | refine zG (fun _ => ?_) (fun _ => ?_) | fail)
  all_goals (conv => whnf)
  all_goals try exact yL (by simp only [binds]; grind)
def kidsOf (op : Int) : Str :=
  if op = 7 ∨ op = 8 ∨ op = 18 ∨ op = 21 ∨ op = 23 ∨ op = 26 ∨ op = 29 ∨ op = 30 ∨ op = 38 ∨ op = 39 then [118] else if op = 19 ∨ op = 28 ∨ op = 32 ∨ op = 35 then [118, 118, 118] else
  if op = 40 then [97, 97] else if op = 41 then [118, 97, 97] else if op = 42 ∨ op = 43 then [118, 97] else if (9 ≤ op ∧ op ≤ 31) ∨ op = 33 ∨ op = 34 then [118, 118] else []
theorem k_l11Kids {L : Lk} (hf : FnR L 279 c279) (hIn : K_in L 65) : ∀ op : Int, CP L 279 [.d (.int .i64 op)] (.d (.str (kidsOf op))) := by
  intro op
  refine CP.enter hf rfl rfl rfl ?_
  repeat' ((conv => whnf); first | refine zG (fun _ => ?_) (fun _ => ?_) | refine zO (fun _ => ?_) (fun _ => ?_) | refine zB (hIn _ _ _) ?_ | fail)
  all_goals (conv => whnf)
  all_goals try exact yJ (yN (by unfold kidsOf; grind))
theorem k_l6Has {L : Lk} (hf : FnR L 363 c363) : ∀ (l : List Str) (w : Str), CP L 363 [.d (.sl (encS l)), .d (.str w)] (.d (.bool (pb (w ∈ l)))) := by
  intro l w
  refine CP.enter hf rfl rfl rfl ?_
  repeat' ((conv => whnf); first | refine zI (fun _ => ?_) (fun _ => ?_) | refine zF (fun _ => ?_) (fun _ => ?_) | (rw [zX]; intro _) | refine zA (by first | omega | exact rfl | decide) ?_ | refine yE (by omega) ?_ | refine ih _ (by omega) (hI.snoc fun _ => Pf.get ?_) (by refine ⟨?_, ?_, ?_⟩ <;> (repeat' (first | exact trivial | exact yM (by omega) | exact rfl | apply And.intro))) | ((fail_if_success (have _h := ih)); refine LW.count l.length (fun i => AllB i fun j => ∀ h : j < l.length, l[j] ≠ w) (fun i => ⟨[(5, .d (.int .i64 i)), (0, .d (.sl (encS l))), (1, .d (.str w))], 0, [], []⟩) (fun _ => ⟨rfl, rfl, rfl⟩) (fun i hi hI ih => ?_) (.zero) _ (by refine ⟨?_, ?_, ?_⟩ <;> (repeat' (first | exact trivial | exact rfl | apply And.intro)))) | fail)
  all_goals (conv => whnf)
  all_goals try first
    | exact fin_y (by rw [← (by assumption : l[i] = w)]; exact List.getElem_mem _)
    | exact ⟨by assumption⟩
    | exact fin_n fun h => by obtain ⟨j, h1, h2⟩ := List.getElem_of_mem h; exact hI j (by omega) h1 h2
end Go.Ab
namespace Go.Ab
open Go
set_option maxHeartbeats 4000000
attribute [local irreducible] Need IdxK FinK NextK CKs CQs ltS
def wtS : List Str → Nat
  | [] => 0
  | s :: r => s.length + 1 + wtS r
mutual
def Nd.wt : Nd → Nat
  | .mk _ _ t ns ks => 1 + t.length + wtS ns + wts ks
def wts : List Nd → Nat
  | [] => 0
  | k :: r => k.wt + wts r
end
theorem Nd.wt_eq (t : Nd) : t.wt = 1 + t.text.length + wtS t.names + wts t.kids := by cases t; rfl
theorem wtS_len : ∀ l : List Str, l.length ≤ wtS l
  | [] => by simp [wtS]
  | s :: r => by have := wtS_len r; simp [wtS]; omega
theorem wtS_get : ∀ (l : List Str) (i : Nat) (h : i < l.length), l[i].length + 1 ≤ wtS l
  | s :: r, 0, h => by simp [wtS]
  | s :: r, i + 1, h => by have := wtS_get r i (by simpa using h); simp [wtS]; omega
theorem wts_get : ∀ (l : List Nd) (i : Nat) (h : i < l.length), l[i].wt ≤ wts l
  | s :: r, 0, h => by simp [wts]
  | s :: r, i + 1, h => by have := wts_get r i (by simpa using h); simp [wts]; omega
theorem Nd.wt_pos (t : Nd) : 1 ≤ t.wt := by rw [t.wt_eq]; omega
theorem wts_len : ∀ l : List Nd, l.length ≤ wts l
  | [] => by simp [wts]
  | s :: r => by have := wts_len r; have := s.wt_pos; simp [wts]; omega
structure Sm (t : Nd) : Prop where
  wt : t.wt ≤ 4000000
theorem Sm.kids {t : Nd} (h : Sm t) : t.kids.length ≤ 4000000 := by have := t.wt_eq; have := wts_len t.kids; have := h.wt; omega
theorem Sm.names {t : Nd} (h : Sm t) : t.names.length ≤ 4000000 := by have := t.wt_eq; have := wtS_len t.names; have := h.wt; omega
theorem Sm.name {t : Nd} (h : Sm t) (i : Nat) (hi : i < t.names.length) : t.names[i].length ≤ 4000000 := by have := t.wt_eq; have := wtS_get t.names i hi; have := h.wt; omega
theorem Sm.text {t : Nd} (h : Sm t) : t.text.length ≤ 4000000 := by have := t.wt_eq; have := h.wt; omega
theorem Sm.kid {t : Nd} (h : Sm t) {i : Nat} (hi : i < t.kids.length) : Sm t.kids[i] := ⟨by have := t.wt_eq; have := wts_get t.kids i hi; have := h.wt; omega⟩
def namesOk (n : Nd) : Prop := AllB n.names.length fun i => ∀ h : i < n.names.length, nameOk n.names[i] ∧ (binds n.sort → varOk n.names[i]) ∧ (∀ h0 : 0 < i, n.names[i] ≠ n.names[0])
def loadOk (n : Nd) : Prop :=
  (n.sort = 1 ∨ n.sort = 2 ∨ n.sort = 3 → aloneT (.mk n.sort n.num n.text [] [])) ∧
  (n.sort = 5 ∨ n.sort = 6 → n.num = 0 ∧ ∃ k, KindOK k ∧ txK k = n.text) ∧
  (n.sort = 37 → (0 ≤ n.num ∧ n.num ≤ 99) ∧ n.text = []) ∧
  (n.sort = 39 → (1 ≤ n.num ∧ n.num ≤ 12) ∧ n.text = []) ∧
  (¬ (n.sort = 1 ∨ n.sort = 2 ∨ n.sort = 3 ∨ n.sort = 5 ∨ n.sort = 6 ∨ n.sort = 37 ∨ n.sort = 39) → n.num = 0 ∧ n.text = [])
def aloneN (act : Bool) (n : Nd) : Prop :=
  (1 ≤ n.sort ∧ n.sort ≤ 43) ∧ (act = true ↔ 36 ≤ n.sort) ∧
  (n.sort = 24 → n.num = 0 ∧ n.text = [] ∧ rise n.names ∧ n.names.length = n.kids.length ∧ [101, 110, 100] ∉ n.names) ∧
  (n.sort ≠ 24 → n.kids.length = (kidsOf n.sort).length ∧ (n.names.length : Int) = nNames n.sort ∧ namesOk n ∧ loadOk n)
theorem kidsOf_len (op : Int) : (kidsOf op).length ≤ 3 := by unfold kidsOf; grind
theorem k_l11Alone {L : Lk} (hf : FnR L 312 c312) (hIn : K_in L 65) (hR : K_rise L 238) (hH : ∀ (l : List Str) (w : Str), CP L 363 [.d (.sl (encS l)), .d (.str w)] (.d (.bool (pb (w ∈ l)))))
    (hK : ∀ op : Int, CP L 279 [.d (.int .i64 op)] (.d (.str (kidsOf op)))) (hNm : ∀ op : Int, CP L 275 [.d (.int .i64 op)] (.d (.int .i64 (nNames op)))) (hB : ∀ op : Int, CP L 277 [.d (.int .i64 op)] (.d (.bool (pb (binds op)))))
    (hN : K_name L 68) (hV : K_var L 330) (hT : K_aloneT L 311) (hKR : K_KindRead L 127) :
    ∀ (n : Nd) (act : Bool), Sm n → CP L 312 [aT n, .d (.bool act)] (.d (.bool (pb (aloneN act n)))) := by
  intro n act hs
  have hk := hs.kids
  have hn := hs.names
  have hkl := kidsOf_len n.sort
  have e1 := zY n.kids
  have e2 := zX n.names
  cases act
  · refine CP.enter hf rfl rfl rfl ?_
    repeat' ((conv => whnf); first | refine zA (by rw [zY]; omega) ?_ | refine zA (by rw [zX]; omega) ?_ | refine sel_beqF ?_ | refine zI (fun _ => ?_) (fun _ => ?_) | refine zM (fun _ => ?_) (fun _ => ?_) | refine zG (fun _ => ?_) (fun _ => ?_) | refine zF (fun _ => ?_) (fun _ => ?_) | refine zO (fun _ => ?_) (fun _ => ?_) | refine zH ?_ | (rw [zY]; intro _) | (rw [zX]; intro _) | refine zA (by first | omega | exact rfl | decide) ?_ | refine yB (by omega) ?_ | refine yE (by omega) ?_ | refine zB (hIn _ _ _) ?_ | refine zB (hR _) ?_ | refine zB (hH _ _) ?_ | refine zC (hK _) ?_ | refine zC (hNm _) ?_ | refine zC (hB _) ?_ | refine zC (hN _) ?_ | refine zC (hV _) ?_ | refine zB (CP.pu (hT (.mk n.sort n.num n.text [] []))) ?_ | refine Or.elim (Classical.em (∃ k, KindOK k ∧ txK k = n.text)) (fun hE => zB ((hKR _).1 hE.choose hE.choose_spec.1 hE.choose_spec.2) ?_) (fun hE => zB ((hKR _).2 hE) ?_) | refine ih _ (by omega) (hI.snoc fun _ => Pf.get ?_) (by refine ⟨?_, ?_, ?_⟩ <;> (repeat' (first | exact trivial | exact yM (by omega) | exact rfl | exact Nat.le_of_ble_eq_true rfl | exact Or.inl rfl | apply And.intro))) | (exfalso; omega) | ((fail_if_success (have _h := ih)); refine LW.count n.names.length (fun i => AllB i fun i => ∀ h : i < n.names.length, nameOk n.names[i] ∧ (binds n.sort → varOk n.names[i]) ∧ (∀ h0 : 0 < i, n.names[i] ≠ n.names[0])) (fun i => ⟨[(5, .d (.int .i64 i)), (2, .ptr 0 0)], 1, [.var 0 [.d (.int .i64 n.sort), .d (.int .i64 n.num), .d (.str n.text), .d (.sl (encS n.names)), .d (.sl (n.kids.map cT))]], []⟩) (fun _ => ⟨rfl, rfl, rfl⟩) (fun i hi hI ih => ?_) (.zero) _ (by refine ⟨?_, ?_, ?_⟩ <;> (repeat' (first | exact trivial | exact rfl | exact Nat.le_of_ble_eq_true rfl | exact Or.inl rfl | apply And.intro)))) | fail)
    all_goals (conv => whnf)
    all_goals try first
      | (have h9 := ih
         first
          | exact ⟨by clear ih h9; grind⟩
          | exact fin_n fun h => by have := (h.2.2.2 (by omega)).2.2.1 i (by omega) (by omega); clear ih h9; grind
          | (have hnm : namesOk n := fun j hj h => hI j (by omega) h
             clear ih h9 hI
             exact yL (by simp only [aloneN, loadOk, pb_iff, beqS_iff]; grind)))
      | exact yL (by simp only [aloneN]; grind)
  · refine CP.enter hf rfl rfl rfl ?_
    repeat' ((conv => whnf); first | refine zA (by rw [zY]; omega) ?_ | refine zA (by rw [zX]; omega) ?_ | refine sel_beqT ?_ | refine zI (fun _ => ?_) (fun _ => ?_) | refine zM (fun _ => ?_) (fun _ => ?_) | refine zG (fun _ => ?_) (fun _ => ?_) | refine zF (fun _ => ?_) (fun _ => ?_) | refine zO (fun _ => ?_) (fun _ => ?_) | refine zH ?_ | (rw [zY]; intro _) | (rw [zX]; intro _) | refine zA (by first | omega | exact rfl | decide) ?_ | refine yB (by omega) ?_ | refine yE (by omega) ?_ | refine zB (hIn _ _ _) ?_ | refine zB (hR _) ?_ | refine zB (hH _ _) ?_ | refine zC (hK _) ?_ | refine zC (hNm _) ?_ | refine zC (hB _) ?_ | refine zC (hN _) ?_ | refine zC (hV _) ?_ | refine zB (CP.pu (hT (.mk n.sort n.num n.text [] []))) ?_ | refine Or.elim (Classical.em (∃ k, KindOK k ∧ txK k = n.text)) (fun hE => zB ((hKR _).1 hE.choose hE.choose_spec.1 hE.choose_spec.2) ?_) (fun hE => zB ((hKR _).2 hE) ?_) | refine ih _ (by omega) (hI.snoc fun _ => Pf.get ?_) (by refine ⟨?_, ?_, ?_⟩ <;> (repeat' (first | exact trivial | exact yM (by omega) | exact rfl | exact Nat.le_of_ble_eq_true rfl | exact Or.inl rfl | apply And.intro))) | (exfalso; omega) | ((fail_if_success (have _h := ih)); refine LW.count n.names.length (fun i => AllB i fun i => ∀ h : i < n.names.length, nameOk n.names[i] ∧ (binds n.sort → varOk n.names[i]) ∧ (∀ h0 : 0 < i, n.names[i] ≠ n.names[0])) (fun i => ⟨[(5, .d (.int .i64 i)), (2, .ptr 0 0)], 1, [.var 0 [.d (.int .i64 n.sort), .d (.int .i64 n.num), .d (.str n.text), .d (.sl (encS n.names)), .d (.sl (n.kids.map cT))]], []⟩) (fun _ => ⟨rfl, rfl, rfl⟩) (fun i hi hI ih => ?_) (.zero) _ (by refine ⟨?_, ?_, ?_⟩ <;> (repeat' (first | exact trivial | exact rfl | exact Nat.le_of_ble_eq_true rfl | exact Or.inl rfl | apply And.intro)))) | fail)
    all_goals (conv => whnf)
    all_goals try first
      | (have h9 := ih
         first
          | exact ⟨by clear ih h9; grind⟩
          | exact fin_n fun h => by have := (h.2.2.2 (by omega)).2.2.1 i (by omega) (by omega); clear ih h9; grind
          | (have hnm : namesOk n := fun j hj h => hI j (by omega) h
             clear ih h9 hI
             exact yL (by simp only [aloneN, loadOk, beqS_iff]; grind)))
      | exact yL (by simp only [aloneN]; grind)
end Go.Ab
namespace Go.Ab
open Go
set_option maxHeartbeats 4000000
attribute [local irreducible] Need IdxK FinK NextK CKs CQs ltS
theorem callDV {L : Lk} {f : Nat} {args : List AV} {mx : Nat} {p : Prop} {n : Nat} {K : AV → Prop}
    (h : CP L f args (.d (.int .i64 (partsV mx p n)))) (h1 : p ∧ n ≤ mx → K (.d (.int .i64 n))) (h2 : ¬ (p ∧ n ≤ mx) → K (.d (.int .i64 (-1)))) : CQs L f args K := by
  by_cases hp : p ∧ n ≤ mx
  · rw [partsV_y hp] at h; exact zC h (h1 hp)
  · rw [partsV_n hp] at h; exact zC h (h2 hp)
def kaN (n : Nd) (i : Nat) : Bool := if n.sort = 24 then false else match (kidsOf n.sort)[i]? with | some c => ieq c.toNat 97 | none => false
theorem kaN_f {n : Nd} {i : Nat} (h : n.sort = 24) : false = kaN n i := by rw [kaN, if_pos h]
theorem kaN_n {n : Nd} {i : Nat} (h : n.sort ≠ 24) (hi : i < (kidsOf n.sort).length) : ieq ((kidsOf n.sort)[i].toNat : Int) 97 = kaN n i := by
  rw [kaN, if_neg h, List.getElem?_eq_getElem hi]
def okN (a : Bool) (d : Int) (n : Nd) : Prop := OkG aloneN kaN 24 a d n
theorem okN_kid {a : Bool} {d : Int} {t : Nd} {m i : Nat} (h : okN a d t ∧ t.size ≤ m) (hi : i < t.kids.length) : okN (kaN t i) (d + 1) t.kids[i] ∧ 1 + sizes (t.kids.take i) + t.kids[i].size ≤ m := ⟨(OkG.kid h hi).1, (OkG.kid h hi).2.1⟩
theorem okN_top {a : Bool} {d : Int} {t : Nd} (h : okN a d t) : d ≤ 24 ∧ aloneN a t := ⟨(OkG.iff.1 h).1, (OkG.iff.1 h).2.1⟩
theorem okN_any {a : Bool} {d : Int} {t : Nd} (h : okN a d t) {i : Nat} (hi : i < t.kids.length) : okN (kaN t i) (d + 1) t.kids[i] := (okN_kid ⟨h, Nat.le_refl _⟩ hi).1
theorem okN_done {a : Bool} {d : Int} {t : Nd} {i : Nat} (hd : d ≤ 24) (ha : aloneN a t) (hi : t.kids.length ≤ i) (hk : AllB i fun j => ∀ h : j < t.kids.length, okN (kaN t j) (d + 1) t.kids[j]) : okN a d t ∧ t.size = 1 + sizes (t.kids.take i) := OkG.done hd ha hi hk
def K_nodes (L : Lk) : Prop := ∀ (n : Nd) (a : Bool) (d : Int), Sm n → 0 ≤ d ∧ d ≤ 25 → CP L 239 [aT n, .d (.bool a), .d (.int .i64 d)] (.d (.int .i64 (partsV 200 (okN a d n) n.size)))
theorem k_l11Nodes {L : Lk} (hf : FnR L 239 c239) (hA : ∀ (n : Nd) (act : Bool), Sm n → CP L 312 [aT n, .d (.bool act)] (.d (.bool (pb (aloneN act n)))))
    (hK : ∀ op : Int, CP L 279 [.d (.int .i64 op)] (.d (.str (kidsOf op)))) : K_nodes L := by
  refine Nd.ind fun t ihT => ?_
  intro a d hs hd
  have hx : ∀ i (h : i < t.kids.length) (x : Bool), x = kaN t i → 0 ≤ d + 1 ∧ d + 1 ≤ 25 → CP L 239 [aT t.kids[i], .d (.bool x), .d (.int .i64 (d + 1))] (.d (.int .i64 (partsV 200 (okN (kaN t i) (d + 1) t.kids[i]) t.kids[i].size))) :=
    fun i h x e hd => by rw [e]; exact ihT _ (List.getElem_mem h) _ _ (hs.kid h) hd
  have hkl : aloneN a t → t.sort ≠ 24 → t.kids.length = (kidsOf t.sort).length := fun h h2 => (h.2.2.2 h2).1
  refine CP.enter hf rfl rfl rfl ?_
  repeat' ((conv => whnf); first | (rw [wrap64 (by omega)]) | refine yI (by have := hkl (by assumption) (by assumption); omega) ?_ | refine zI (fun _ => ?_) (fun _ => ?_) | refine zG (fun _ => ?_) (fun _ => ?_) | refine zO (fun _ => ?_) (fun _ => ?_) | refine zH ?_ | (rw [zY]; intro _) | refine zA (by first | omega | exact rfl | decide) ?_ | refine yF (by omega) ?_ | refine zB (hA _ _ hs) ?_ | refine zB (hK _) ?_ | refine callDV (hx i (by omega) _ (kaN_f (by assumption)) (by omega)) (fun hk => ?_) (fun hk => ?_) | refine callDV (hx i (by omega) _ (kaN_n (by assumption) (by have := hkl (by assumption) (by assumption); omega)) (by omega)) (fun hk => ?_) (fun hk => ?_) | refine ih _ (by omega) (Pf.get ?_) (by refine ⟨?_, ?_, ?_⟩ <;> (repeat' (first | exact trivial | (refine zW ?_; (try rw [wrap64 (by omega)]); rw [sizes_take (by omega)]; omega) | exact rfl | exact Nat.le_of_ble_eq_true rfl | exact Or.inl rfl | apply And.intro))) | ((fail_if_success (have _h := ih)); refine LW.count t.kids.length (fun i => (AllB i fun j => ∀ h : j < t.kids.length, okN (kaN t j) (d + 1) t.kids[j]) ∧ 1 + sizes (t.kids.take i) ≤ 200) (fun i => ⟨[(9, .d (.int .i64 i)), (2, .d (.int .i64 d)), (7, .d (.str (kidsOf t.sort))), (8, .d (.int .i64 ((1 + sizes (t.kids.take i) : Nat) : Int))), (3, .ptr 0 0)], 1, [.var 0 [.d (.int .i64 t.sort), .d (.int .i64 t.num), .d (.str t.text), .d (.sl (encS t.names)), .d (.sl (t.kids.map cT))]], []⟩) (fun _ => ⟨rfl, rfl, rfl⟩) (fun i hi hI ih => ?_) (Pf.get ?_) _ (by refine ⟨?_, ?_, ?_⟩ <;> (repeat' (first | exact trivial | exact rfl | exact Nat.le_of_ble_eq_true rfl | exact Or.inl rfl | apply And.intro)))) | fail)
  all_goals (conv => whnf)
  all_goals try first
    | exact yJ (congrArg _ (partsV_n (fun h => by have h1 := okN_kid (i := i) h (by omega); first | exact hk ⟨h1.1, by omega⟩ | (have := hk.2; omega))).symm)
    | exact yJ (congrArg _ (partsV_n (fun h => by have h1 := okN_top h.1; first | omega | exact absurd h1.2 (by assumption))).symm)
    | exact ⟨⟨.zero, by simp [sizes]⟩⟩
    | exact ⟨⟨hI.1.snoc fun _ => hk.1, by rw [sizes_take (by omega)]; omega⟩⟩
    | (have h1 := okN_done (a := a) (i := i) (d := d) (t := t) (by omega) (by assumption) (by omega) hI.1
       exact yJ (congrArg _ (by rw [partsV_y ⟨h1.1, by omega⟩]; omega)))
def spl (b : Str) (l : List Str) : Nat → Str
  | 0 => b
  | i + 1 => spl b l i ++ [32] ++ l.getD i []
theorem spl_s {b : Str} {l : List Str} {i : Nat} (h : i < l.length) : spl b l (i + 1) = spl b l i ++ [32] ++ l[i] := by simp [spl, h]
theorem spl_m {b : Str} {l : List Nd} {f : Nd → Str} {i : Nat} (h : i < l.length) : spl b (l.map f) (i + 1) = spl b (l.map f) i ++ [32] ++ f l[i] := by simp [spl, h]
def formJ (ns ts : List Str) : Nat → Str
  | 0 => [102, 111, 114, 109]
  | i + 1 => formJ ns ts i ++ [32] ++ ns.getD i [] ++ [32] ++ ts.getD i []
theorem formJ_s {ns : List Str} {l : List Nd} {f : Nd → Str} {i : Nat} (h : i < l.length) (hn : i < ns.length) : formJ ns (l.map f) (i + 1) = formJ ns (l.map f) i ++ [32] ++ ns[i] ++ [32] ++ f l[i] := by simp [formJ, h, hn]
def midN (s n : Int) (t b : Str) : Str :=
  let c := if t ≠ [] then b ++ [32] ++ t else b
  if s = 37 ∨ s = 39 then c ++ [32] ++ dec n else c
mutual
def txN : Nd → Str
  | .mk s n t ns ks => if s = 1 ∨ s = 2 ∨ s = 3 then txT (.mk s n t [] []) else if s = 4 then ns.headD [] else if s = 24 then formJ ns (txNs ks) ks.length ++ [32, 101, 110, 100] else
    spl (midN s n t (spl (opWord s) ns ns.length)) (txNs ks) ks.length
def txNs : List Nd → List Str
  | [] => []
  | k :: r => txN k :: txNs r
end
theorem txNs_eq : ∀ l, txNs l = l.map txN
  | [] => rfl
  | k :: r => by rw [txNs, txNs_eq r]; rfl
theorem txN_eq (t : Nd) : txN t = if t.sort = 1 ∨ t.sort = 2 ∨ t.sort = 3 then txT (.mk t.sort t.num t.text [] []) else if t.sort = 4 then t.names.headD [] else if t.sort = 24 then formJ t.names (t.kids.map txN) t.kids.length ++ [32, 101, 110, 100] else
    spl (midN t.sort t.num t.text (spl (opWord t.sort) t.names t.names.length)) (t.kids.map txN) t.kids.length := by
  cases t; rw [txN, txNs_eq]; rfl
theorem spl_len {b : Str} : ∀ (l : List Str) (i : Nat), i ≤ l.length → (spl b l i).length + wtS (l.drop i) ≤ b.length + wtS l
  | l, 0, _ => by simp [spl]
  | l, i + 1, h => by
    have h1 := spl_len (b := b) l i (by omega)
    rw [spl_s (by omega)]
    have h2 : l.drop i = l[i] :: l.drop (i + 1) := by rw [List.drop_eq_getElem_cons (by omega)]
    rw [h2, wtS] at h1
    simp only [List.length_append, List.length_cons, List.length_nil]
    omega
theorem opWord_len (s : Int) : (opWord s).length ≤ 6 := by
  unfold opWord
  split
  · have key : ∀ n : Nat, (opWords.getD n []).length ≤ 6 := fun n => by
      by_cases h : n < 39
      · have : ∀ m : Fin 39, (opWords.getD m.1 []).length ≤ 6 := by decide
        exact this ⟨n, h⟩
      · rw [List.getD_eq_getElem?_getD, List.getElem?_eq_none (by show 39 ≤ n; omega)]; simp
    exact key _
  · simp
end Go.Ab
namespace Go.Ab
open Go
set_option maxHeartbeats 4000000
attribute [local irreducible] Need IdxK FinK NextK CKs CQs ltS
theorem wts_take {l : List Nd} {i : Nat} (h : i < l.length) : wts (l.take (i + 1)) = wts (l.take i) + l[i].wt := by
  have key : ∀ (l : List Nd) (k : Nd), wts (l ++ [k]) = wts l + k.wt := by
    intro l
    induction l with
    | nil => intro k; simp [wts]
    | cons x r ih => intro k; simp [wts, ih k]; omega
  rw [List.take_add_one, List.getElem?_eq_getElem h]; exact key _ _
theorem wts_le : ∀ (l : List Nd) (i : Nat), wts (l.take i) ≤ wts l
  | [], i => by simp [wts]
  | x :: r, 0 => by simp [wts]
  | x :: r, i + 1 => by simp [wts]; exact wts_le r i
theorem spl_lenK {b : Str} {ks : List Nd} {f : Nd → Str} (hk : ∀ i (h : i < ks.length), (f ks[i]).length + 10 ≤ 60 * ks[i].wt) : ∀ i, i ≤ ks.length → (spl b (ks.map f) i).length ≤ b.length + 60 * wts (ks.take i) := by
  intro i
  induction i with
  | zero => intro _; simp [spl, wts]
  | succ i ih =>
    intro h
    have h1 := ih (by omega)
    have h2 := hk i (by omega)
    rw [wts_take (by omega), spl_m (by omega)]
    simp only [List.length_append, List.length_cons, List.length_nil]; omega
theorem formJ_len {ns : List Str} {ks : List Nd} {f : Nd → Str} (hl : ns.length = ks.length) (hk : ∀ i (h : i < ks.length), (f ks[i]).length + 10 ≤ 60 * ks[i].wt) : ∀ i, i ≤ ks.length → (formJ ns (ks.map f) i).length + wtS (ns.drop i) ≤ 4 + wtS ns + 60 * wts (ks.take i) := by
  intro i
  induction i with
  | zero => intro _; simp [formJ, wts]
  | succ i ih =>
    intro h
    have h1 := ih (by omega)
    have h2 := hk i (by omega)
    rw [wts_take (by omega), formJ_s (by omega) (by omega)]
    have h3 : ns.drop i = ns[i] :: ns.drop (i + 1) := by rw [List.drop_eq_getElem_cons (by omega)]
    rw [h3, wtS] at h1
    simp only [List.length_append, List.length_cons, List.length_nil]; omega
structure ShN (t : Nd) : Prop where
  lit : t.sort = 1 ∨ t.sort = 2 ∨ t.sort = 3 → okT 1 (.mk t.sort t.num t.text [] [])
  one : t.sort = 4 → t.names.length = 1
  form : t.sort = 24 → t.names.length = t.kids.length
  num : t.sort = 37 ∨ t.sort = 39 → inR .i64 t.num
theorem shN {a : Bool} {d : Int} {t : Nd} (h : okN a d t) : ShN t := by
  obtain ⟨h1, h2, h3, h4⟩ := (okN_top h).2
  refine ⟨fun h => ?_, fun h => ?_, fun h => (h3 h).2.2.2.1, fun h => ?_⟩
  · have := (h4 (by omega)).2.2.2.1 h
    exact OkG.iff.2 ⟨by omega, this, fun i hi => by simp [Nd.kids] at hi⟩
  · have := (h4 (by omega)).2.1
    rw [h] at this
    have e : nNames 4 = 1 := by decide
    rw [e] at this; omega
  · have := (h4 (by omega)).2.2.2
    unfold loadOk at this
    unfold inR; simp only
    rcases h with h | h
    · have := (this.2.2.1 h).1; omega
    · have := (this.2.2.2.1 h).1; omega
theorem midN_len {s n : Int} {t b : Str} (h : s = 37 ∨ s = 39 → inR .i64 n) : (midN s n t b).length ≤ b.length + t.length + 22 := by
  unfold midN
  by_cases hs : s = 37 ∨ s = 39
  · have := dec_len (h hs)
    by_cases ht : t = [] <;> simp [hs, ht] <;> omega
  · by_cases ht : t = [] <;> simp [hs, ht] <;> omega
theorem headD_get {l : List Str} (h : 0 < l.length) : l.headD [] = l[0] := by
  cases l with
  | nil => simp at h
  | cons x r => rfl
theorem lit_len {s n : Int} {t : Str} (h : okT 1 (.mk s n t [] [])) (hs : s = 1 ∨ s = 2 ∨ s = 3) : (txT (.mk s n t [] [])).length ≤ t.length + 22 := by
  have h1 := shT h
  have h2 : txT (.mk s n t [] []) = if s = 1 then dec n else if s = 2 then [34] ++ t ++ [34] else if s = 3 then (if n = 1 then [121, 101, 115] else [110, 111]) else _ := txT_eq (.mk s n t [] [])
  rw [h2]
  rcases hs with hs | hs | hs
  · have := dec_len (h1.num hs); rw [if_pos hs]; have e : (Nd.mk s n t [] []).num = n := rfl; rw [e] at this; omega
  · rw [if_neg (by omega), if_pos hs]; simp
  · rw [if_neg (by omega), if_neg (by omega), if_pos hs]; split <;> simp
theorem txN_len : ∀ (t : Nd) (a : Bool) (d : Int), okN a d t → (txN t).length + 10 ≤ 60 * t.wt := by
  refine Nd.ind fun t ih => fun a d h => ?_
  have hk : ∀ i (h : i < t.kids.length), (txN t.kids[i]).length + 10 ≤ 60 * t.kids[i].wt := fun i hi => ih _ (List.getElem_mem hi) _ _ (okN_any h hi)
  have ha := shN h
  have hw := t.wt_eq
  rw [txN_eq]
  repeat' split
  · rename_i hs
    have h1 := lit_len (ha.lit hs) hs
    omega
  · rename_i hs
    have := ha.one hs
    have h2 := wtS_get t.names 0 (by omega)
    rw [headD_get (by omega)]; omega
  · rename_i hs
    have := formJ_len (ha.form hs) hk t.kids.length (Nat.le_refl _)
    rw [List.take_of_length_le (Nat.le_refl _)] at this
    simp; omega
  · have h1 := spl_lenK (b := midN t.sort t.num t.text (spl (opWord t.sort) t.names t.names.length)) hk t.kids.length (Nat.le_refl _)
    have h2 := midN_len (s := t.sort) (n := t.num) (t := t.text) (b := spl (opWord t.sort) t.names t.names.length) ha.num
    have h3 := spl_len (b := opWord t.sort) t.names t.names.length (Nat.le_refl _)
    have h4 := opWord_len t.sort
    rw [List.take_of_length_le (Nat.le_refl _)] at h1
    omega
def K_textN (L : Lk) (f : Nat) : Prop := ∀ (t : Nd) (a : Bool) (d : Int), okN a d t → Sm t → CP L f [aT t] (.d (.str (txN t)))
theorem k_l11Text {L : Lk} (hf : FnR L 80 c80) (hD : K_l6Dec L) (hT : K_textT L 154) (hW : ∀ op : Int, CP L 155 [.d (.int .i64 op)] (.d (.str (opWord op)))) : K_textN L 80 := by
  refine Nd.ind fun t ihT => ?_
  intro a d hd hs
  have hk : ∀ i (h : i < t.kids.length), (txN t.kids[i]).length + 10 ≤ 60 * t.kids[i].wt := fun i hi => txN_len _ _ _ (okN_any hd hi)
  have ha := shN hd
  have hw := t.wt_eq
  have hwt := hs.wt
  have hx : ∀ i (h : i < t.kids.length), CP L 80 [aT t.kids[i]] (.d (.str (txN t.kids[i]))) := fun i hi => ihT _ (List.getElem_mem hi) _ _ (okN_any hd hi) (hs.kid hi)
  have hxl : ∀ i (h : i < t.kids.length), (txN t.kids[i]).length ≤ 240000000 := fun i hi => by have := hk i hi; have := wts_get t.kids i hi; omega
  have hnl : ∀ i (h : i < t.names.length), t.names[i].length ≤ 4000000 := fun i hi => hs.name i hi
  have htl := hs.text
  have hsl : ∀ i, i ≤ t.names.length → (spl (opWord t.sort) t.names i).length ≤ 4000006 := fun i hi => by
    have h3 := spl_len (b := opWord t.sort) t.names i hi
    have h4 := opWord_len t.sort
    omega
  have hml := midN_len (s := t.sort) (n := t.num) (t := t.text) (b := spl (opWord t.sort) t.names t.names.length) ha.num
  have hml2 := hsl t.names.length (Nat.le_refl _)
  have hkl : ∀ i, i ≤ t.kids.length → (spl (midN t.sort t.num t.text (spl (opWord t.sort) t.names t.names.length)) (t.kids.map txN) i).length ≤ 300000000 := fun i hi => by
    have h1 := spl_lenK (b := midN t.sort t.num t.text (spl (opWord t.sort) t.names t.names.length)) hk i hi
    have := wts_le t.kids i
    omega
  have hfl : t.sort = 24 → ∀ i, i ≤ t.kids.length → (formJ t.names (t.kids.map txN) i).length ≤ 300000000 := fun h i hi => by
    have := formJ_len (ha.form h) hk i hi
    have := wts_le t.kids i
    omega
  have e := txN_eq t
  by_cases h24 : t.sort = 24
  · have hform := ha.form h24
    have hfl := hfl h24
    refine CP.enter hf rfl rfl rfl ?_
    repeat' ((conv => whnf); first | (exfalso; omega) | refine zA (by have := hfl i (by omega); have := hnl i (by omega); have := hxl i (by omega); (try simp only [List.length_append, List.length_cons, List.length_nil]); omega) ?_ | refine zA (by have := hfl i (by omega); (try simp only [List.length_cons, List.length_nil]); omega) ?_ | refine zI (fun _ => ?_) (fun _ => ?_) | refine zG (fun _ => ?_) (fun _ => ?_) | (rw [zY]; intro _) | refine zA (by first | omega | exact rfl | decide) ?_ | refine yF (by omega) ?_ | refine yE (by omega) ?_ | refine zC (hx i (by omega)) ?_ | refine ih _ (by omega) (trivial) (by refine ⟨?_, ?_, ?_⟩ <;> (repeat' (first | exact trivial | exact yM (by omega) | exact yN (formJ_s (by omega) (by omega)).symm | exact rfl | exact Nat.le_of_ble_eq_true rfl | exact Or.inl rfl | apply And.intro))) | ((fail_if_success (have _h := ih)); refine LW.count t.kids.length (fun i => True) (fun i => ⟨[(4, .d (.int .i64 i)), (3, .d (.str (formJ t.names (t.kids.map txN) i))), (1, .ptr 0 0)], 1, [.var 0 [.d (.int .i64 t.sort), .d (.int .i64 t.num), .d (.str t.text), .d (.sl (encS t.names)), .d (.sl (t.kids.map cT))]], []⟩) (fun _ => ⟨rfl, rfl, rfl⟩) (fun i hi hI ih => ?_) (trivial) _ (by refine ⟨?_, ?_, ?_⟩ <;> (repeat' (first | exact trivial | exact rfl | exact Nat.le_of_ble_eq_true rfl | exact Or.inl rfl | apply And.intro)))) | fail)
    all_goals (conv => whnf)
    all_goals try first
      | (have hi' : i = t.kids.length := by omega
         exact yJ (yN (by rw [e, hi', if_neg (by omega), if_neg (by omega), if_pos h24])))
  · refine CP.enter hf rfl rfl rfl ?_
    repeat' ((conv => whnf); first | (exact absurd (by assumption) h24) | refine yB (by have := ha.one (by assumption); omega) ?_ | refine zA (by have := hkl j (by omega); have := hxl j (by omega); (try simp only [List.length_append, List.length_cons, List.length_nil]); omega) ?_ | refine zA (by have := hsl i (by omega); have := hnl i (by omega); (try simp only [List.length_append, List.length_cons, List.length_nil]); omega) ?_ | refine zA (by have := hsl i (by omega); have := dec_len (ha.num (by omega)); (try simp only [List.length_append, List.length_cons, List.length_nil]); omega) ?_ | refine zA (by have := hsl i (by omega); (try simp only [List.length_append, List.length_cons, List.length_nil]); omega) ?_ | refine jh _ (by omega) trivial (by refine ⟨?_, ?_, ?_⟩ <;> (repeat' (first | exact trivial | exact yM (by omega) | exact yN (spl_m (by omega)).symm | exact rfl | exact Nat.le_of_ble_eq_true rfl | exact Or.inl rfl | apply And.intro))) | refine zI (fun _ => ?_) (fun _ => ?_) | refine zG (fun _ => ?_) (fun _ => ?_) | refine zF (fun _ => ?_) (fun _ => ?_) | refine zH ?_ | (rw [zY]; intro _) | (rw [zX]; intro _) | refine zA (by first | omega | exact rfl | decide) ?_ | refine yF (by omega) ?_ | refine yE (by omega) ?_ | refine zB (hx j (by omega)) ?_ | refine zB (hW _) ?_ | refine zB (hD _ (ha.num (by omega))) ?_ | refine zB (CP.pu (hT (.mk t.sort t.num t.text [] []) 1 ⟨ha.lit (by omega), (by show 0 + 1 ≤ 120; omega)⟩)) ?_ | refine ih _ (by omega) (trivial) (by refine ⟨?_, ?_, ?_⟩ <;> (repeat' (first | exact trivial | exact yM (by omega) | exact yN (spl_s (by omega)).symm | exact rfl | exact Nat.le_of_ble_eq_true rfl | exact Or.inl rfl | apply And.intro))) | ((fail_if_success (have _h := ih)); refine LW.count t.names.length (fun i => True) (fun i => ⟨[(6, .d (.int .i64 i)), (5, .d (.str (spl (opWord t.sort) t.names i))), (1, .ptr 0 0)], 1, [.var 0 [.d (.int .i64 t.sort), .d (.int .i64 t.num), .d (.str t.text), .d (.sl (encS t.names)), .d (.sl (t.kids.map cT))]], []⟩) (fun _ => ⟨rfl, rfl, rfl⟩) (fun i hi hI ih => ?_) (trivial) _ (by refine ⟨?_, ?_, ?_⟩ <;> (repeat' (first | exact trivial | exact rfl | exact Nat.le_of_ble_eq_true rfl | exact Or.inl rfl | apply And.intro)))) | ((fail_if_success (have _h := jh)); (have hi' : i = t.names.length := by omega); refine LW.count t.kids.length (fun _ => True) (fun j => ⟨[(7, .d (.int .i64 j)), (5, .d (.str (spl (midN t.sort t.num t.text (spl (opWord t.sort) t.names t.names.length)) (t.kids.map txN) j))), (1, .ptr 0 0)], 1, [.var 0 [.d (.int .i64 t.sort), .d (.int .i64 t.num), .d (.str t.text), .d (.sl (encS t.names)), .d (.sl (t.kids.map cT))]], []⟩) (fun _ => ⟨rfl, rfl, rfl⟩) (fun j hj hJ jh => ?_) trivial _ (by refine ⟨?_, ?_, ?_⟩ <;> (repeat' (first | exact trivial | exact yN (by rw [hi']; simp [midN, spl, *]) | exact rfl | exact Nat.le_of_ble_eq_true rfl | exact Or.inl rfl | apply And.intro)))) | fail)
    all_goals (conv => whnf)
    all_goals try first
      | (have hj' : j = t.kids.length := by omega
         exact yJ (yN (by rw [e, hj', if_neg (by omega), if_neg (by omega), if_neg (by omega)])))
      | exact yJ (yN (by rw [e, if_pos (by omega)]))
      | exact yJ (yN (by
          have h1 := ha.one (by assumption)
          rw [e, if_neg (by omega), if_pos (by assumption), headD_get (by omega)]))
end Go.Ab
namespace Go.Ab
open Go
def jn (l : List Str) : Str := ([32] : Str).intercalate l
def fj (b : Str) (l : List Str) : Str := l.foldl (fun b x => b ++ [32] ++ x) b
theorem fj_app (b : Str) (l m : List Str) : fj b (l ++ m) = fj (fj b l) m := by simp [fj]
theorem jn_cons (x : Str) (r : List Str) : jn (x :: r) = fj x r := by
  unfold jn fj
  induction r generalizing x with
  | nil => simp [List.intercalate]
  | cons y s ih =>
    rw [List.foldl_cons, ← ih]
    cases s with
    | nil => simp [List.intercalate]
    | cons z t => simp [List.intercalate, List.intersperse]
theorem fj_pre (b : Str) (x : Str) (r : List Str) : fj (b ++ [32] ++ x) r = b ++ [32] ++ fj x r := by
  unfold fj
  induction r generalizing x with
  | nil => rfl
  | cons y s ih => rw [List.foldl_cons, List.foldl_cons, ← ih]; simp
theorem fj_jn (b : Str) : ∀ {l : List Str}, l ≠ [] → fj b l = b ++ [32] ++ jn l
  | x :: r, _ => by rw [jn_cons, ← fj_pre]; rfl
theorem spl_fj (b : Str) (l : List Str) : ∀ n, n ≤ l.length → spl b l n = fj b (l.take n) := by
  intro n
  induction n with
  | zero => intro _; simp [spl, fj]
  | succ n ih => intro h; rw [spl_s (by omega), ih (by omega), List.take_add_one, List.getElem?_eq_getElem (by omega), Option.toList_some, fj_app]; rfl
def midW (s n : Int) (t : Str) : List Str := (if t ≠ [] then [t] else []) ++ (if s = 37 ∨ s = 39 then [dec n] else [])
theorem midW_fj (s n : Int) (t b : Str) : fj b (midW s n t) = midN s n t b := by
  unfold midW midN
  by_cases ht : t = [] <;> by_cases hs : s = 37 ∨ s = 39 <;> simp [ht, hs, fj]
def formW (ns : List Str) (ws : List (List Str)) : Nat → List Str
  | 0 => [[102, 111, 114, 109]]
  | i + 1 => formW ns ws i ++ [ns.getD i []] ++ ws.getD i []
mutual
def wdN : Nd → List Str
  | .mk s n t ns ks => if s = 1 ∨ s = 2 ∨ s = 3 then [txT (.mk s n t [] [])] else if s = 4 then [ns.headD []] else if s = 24 then formW ns (wdNs ks) ks.length ++ [[101, 110, 100]] else
    opWord s :: (ns ++ midW s n t ++ (wdNs ks).flatten)
def wdNs : List Nd → List (List Str)
  | [] => []
  | k :: r => wdN k :: wdNs r
end
theorem wdNs_eq : ∀ l, wdNs l = l.map wdN
  | [] => rfl
  | k :: r => by rw [wdNs, wdNs_eq r]; rfl
theorem wdN_eq (t : Nd) : wdN t = if t.sort = 1 ∨ t.sort = 2 ∨ t.sort = 3 then [txT (.mk t.sort t.num t.text [] [])] else if t.sort = 4 then [t.names.headD []] else if t.sort = 24 then formW t.names (t.kids.map wdN) t.kids.length ++ [[101, 110, 100]] else
    opWord t.sort :: (t.names ++ midW t.sort t.num t.text ++ (t.kids.map wdN).flatten) := by
  cases t; rw [wdN, wdNs_eq]; rfl
theorem formW_ne (ns : List Str) (ws : List (List Str)) : ∀ i, formW ns ws i ≠ []
  | 0 => by simp [formW]
  | i + 1 => by simp [formW]
theorem formW_s {ns : List Str} {l : List Nd} {i : Nat} (h : i < l.length) (hn : i < ns.length) : formW ns (l.map wdN) (i + 1) = formW ns (l.map wdN) i ++ [ns[i]] ++ wdN l[i] := by simp [formW, h, hn]
theorem wdN_ne (t : Nd) : wdN t ≠ [] := by
  rw [wdN_eq]; repeat' split
  all_goals simp [formW_ne]
theorem jn_snoc {l : List Str} (h : l ≠ []) (m : List Str) : jn (l ++ m) = fj (jn l) m := by
  cases l with
  | nil => exact absurd rfl h
  | cons x r => rw [List.cons_append, jn_cons, jn_cons, fj_app]
theorem spl_kids {b : Str} {ks : List Nd} {f : Nd → Str} (hf : ∀ i (h : i < ks.length), f ks[i] = jn (wdN ks[i])) : ∀ n, n ≤ ks.length → spl b (ks.map f) n = fj b ((ks.take n).map wdN).flatten := by
  intro n
  induction n with
  | zero => intro _; simp [spl, fj]
  | succ n ih =>
    intro h
    rw [spl_m (by omega), ih (by omega), hf n (by omega), List.take_add_one, List.getElem?_eq_getElem (by omega)]
    simp only [Option.toList_some, List.map_append, List.map_cons, List.map_nil, List.flatten_append, List.flatten_cons, List.flatten_nil, List.append_nil]
    rw [fj_app, fj_jn _ (wdN_ne _)]
theorem formJ_jn {ns : List Str} {ks : List Nd} (hl : ns.length = ks.length) (hf : ∀ i (h : i < ks.length), txN ks[i] = jn (wdN ks[i])) : ∀ n, n ≤ ks.length → formJ ns (ks.map txN) n = jn (formW ns (ks.map wdN) n) := by
  intro n
  induction n with
  | zero => intro _; simp [formJ, formW, jn, List.intercalate]
  | succ n ih =>
    intro h
    rw [formJ_s (by omega) (by omega), ih (by omega), hf n (by omega), formW_s (by omega) (by omega), List.append_assoc _ [ns[n]], jn_snoc (formW_ne _ _ _), fj_app, fj_jn _ (wdN_ne _)]
    simp [fj]
theorem jn_wdN : ∀ (t : Nd) (a : Bool) (d : Int), okN a d t → txN t = jn (wdN t) := by
  refine Nd.ind fun t ih => fun a d h => ?_
  have hk : ∀ i (h : i < t.kids.length), txN t.kids[i] = jn (wdN t.kids[i]) := fun i hi => ih _ (List.getElem_mem hi) _ _ (okN_any h hi)
  have ha := shN h
  rw [txN_eq, wdN_eq]
  split
  · simp [jn, List.intercalate]
  split
  · simp [jn, List.intercalate]
  split
  · rename_i hs
    rw [formJ_jn (ha.form hs) hk _ (Nat.le_refl _), jn_snoc (formW_ne _ _ _)]; simp [fj]
  · rw [jn_cons, fj_app, fj_app, midW_fj, spl_kids hk _ (Nat.le_refl _), spl_fj _ _ _ (Nat.le_refl _)]; simp
theorem formW_len {ns : List Str} {ks : List Nd} (hl : ns.length = ks.length) (hk : ∀ i (h : i < ks.length), (wdN ks[i]).length ≤ 2 * ks[i].wt) : ∀ i, i ≤ ks.length → (formW ns (ks.map wdN) i).length + wtS (ns.drop i) ≤ 1 + wtS ns + 2 * wts (ks.take i) := by
  intro i
  induction i with
  | zero => intro _; simp [formW, wts]
  | succ i ih =>
    intro h
    have h1 := ih (by omega)
    have h2 := hk i (by omega)
    rw [wts_take (by omega), formW_s (by omega) (by omega)]
    have h3 : ns.drop i = ns[i] :: ns.drop (i + 1) := by rw [List.drop_eq_getElem_cons (by omega)]
    rw [h3, wtS] at h1
    simp only [List.length_append, List.length_cons, List.length_nil]; omega
theorem flat_len {ks : List Nd} (hk : ∀ i (h : i < ks.length), (wdN ks[i]).length ≤ 2 * ks[i].wt) : (ks.map wdN).flatten.length ≤ 2 * wts ks := by
  induction ks with
  | nil => simp [wts]
  | cons k r ih =>
    have h0 := hk 0 (by simp)
    have := ih fun i h => by have := hk (i + 1) (by simp; omega); simpa using this
    simp only [List.getElem_cons_zero] at h0
    simp only [List.map_cons, List.flatten_cons, List.length_append, wts]; omega
theorem midW_len (s n : Int) (t : Str) : (midW s n t).length ≤ 1 + t.length := by
  unfold midW
  cases t <;> by_cases hs : s = 37 ∨ s = 39 <;> simp [hs] <;> omega
theorem wdN_len : ∀ (t : Nd) (a : Bool) (d : Int), okN a d t → (wdN t).length ≤ 2 * t.wt := by
  refine Nd.ind fun t ih => fun a d h => ?_
  have hk : ∀ i (h : i < t.kids.length), (wdN t.kids[i]).length ≤ 2 * t.kids[i].wt := fun i hi => ih _ (List.getElem_mem hi) _ _ (okN_any h hi)
  have ha := shN h
  have hw := t.wt_eq
  rw [wdN_eq]
  split
  · simp; omega
  split
  · simp; omega
  split
  · rename_i hs
    have := formW_len (ha.form hs) hk t.kids.length (Nat.le_refl _)
    rw [List.take_of_length_le (Nat.le_refl _)] at this
    simp; omega
  · have h1 := flat_len hk
    have h2 := midW_len t.sort t.num t.text
    have h3 := wtS_len t.names
    simp only [List.length_cons, List.length_append]; omega
end Go.Ab
