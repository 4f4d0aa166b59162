import Derived.Test.YtkablfpnjfbhfaaGreatDoorX3
import Derived.Orders
namespace Go.Ab
open Go
structure InsR (L : Lk) (n : Nat) (ops : Array Oper) (o : Oper) (ai : AI) : Prop where
  dst : o.dst = ai.d
  lt : ∀ i, ai.d = some i → i < n
  op : OpS L n o ai.o
  guard : (o.guard = none ∧ ai.g = none) ∨ ∃ j want s o', o.guard = some (j, want) ∧ ops[j]? = some o' ∧ o'.dst = some s ∧ ai.g = some (s, want)
def looks (ai : AI) (s : Nat) : Prop := Arg.t s ∈ opArgs ai.o ∨ ∃ w, ai.g = some (s, w)
structure RegDR (L : Lk) (n : Nat) (ops : Array Oper) (ais : List AI) (ms : List Nat) (inc : List (Nat × Nat)) (bf : Nat → Nat → Bool) : Prop where
  size : ais.length ≤ ops.size
  ins : ∀ (i : Nat) (ai : AI), ais[i]? = some ai → ∃ o, ops[i]? = some o ∧ InsR L n ops o ai
  lt : ∀ i j, bf i j = true → i < j
  via : ∀ i j o, j < ais.length → ops[j]? = some o → bf i j = true → ∃ e, e ∈ o.after ∧ Region.binds .any e = true ∧ (e.on = i ∨ bf i e.on = true)
  back : ∀ j o e, j < ais.length → ops[j]? = some o → e ∈ o.after → Region.binds .any e = true → e.on < j
  slots : ∀ (i j : Nat) (ai aj : AI) (s : Nat), ais[i]? = some ai → ais[j]? = some aj → i ≠ j → aj.d = some s → (looks ai s ∨ ai.d = some s) → bf i j = true ∨ bf j i = true
  muts : ∀ i j, i < j → j < ais.length → memN ms i = true → memN ms j = true → bf i j = true
  reads : ∀ (i m n : Nat) (ag : Bool) (x : Arg) (ai : AI), ais[i]? = some ai → ai.o = .load n ag x → m < ais.length → i ≠ m → memN ms m = true → bf i m = true ∨ bf m i = true ∨ memP inc i m = true
  mutop : ∀ (k : Nat) (ai : AI), ais[k]? = some ai → memN ms k = true → mutOp ai.o = true
section
variable {L : Lk} {n : Nat} {ops : Array Oper} {ais : List AI} {ms : List Nat} {inc : List (Nat × Nat)} {bf : Nat → Nat → Bool}
def pos (ms : List Nat) (S : Nat → Bool) : Nat → Nat
  | 0 => 0
  | i + 1 => if S i = true ∧ memN ms i = true then i + 1 else pos ms S i
def wr (ais : List AI) (V : Nat → AV) (i s : Nat) (x : AV) : AV :=
  match ais[i]? with
  | some ai => nxtV ai.d (V i) x s
  | none => x
def slotS (ais : List AI) (E : Nat → Nat → AV) (V : Nat → AV) (S : Nat → Bool) (s : Nat) : Nat → AV
  | 0 => E 0 s
  | i + 1 => if S i = true then wr ais V i s (slotS ais E V S s i) else slotS ais E V S s i
theorem wr_ne {V : Nat → AV} {k s : Nat} {x : AV} (h : ∀ aj, ais[k]? = some aj → aj.d = some s → False) : wr ais V k s x = x := by
  unfold wr
  cases hk : ais[k]? with
  | none => rfl
  | some aj =>
    simp only [nxtV]
    cases hd : aj.d with
    | none => rfl
    | some d =>
      by_cases e : d = s
      · subst e; exact (h aj hk hd).elim
      · simp [e]
theorem wr_eq {V : Nat → AV} {k s : Nat} {x : AV} {ai : AI} (h : ais[k]? = some ai) : wr ais V k s x = nxtV ai.d (V k) x s := by
  unfold wr; rw [h]
theorem pos_le (S : Nat → Bool) : ∀ i, pos ms S i ≤ i
  | 0 => Nat.le_refl _
  | i + 1 => by
    simp only [pos]; split
    · exact Nat.le_refl _
    · exact Nat.le_succ_of_le (pos_le S i)
theorem pos_mem (S : Nat → Bool) : ∀ i m, pos ms S i = m + 1 → m < i ∧ S m = true ∧ memN ms m = true
  | 0, m, h => by simp [pos] at h
  | i + 1, m, h => by
    simp only [pos] at h
    split at h
    · rename_i hs; cases h; exact ⟨by omega, hs⟩
    · obtain ⟨h1, h2⟩ := pos_mem S i m h; exact ⟨by omega, h2⟩
theorem pos_max (S : Nat → Bool) : ∀ i m, m < i → S m = true → memN ms m = true → m < pos ms S i
  | 0, m, h, _, _ => by omega
  | i + 1, m, h, h1, h2 => by
    simp only [pos]
    split
    · exact h
    · rename_i hn
      by_cases hm : m = i
      · subst hm; exact absurd ⟨h1, h2⟩ hn
      · exact pos_max S i m (by omega) h1 h2
theorem same_C {C : Nat → S3} (hC : ∀ k, k < ais.length → memN ms k = false → C (k + 1) = C k) : ∀ (d p : Nat), p + d ≤ ais.length → (∀ m, p ≤ m → m < p + d → memN ms m = false) → C (p + d) = C p := by
  intro d
  induction d with
  | zero => intro p _ _; rfl
  | succ d ih =>
    intro p hd hm
    rw [← Nat.add_assoc, hC (p + d) (by omega) (hm _ (by omega) (by omega)), ih p (by omega) fun m h1 h2 => hm m h1 (by omega)]
theorem least_M (ms : List Nat) : ∀ (d p : Nat), (∀ m, p ≤ m → m < p + d → memN ms m = false) ∨ ∃ m, p ≤ m ∧ m < p + d ∧ memN ms m = true ∧ ∀ q, p ≤ q → q < m → memN ms q = false := by
  intro d
  induction d with
  | zero => intro p; exact .inl fun m h1 h2 => by omega
  | succ d ih =>
    intro p
    rcases ih p with h | ⟨m, h1, h2, h3, h4⟩
    · cases hm : memN ms (p + d) with
      | true => exact .inr ⟨p + d, by omega, by omega, hm, fun q q1 q2 => h q q1 (by omega)⟩
      | false =>
        refine .inl fun m h1 h2 => ?_
        by_cases e : m = p + d
        · rw [e]; exact hm
        · exact h m h1 (by omega)
    · exact .inr ⟨m, h1, by omega, h3, h4⟩
structure Clo (bf : Nat → Nat → Bool) (S : Nat → Bool) : Prop where
  down : ∀ i j, bf i j = true → S j = true → S i = true
section facts
variable {E : Nat → Nat → AV} {C : Nat → S3} {V : Nat → AV} {K : St → Prop}
variable (R : RegDR L n ops ais ms inc bf) (F : ∀ k ai, ais[k]? = some ai → Fact L.gl (CQs L) (CKs L) ms inc 0 ais.length [] (0 + k) ai E C V)
include R F
omit R in
theorem fact_C (k : Nat) (hk : k < ais.length) (hm : memN ms k = false) : C (k + 1) = C k := by
  have f := F k ais[k] (List.getElem?_eq_getElem hk)
  rw [Nat.zero_add] at f
  rcases f.run with ⟨_, _, _, _, _, h⟩ | ⟨_, e, _, h⟩
  · exact h
  · cases h with
    | turn h0 _ => rw [hm] at h0; cases h0
    | _ => assumption
theorem slot_ready (S : Nat → Bool) (hS : Clo bf S) (i : Nat) (ai : AI) (hi : ais[i]? = some ai) (hn : S i = false) (hready : ∀ j, bf j i = true → S j = true) (s : Nat) (hs : looks ai s) :
    slotS ais E V S s ais.length = E i s := by
  have hil : i < ais.length := (List.getElem?_eq_some_iff.1 hi).1
  have up : ∀ d, i + d ≤ ais.length → slotS ais E V S s (i + d) = slotS ais E V S s i := by
    intro d
    induction d with
    | zero => intro _; rfl
    | succ d ih =>
      intro hd
      rw [← Nat.add_assoc]
      simp only [slotS]
      rw [ih (by omega)]
      split
      · rename_i h1
        refine wr_ne fun aj h2 h3 => ?_
        by_cases e : d = 0
        · subst e; rw [Nat.add_zero] at h1; rw [hn] at h1; cases h1
        · rcases R.slots i (i + d) ai aj s hi h2 (by omega) h3 (.inl hs) with h4 | h4
          · have := hS.down _ _ h4 h1; rw [hn] at this; cases this
          · have := R.lt _ _ h4; omega
      · rfl
  have dn : ∀ k, k ≤ i → slotS ais E V S s k = E k s := by
    intro k
    induction k with
    | zero => intro _; rfl
    | succ k ih =>
      intro hk
      have hkl : k < ais.length := by omega
      have f := F k ais[k] (List.getElem?_eq_getElem hkl)
      rw [Nat.zero_add] at f
      rw [f.next s]
      simp only [slotS]
      rw [ih (by omega)]
      split
      · exact wr_eq (List.getElem?_eq_getElem hkl)
      · rename_i hSk
        simp only [nxtV]
        split
        · rename_i d hd
          split
          · rename_i hds
            subst hds
            exfalso
            rcases R.slots i k ai ais[k] d hi (List.getElem?_eq_getElem hkl) (by omega) hd (.inl hs) with h4 | h4
            · have := R.lt _ _ h4; omega
            · exact hSk (hready k h4)
          · rfl
        · rfl
  have := up (ais.length - i) (by omega)
  rw [show i + (ais.length - i) = ais.length by omega] at this
  rw [this, dn i (Nat.le_refl _)]
omit F in
theorem slot_step (S : Nat → Bool) (hS : Clo bf S) (i : Nat) (ai : AI) (hi : ais[i]? = some ai) (hn : S i = false) (s : Nat) :
    slotS ais E V (fun k => if k = i then true else S k) s ais.length = nxtV ai.d (V i) (slotS ais E V S s ais.length) s := by
  have hil : i < ais.length := (List.getElem?_eq_some_iff.1 hi).1
  have dn : ∀ k, k ≤ i → slotS ais E V (fun k => if k = i then true else S k) s k = slotS ais E V S s k := by
    intro k
    induction k with
    | zero => intro _; rfl
    | succ k ih =>
      intro hk
      simp only [slotS, show k ≠ i by omega, if_false]
      rw [ih (by omega)]
  have up : ∀ d, i + 1 + d ≤ ais.length → slotS ais E V (fun k => if k = i then true else S k) s (i + 1 + d) = nxtV ai.d (V i) (slotS ais E V S s (i + 1 + d)) s := by
    intro d
    induction d with
    | zero =>
      intro _
      simp only [slotS]
      rw [dn i (Nat.le_refl _)]
      simp only [if_true, hn, Bool.false_eq_true, if_false]
      exact wr_eq hi
    | succ d ih =>
      intro hd
      rw [← Nat.add_assoc]
      simp only [slotS, show i + 1 + d ≠ i by omega, if_false]
      rw [ih (by omega)]
      split
      · rename_i h1
        cases h2 : ais[i + 1 + d]? with
        | none => simp only [wr, h2]
        | some aj =>
          simp only [wr, h2, nxtV]
          cases hd' : ai.d with
          | none => rfl
          | some d' =>
            by_cases hds : d' = s
            · subst hds
              cases h3 : aj.d with
              | none => rfl
              | some d2 =>
                by_cases he : d2 = d'
                · subst he
                  exfalso
                  rcases R.slots i (i + 1 + d) ai aj d2 hi h2 (by omega) h3 (.inr hd') with h4 | h4
                  · have := hS.down _ _ h4 h1; rw [hn] at this; cases this
                  · have := R.lt _ _ h4; omega
                · simp [he]
            · simp [hds]
      · rfl
  have := up (ais.length - (i + 1)) (by omega)
  rw [show i + 1 + (ais.length - (i + 1)) = ais.length by omega] at this
  exact this
theorem state_turn (S : Nat → Bool) (hS : Clo bf S) (i : Nat) (hi : i < ais.length) (hn : S i = false) (hready : ∀ j, bf j i = true → S j = true) (hm : memN ms i = true) :
    C (pos ms S ais.length) = C i ∧ pos ms (fun k => if k = i then true else S k) ais.length = i + 1 := by
  have above : ∀ m, i < m → m < ais.length → memN ms m = true → S m = false := fun m h1 h2 h3 => by
    cases hsm : S m with
    | false => rfl
    | true => have := hS.down _ _ (R.muts i m h1 h2 hm h3) hsm; rw [hn] at this; cases this
  have hle : pos ms S ais.length ≤ i := by
    cases hp : pos ms S ais.length with
    | zero => omega
    | succ m =>
      obtain ⟨h1, h2, h3⟩ := pos_mem S _ m hp
      by_cases h : i < m
      · have := above m h h1 h3; rw [h2] at this; cases this
      · by_cases e : m = i
        · subst e; rw [hn] at h2; cases h2
        · omega
  refine ⟨?_, ?_⟩
  · have := same_C (ais := ais) (ms := ms) (C := C) (fun k hk hmk => fact_C F k hk hmk) (i - pos ms S ais.length) (pos ms S ais.length) (by omega) (fun m h1 h2 => by
      cases hmm : memN ms m with
      | false => rfl
      | true =>
        have hlt : m < i := by omega
        have := pos_max (ms := ms) S ais.length m (by omega) (hready m (R.muts m i hlt hi hmm hm)) hmm
        omega)
    rw [show pos ms S ais.length + (i - pos ms S ais.length) = i by omega] at this
    exact this.symm
  · have h1 := pos_max (ms := ms) (fun k => if k = i then true else S k) ais.length i hi (by simp) hm
    cases hp : pos ms (fun k => if k = i then true else S k) ais.length with
    | zero => omega
    | succ m =>
      obtain ⟨h2, h3, h4⟩ := pos_mem _ _ m hp
      by_cases h : i < m
      · rw [if_neg (by omega)] at h3
        have := above m h h2 h4; rw [h3] at this; cases this
      · omega
omit R F in
theorem state_still (S : Nat → Bool) (i : Nat) (hm : memN ms i = false) : ∀ k, pos ms (fun k => if k = i then true else S k) k = pos ms S k := by
  intro k
  induction k with
  | zero => rfl
  | succ k ih =>
    simp only [pos, ih]
    by_cases h : k = i
    · subst h; simp [hm]
    · simp [h]
theorem state_read (S : Nat → Bool) (hS : Clo bf S) (i : Nat) (hi : i < ais.length) (hn : S i = false) (hready : ∀ j, bf j i = true → S j = true) {q : Nat} {ag : Bool} {x : Arg} {b j : Nat} {cs : List AV} {ai : AI}
    (hai : ais[i]? = some ai) (ho : ai.o = .load q ag x) (hm : memN ms i = false) (h4 : cellsAt (C i).bx b j q cs)
    (h7 : ∀ m, 0 ≤ m → m < i → memN ms m = true → memP inc i m = true → cellsAt (C m).bx b j q cs)
    (h8 : ∀ m, i < m → m < ais.length → memN ms m = true → memP inc i m = true → cellsAt (C (m + 1)).bx b j q cs) : cellsAt (C (pos ms S ais.length)).bx b j q cs := by
  have sameC := same_C (ais := ais) (ms := ms) (C := C) (fun k hk hmk => fact_C F k hk hmk)
  by_cases hp : pos ms S ais.length ≤ i
  · generalize hpe : pos ms S ais.length = p at *
    rcases least_M ms (i - p) p with h | ⟨m, h1, h2, h3, h5⟩
    · have := sameC (i - p) p (by omega) h
      rw [show p + (i - p) = i by omega] at this
      rw [← this]; exact h4
    · have := sameC (m - p) p (by omega) (fun q q1 q2 => h5 q q1 (by omega))
      rw [show p + (m - p) = m by omega] at this
      rw [← this]
      refine h7 m (by omega) (by omega) h3 ?_
      rcases R.reads i m q ag x ai hai ho (by omega) (by omega) h3 with h6 | h6 | h6
      · have := R.lt _ _ h6; omega
      · have := pos_max (ms := ms) S ais.length m (by omega) (hready m h6) h3
        omega
      · exact h6
  · cases hpe : pos ms S ais.length with
    | zero => omega
    | succ m =>
      obtain ⟨h1, h2, h3⟩ := pos_mem S _ m hpe
      have hne : m ≠ i := by rintro rfl; rw [hn] at h2; cases h2
      refine h8 m (by omega) h1 h3 ?_
      rcases R.reads i m q ag x ai hai ho h1 (by omega) h3 with h6 | h6 | h6
      · have := hS.down _ _ h6 h2; rw [hn] at this; cases this
      · have := R.lt _ _ h6; omega
      · exact h6
omit R in
theorem state_all (S : Nat → Bool) (hS : ∀ i, i < ais.length → S i = true) : C (pos ms S ais.length) = C ais.length ∧ ∀ s, slotS ais E V S s ais.length = E ais.length s := by
  refine ⟨?_, fun s => ?_⟩
  · have hle := pos_le (ms := ms) S ais.length
    have hC : ∀ k, k < ais.length → memN ms k = false → C (k + 1) = C k := fun k hk hm => by
      have f := F k ais[k] (List.getElem?_eq_getElem hk)
      rw [Nat.zero_add] at f
      rcases f.run with ⟨_, _, _, _, _, h⟩ | ⟨_, e, _, h⟩
      · exact h
      · cases h with
        | turn h0 _ => rw [hm] at h0; cases h0
        | _ => assumption
    have := same_C (ais := ais) (ms := ms) (C := C) hC (ais.length - pos ms S ais.length) (pos ms S ais.length) (by omega) (fun m h1 h2 => by
      cases hmm : memN ms m with
      | false => rfl
      | true => have := pos_max (ms := ms) S ais.length m (by omega) (hS m (by omega)) hmm; omega)
    rw [show pos ms S ais.length + (ais.length - pos ms S ais.length) = ais.length by omega] at this
    exact this.symm
  · have dn : ∀ k, k ≤ ais.length → slotS ais E V S s k = E k s := by
      intro k
      induction k with
      | zero => intro _; rfl
      | succ k ih =>
        intro hk
        have hkl : k < ais.length := by omega
        have f := F k ais[k] (List.getElem?_eq_getElem hkl)
        rw [Nat.zero_add] at f
        rw [f.next s]
        simp only [slotS]
        rw [ih (by omega), if_pos (hS k hkl)]
        exact wr_eq (List.getElem?_eq_getElem hkl)
    exact dn _ (Nat.le_refl _)
end facts
def lst (listed : Array Bool) (i : Nat) : Bool := listed.getD i false
def cntS (S : Nat → Bool) : Nat → Nat
  | 0 => 0
  | k + 1 => (if S k = true then 0 else 1) + cntS S k
theorem cntS_step (S : Nat → Bool) (i : Nat) (hn : S i = false) : ∀ k, (k ≤ i → cntS (fun k => if k = i then true else S k) k = cntS S k) ∧ (i < k → cntS (fun k => if k = i then true else S k) k + 1 = cntS S k)
  | 0 => ⟨fun _ => rfl, fun h => by omega⟩
  | k + 1 => by
    obtain ⟨h1, h2⟩ := cntS_step S i hn k
    refine ⟨fun h => ?_, fun h => ?_⟩
    · simp only [cntS, show k ≠ i by omega, if_false]
      rw [h1 (by omega)]
    · by_cases e : k = i
      · subst e
        simp only [cntS, if_true, hn, Bool.false_eq_true, if_false]
        rw [h1 (Nat.le_refl _)]; omega
      · simp only [cntS, e, if_false]
        have := h2 (by omega)
        omega
theorem cntS_zero (S : Nat → Bool) : ∀ k, cntS S k = 0 → ∀ i, i < k → S i = true
  | 0, _, i, h => by omega
  | k + 1, h, i, hi => by
    simp only [cntS] at h
    by_cases e : i = k
    · subst e
      cases hs : S i with
      | true => rfl
      | false => rw [hs] at h; simp at h
    · exact cntS_zero S k (by omega) i (by omega)
theorem lst_set {listed : Array Bool} {i : Nat} (hi : i < listed.size) : lst (listed.setIfInBounds i true) = fun k => if k = i then true else lst listed k := by
  funext k
  simp only [lst, Array.getD_eq_getD_getElem?, Array.getElem?_setIfInBounds]
  by_cases h : i = k
  · subst h; simp [hi]
  · simp [h, Ne.symm h]
structure InvD (L : Lk) (n : Nat) (ais : List AI) (ms : List Nat) (bf : Nat → Nat → Bool) (E : Nat → Nat → AV) (C : Nat → S3) (V : Nat → AV) (g0 : Gh) (rl0 : List (Nat × Nat)) (w0 : World)
    (listed : Array Bool) (a : Act) (w : World) : Prop where
  size : ais.length ≤ listed.size
  clo : Clo bf (lst listed)
  defers : a.defers = []
  tmps : a.tmps.size = n
  st : ∃ g, Step g0 rl0 w0 g (C (pos ms (lst listed) ais.length)).rl w ∧ (∀ s, VR L g (C (pos ms (lst listed) ais.length)).rl w (slotS ais E V (lst listed) s ais.length) (a.tmps.getD s undef)) ∧
    RelSh L g (C (pos ms (lst listed) ais.length)).nb (C (pos ms (lst listed) ais.length)).bx (C (pos ms (lst listed) ais.length)).rl w
section run
variable {E : Nat → Nat → AV} {C : Nat → S3} {V : Nat → AV} {g0 : Gh} {rl0 : List (Nat × Nat)} {w0 : World} {Q : Exit → Act → World → Prop}
variable (R : RegDR L n ops ais ms inc bf) (F : ∀ k ai, ais[k]? = some ai → Fact L.gl (CQs L) (CKs L) ms inc 0 ais.length [] (0 + k) ai E C V)
include R F
theorem run_op (i : Nat) (hi : i < ais.length) (listed : Array Bool) (a : Act) (w : World) (I : InvD L n ais ms bf E C V g0 rl0 w0 listed a w) (hr : i ∈ Region.ready .any ops listed) (K : Act → World → Prop)
    (hK : ∀ a' w', InvD L n ais ms bf E C V g0 rl0 w0 (listed.setIfInBounds i true) a' w' → K a' w') : wpOp L.P ops Q i K a w := by
  obtain ⟨hl, o, ho, hafter⟩ := mem_ready.1 hr
  have hai := List.getElem?_eq_getElem hi
  obtain ⟨o', ho', ins⟩ := R.ins i _ hai
  rw [ho] at ho'; cases ho'
  have hn : lst listed i = false := by
    have : i < listed.size := Nat.lt_of_lt_of_le hi I.size
    simp only [lst, Array.getD_eq_getD_getElem?, Array.getElem?_eq_getElem this] at hl ⊢
    exact hl
  have hready : ∀ j, bf j i = true → lst listed j = true := fun j hj => by
    obtain ⟨e, h1, h2, h3⟩ := R.via j i o hi ho hj
    have h4 : lst listed e.on = true := hafter e h1 h2
    rcases h3 with h3 | h3
    · rw [← h3]; exact h4
    · exact I.clo.down _ _ h3 h4
  have hset := lst_set (listed := listed) (i := i) (Nat.lt_of_lt_of_le hi I.size)
  have hclo : Clo bf (lst (listed.setIfInBounds i true)) := by
    rw [hset]
    refine ⟨fun p q hpq hq => ?_⟩
    by_cases hqi : q = i
    · subst hqi
      by_cases hpi : p = q
      · simp [hpi]
      · simp only [hpi, if_false]; exact hready p hpq
    · simp only [hqi, if_false] at hq
      by_cases hpi : p = i
      · simp [hpi]
      · simp only [hpi, if_false]; exact I.clo.down p q hpq hq
  obtain ⟨g, s0, hv, hsh⟩ := I.st
  have f := F i _ hai
  rw [Nat.zero_add] at f
  have hslot : ∀ s, looks ais[i] s → slotS ais E V (lst listed) s ais.length = E i s := fun s hs => slot_ready R F (lst listed) I.clo i _ hai hn hready s hs
  have hstill : memN ms i = false → C (pos ms (lst (listed.setIfInBounds i true)) ais.length) = C (pos ms (lst listed) ais.length) := fun hm => by
    rw [hset, state_still (lst listed) i hm]
  have hturn : memN ms i = true → C (pos ms (lst listed) ais.length) = C i ∧ C (pos ms (lst (listed.setIfInBounds i true)) ais.length) = C (i + 1) := fun hm => by
    obtain ⟨h1, h2⟩ := state_turn R F (lst listed) I.clo i hi hn hready hm
    exact ⟨h1, by rw [hset, h2]⟩
  have hslot' : ∀ s, slotS ais E V (lst (listed.setIfInBounds i true)) s ais.length = nxtV ais[i].d (V i) (slotS ais E V (lst listed) s ais.length) s := fun s => by
    rw [hset]; exact slot_step R (lst listed) I.clo i _ hai hn s
  have fin : ∀ (g' : Gh) (v : Value) (w' : World), Step g (C (pos ms (lst listed) ais.length)).rl w g' (C (pos ms (lst (listed.setIfInBounds i true)) ais.length)).rl w' →
      RelSh L g' (C (pos ms (lst (listed.setIfInBounds i true)) ais.length)).nb (C (pos ms (lst (listed.setIfInBounds i true)) ais.length)).bx (C (pos ms (lst (listed.setIfInBounds i true)) ais.length)).rl w' →
      VR L g' (C (pos ms (lst (listed.setIfInBounds i true)) ais.length)).rl w' (V i) v → InvD L n ais ms bf E C V g0 rl0 w0 (listed.setIfInBounds i true) (a.put o.dst v) w' := by
    intro g' v w' s hsh' hv'
    rw [ins.dst]
    refine ⟨by simpa using I.size, hclo, ?_, ?_, g', s0.trans s, fun q => ?_, hsh'⟩
    · cases ais[i].d <;> exact I.defers
    · cases ais[i].d <;> simp [Act.put, I.tmps]
    · rw [hslot' q]
      cases hd : ais[i].d with
      | none => exact (hv q).keep s
      | some d =>
        simp only [nxtV, Act.put]
        rw [getD_set _ _ _ _ (by rw [I.tmps]; exact ins.lt d hd)]
        split
        · exact hv'
        · exact (hv q).keep s
  unfold wpOp
  rw [ho]
  simp only
  have hguard : ∀ s w', ais[i].g = some (s, w') → ∀ t, E i s = .d (.bool t) → Region.wanted o (yielded ops a.tmps) = (t == w') := by
    intro s w' hg t ht
    rcases ins.guard with ⟨_, h2⟩ | ⟨j, want, s2, o2, h1, h2, h3, h4⟩
    · rw [h2] at hg; cases hg
    · rw [h4] at hg; cases hg
      have hvs := hv s
      rw [hslot s (.inr ⟨w', h4⟩), ht] at hvs
      have hb := hvs.bool_inv
      have hsl : a.tmps[s]? = some (.bool t) := by
        rw [Array.getD_eq_getD_getElem?] at hb
        cases hx : a.tmps[s]? with
        | none => rw [hx] at hb; simp [undef] at hb
        | some v => rw [hx] at hb; simp at hb; rw [hb]
      have hy : yielded ops a.tmps j = some t := by simp [yielded, h2, h3, hsl]
      simp [Region.wanted, h1, hy]
  rcases f.run with ⟨s, w', hg, ht, hvj, hC⟩ | ⟨hg, e, he, hrun⟩
  · have hw : Region.wanted o (yielded ops a.tmps) = false := by
      rcases ht with ht | ht
      · rw [hguard s w' hg _ ht]; cases w' <;> rfl
      · rcases ins.guard with ⟨_, h2⟩ | ⟨j, want, s2, o2, h1, h2, h3, h4⟩
        · rw [h2] at hg; cases hg
        · rw [h4] at hg; cases hg
          have hvs := hv s
          rw [hslot s (.inr ⟨w', h4⟩), ht] at hvs
          have hb := hvs.und_inv
          have hy : yielded ops a.tmps j = none := by
            rw [Array.getD_eq_getD_getElem?] at hb
            cases hx : a.tmps[s]? with
            | none => simp [yielded, h2, h3, hx]
            | some v => rw [hx] at hb; simp at hb; simp [yielded, h2, h3, hx, hb]
          simp [Region.wanted, h1, hy]
    rw [hw]
    simp only [Bool.false_eq_true, if_false]
    have hT : C (pos ms (lst (listed.setIfInBounds i true)) ais.length) = C (pos ms (lst listed) ais.length) := by
      cases hm : memN ms i with
      | false => exact hstill hm
      | true => obtain ⟨h1, h2⟩ := hturn hm; rw [h1, h2, hC]
    refine hK _ _ (fin g undef w ?_ ?_ ?_)
    · rw [hT]; exact Step.refl _ _ _
    · rw [hT]; exact hsh
    · rw [hvj]; exact VR.und
  · have hw : Region.wanted o (yielded ops a.tmps) = true := by
      rcases hg with hg | ⟨s, w', hg, ht⟩
      · rcases ins.guard with ⟨h1, _⟩ | ⟨j, want, s2, o2, h1, h2, h3, h4⟩
        · simp [Region.wanted, h1]
        · rw [hg] at h4; cases h4
      · rw [hguard s w' hg _ ht]; simp
    rw [hw]
    simp only [if_true]
    refine .inl ?_
    generalize hTe : C (pos ms (lst listed) ais.length) = T at *
    generalize hTe' : C (pos ms (lst (listed.setIfInBounds i true)) ais.length) = T' at *
    have hst : RelSt L n g ⟨e, T.nb, T.bx, T.rl⟩ a w := ⟨I.defers, I.tmps, fun q => by
      rcases he q with h1 | ⟨h1, h2⟩
      · show VR L g T.rl w (look e q) _
        rw [h1]; exact .junk _
      · show VR L g T.rl w (look e q) _
        rw [h2, ← hslot q (.inl h1)]; exact hv q, hsh⟩
    have key : evOp L.gl (CKs L) ais[i].o ⟨e, T.nb, T.bx, T.rl⟩ fun v σ => v = V i ∧ S3.mk σ.nb σ.bx σ.rl = T' := by
      cases hrun with
      | quiet h0 h1 h2 h =>
        rw [quiet_state _ _ _ h2, hstill h0]
        have : (fun (v : AV) (σ : St) => v = V i ∧ S3.mk (St.mk σ.env T.nb T.bx T.rl).nb (St.mk σ.env T.nb T.bx T.rl).bx (St.mk σ.env T.nb T.bx T.rl).rl = T) = fun v _ => v = V i := by
          funext v σ; simp
        rw [this]; exact h
      | elt h0 h1 q ag x cs h2 h3 h4 =>
        rw [h2]; simp only [evOp, h3]
        rw [hstill h0]; simpa using h4
      | lenS h0 h1 x h2 s h3 h4 =>
        rw [h2]; simp only [evOp, h3]
        exact fun _ => ⟨h4.symm, (hstill h0).symm⟩
      | lenL h0 h1 x h2 xs h3 h4 =>
        rw [h2]
        rcases h3 with h3 | ⟨t, h3⟩ <;> simp only [evOp, h3] <;> exact fun _ => ⟨h4.symm, (hstill h0).symm⟩
      | call h0 h1 f xs h2 h =>
        rw [h2]; simp only [evOp]
        obtain ⟨as, ⟨v, k1, k2⟩, k3⟩ := det_args L.gl e xs _ h
        exact k3 _ ⟨v, T.nb, T.bx, T.rl, k1 _ _ _, k2, (hstill h0).symm⟩
      | callv h0 h1 x xs f caps h2 h3 h =>
        rw [h2]; simp only [evOp, h3]
        obtain ⟨as, ⟨v, k1, k2⟩, k3⟩ := ((det_args L.gl e xs).bind fun as => det_app as caps) _ h
        exact k3 (fun as => CKs L f as T.nb T.bx T.rl fun v nb bx rl => v = V i ∧ S3.mk nb bx rl = T') ⟨v, T.nb, T.bx, T.rl, k1 _ _ _, k2, (hstill h0).symm⟩
      | read h0 h1 q ag x b j cs h2 h3 h4 h5 h6 h7 h8 =>
        have hat := state_read R F (lst listed) I.clo i hi hn hready hai h2 h0 h4 h7 h8
        rw [hTe] at hat
        rw [h2]; simp only [evOp, h3]
        unfold cellsAt at hat
        split at hat
        · rename_i ds hds
          obtain ⟨l, rfl, k2⟩ := det_cells ds j q _ hat
          refine k2 _ ?_
          rw [hstill h0]; simpa using h5
        · exact hat.elim
      | turn h0 h =>
        obtain ⟨h1, h2⟩ := hturn h0
        rw [h1, h2]; exact h
    refine ins.op ⟨e, T.nb, T.bx, T.rl⟩ _ g a w K Q hst key ?_
    intro av σ' g' v' w' s hr' hv' ⟨h1, h2⟩
    subst h1
    have e1 : σ'.rl = T'.rl := by rw [← h2]
    have hsh' := hr'.sh
    rw [show σ'.nb = T'.nb by rw [← h2], show σ'.bx = T'.bx by rw [← h2], e1] at hsh'
    rw [e1] at s hv'
    exact hK _ _ (fin g' v' w' s hsh' hv')
theorem run_pre (hsep : ∀ (j : Nat) (o : Oper), ais.length ≤ j → ops[j]? = some o → (∃ e, e ∈ o.after ∧ Region.binds .any e = true ∧ ais.length ≤ e.on) ∨ ∀ i, i < ais.length → ∃ e, e ∈ o.after ∧ Region.binds .any e = true ∧ e.on = i)
    (hT : ∀ (fuel : Nat) (listed : Array Bool) (g : Gh) (a : Act) (w : World), listed.size = ops.size → (∀ i, i < ais.length → lst listed i = true) → (∀ i, ais.length ≤ i → lst listed i = false) → ops.size - ais.length ≤ fuel →
      Step g0 rl0 w0 g (C ais.length).rl w → a.defers = [] → a.tmps.size = n → (∀ s, VR L g (C ais.length).rl w (E ais.length s) (a.tmps.getD s undef)) →
      RelSh L g (C ais.length).nb (C ais.length).bx (C ais.length).rl w → wpAny L.P .any ops Q fuel listed a w) :
    ∀ (fuel : Nat) (listed : Array Bool) (a : Act) (w : World), listed.size = ops.size → (∀ i, ais.length ≤ i → lst listed i = false) → InvD L n ais ms bf E C V g0 rl0 w0 listed a w →
      cntS (lst listed) ais.length + (ops.size - ais.length) ≤ fuel → wpAny L.P .any ops Q fuel listed a w := by
  have fin : ∀ (fuel : Nat) (listed : Array Bool) (a : Act) (w : World), listed.size = ops.size → (∀ i, ais.length ≤ i → lst listed i = false) → InvD L n ais ms bf E C V g0 rl0 w0 listed a w → ops.size - ais.length ≤ fuel →
      (∀ i, i < ais.length → lst listed i = true) → wpAny L.P .any ops Q fuel listed a w := by
    intro fuel listed a w hsz htl I hf hall
    obtain ⟨g, h1, h2, h3⟩ := I.st
    obtain ⟨h4, h5⟩ := state_all F (lst listed) hall
    rw [h4] at h1 h2 h3
    exact hT fuel listed g a w hsz hall htl hf h1 I.defers I.tmps (fun s => by rw [← h5 s]; exact h2 s) h3
  have all_of_nil : ∀ (listed : Array Bool), ais.length ≤ listed.size → Region.ready .any ops listed = [] → ∀ i, i < ais.length → lst listed i = true := by
    intro listed hsz hnil i
    induction i using Nat.strongRecOn with
    | ind i ih =>
      intro hi
      cases hl : lst listed i with
      | true => rfl
      | false =>
        exfalso
        have hio : i < ops.size := Nat.lt_of_lt_of_le hi R.size
        have : i ∈ Region.ready .any ops listed := by
          refine mem_ready.2 ⟨?_, ops[i], Array.getElem?_eq_getElem _, fun e he hb => ?_⟩
          · have hlt : i < listed.size := by omega
            simp only [lst, Array.getD_eq_getD_getElem?, Array.getElem?_eq_getElem hlt] at hl ⊢
            exact hl
          · have := R.back i _ e hi (Array.getElem?_eq_getElem hio) he hb
            exact ih e.on this (by omega)
        rw [hnil] at this; cases this
  intro fuel
  induction fuel with
  | zero =>
    intro listed a w hsz htl I hc
    exact fin 0 listed a w hsz htl I (by omega) (cntS_zero (lst listed) ais.length (by omega))
  | succ fuel ih =>
    intro listed a w hsz htl I hc
    by_cases hall : ∀ i, i < ais.length → lst listed i = true
    · exact fin _ listed a w hsz htl I (by omega) hall
    refine ⟨fun hnil => absurd (all_of_nil listed I.size hnil) hall, fun i hi => ?_⟩
    have hil : i < ais.length := by
      rcases Nat.lt_or_ge i ais.length with h | h
      · exact h
      · exfalso
        obtain ⟨_, o, ho, haf⟩ := mem_ready.1 hi
        rcases hsep i o h ho with ⟨e, h1, h2, h3⟩ | hs
        · have h4 : lst listed e.on = true := haf e h1 h2
          rw [htl _ h3] at h4; cases h4
        · refine hall fun q hq => ?_
          obtain ⟨e, h1, h2, h3⟩ := hs q hq
          have h4 : lst listed e.on = true := haf e h1 h2
          rw [← h3]; exact h4
    refine run_op R F i hil listed a w I hi _ fun a' w' I' => ih _ a' w' (by simpa using hsz) (fun j hj => ?_) I' ?_
    · rw [lst_set (Nat.lt_of_lt_of_le hil I.size)]
      simp only
      rw [if_neg (by omega)]; exact htl j hj
    · obtain ⟨hl, o, ho, _⟩ := mem_ready.1 hi
      have hlt : i < listed.size := Nat.lt_of_lt_of_le hil I.size
      rw [lst_set hlt]
      have hn : lst listed i = false := by
        simp only [lst, Array.getD_eq_getD_getElem?, Array.getElem?_eq_getElem hlt] at hl ⊢
        exact hl
      have := (cntS_step (lst listed) i hn ais.length).2 hil
      omega
end run
theorem evD_pre (hmix : L.P.follows .mixedOrders = true) (R : RegDR L n ops ais ms inc bf) {id : Nat} {σ : St} {K : St → Prop} {g : Gh} {a : Act} {w : World} {Q : Exit → Act → World → Prop}
    (hsep : ∀ (j : Nat) (o : Oper), ais.length ≤ j → ops[j]? = some o → (∃ e, e ∈ o.after ∧ Region.binds .any e = true ∧ ais.length ≤ e.on) ∨ ∀ i, i < ais.length → ∃ e, e ∈ o.after ∧ Region.binds .any e = true ∧ e.on = i)
    (hev : evD L.gl (CQs L) (CKs L) ms inc 0 ais σ [] [] K) (h : RelSt L n g σ a w)
    (k : ∀ (fuel : Nat) (listed : Array Bool) (σ' : St) (g' : Gh) (a' : Act) (w' : World), listed.size = ops.size → (∀ i, i < ais.length → lst listed i = true) → (∀ i, ais.length ≤ i → lst listed i = false) → ops.size - ais.length ≤ fuel →
      Step g σ.rl w g' σ'.rl w' → RelSt L n g' σ' a' w' → K σ' → wpAny L.P .any ops Q fuel listed a' w') : (Code.region id ops true).wp L.P Q a w := by
  obtain ⟨env, nb, bx, rl⟩ := σ
  obtain ⟨E, C, V, σ', hk, hE, hC, hE', hC', F, _⟩ := evD_facts ms inc ais 0 env nb bx rl [] [] K (fun k ai h1 h2 => R.mutop k ai h1 (by rwa [Nat.zero_add] at h2)) hev
  rw [Nat.zero_add] at hE' hC' F
  refine wp_region_any hmix ?_
  have hd : RelSt L n g ⟨env, nb, bx, rl⟩ a w.drew := ⟨h.defers, h.size, fun s => (h.slot s).keep (Step.drew g rl w), h.sh.drew⟩
  have hS : ∀ i, lst (Array.replicate ops.size false) i = false := fun i => by
    simp only [lst, Array.getD_eq_getD_getElem?, Array.getElem?_replicate]
    split <;> rfl
  have hpos : ∀ k, pos ms (lst (Array.replicate ops.size false)) k = 0 := by
    intro k
    induction k with
    | zero => rfl
    | succ k ih => simp only [pos, hS, Bool.false_eq_true, false_and, if_false]; exact ih
  have hslot : ∀ s k, slotS ais E V (lst (Array.replicate ops.size false)) s k = E 0 s := by
    intro s k
    induction k with
    | zero => rfl
    | succ k ih => simp only [slotS, hS, Bool.false_eq_true, if_false]; exact ih
  have hcnt : ∀ k, cntS (lst (Array.replicate ops.size false)) k = k := by
    intro k
    induction k with
    | zero => rfl
    | succ k ih => simp only [cntS, hS, Bool.false_eq_true, if_false, ih]; omega
  refine run_pre (g0 := g) (rl0 := rl) (w0 := w) R F hsep ?_ ops.size _ a w.drew (by simp) (fun i _ => hS i) ⟨by simpa using R.size, ⟨fun i j _ hj => by rw [hS] at hj; cases hj⟩, h.defers, h.size, g, ?_, fun s => ?_, ?_⟩ ?_
  · intro fuel listed g' a' w' q1 q2 q3 q4 s h1 h2 h3 h4
    rw [← hC'] at s h3 h4
    exact k fuel listed σ' g' a' w' q1 q2 q3 q4 s ⟨h1, h2, fun q => by rw [hE']; exact h3 q, h4⟩ hk
  · rw [hpos, hC]; exact Step.drew g rl w
  · rw [hpos, hC, hslot, hE]; exact hd.slot s
  · rw [hpos, hC]; exact hd.sh
  · rw [hcnt]; have := R.size; omega
theorem evD_sound (hmix : L.P.follows .mixedOrders = true) (R : RegDR L n ops ais ms inc bf) (hsz : ops.size = ais.length) {id : Nat} {σ : St} {K : St → Prop} {g : Gh} {a : Act} {w : World} {Q : Exit → Act → World → Prop}
    (hev : evD L.gl (CQs L) (CKs L) ms inc 0 ais σ [] [] K) (h : RelSt L n g σ a w)
    (k : ∀ (σ' : St) (g' : Gh) (a' : Act) (w' : World), Step g σ.rl w g' σ'.rl w' → RelSt L n g' σ' a' w' → K σ' → Q .normal a' w') : (Code.region id ops true).wp L.P Q a w := by
  refine evD_pre hmix R (fun j o hj ho => ?_) hev h fun fuel listed σ' g' a' w' q1 q2 q3 q4 s h1 h2 => wpAny_done ?_ (k σ' g' a' w' s h1 h2) fuel
  · have := (Array.getElem?_eq_some_iff.1 ho).1; omega
  · cases hr : Region.ready .any ops listed with
    | nil => rfl
    | cons j r =>
      exfalso
      obtain ⟨h1, o, h2, _⟩ := mem_ready.1 (show j ∈ Region.ready .any ops listed by rw [hr]; exact List.mem_cons_self ..)
      have hj : j < ais.length := by rw [← hsz]; exact (Array.getElem?_eq_some_iff.1 h2).1
      have h3 := q2 j hj
      have hlt : j < listed.size := by omega
      simp only [lst, Array.getD_eq_getD_getElem?, Array.getElem?_eq_getElem hlt] at h1 h3
      simp at h1 h3
      rw [h1] at h3; cases h3
end
end Go.Ab
namespace Go.Ab
open Go
theorem alloc_setRow (w : World) (a b : Array Value) (t : TypeId) : (w.alloc (.cells a t)).setRow w.heap.size b = w.alloc (.cells b t) := by
  unfold World.setRow World.alloc
  congr 1
  apply Array.ext
  · simp
  · intro i h1 h2
    simp only [Array.getElem_modify]
    by_cases h : w.heap.size = i
    · subst h; simp
    · have : i < w.heap.size := by simp at h1; omega
      simp [h, this, Array.getElem_push]
theorem setCell_row {w : World} {b : Nat} {arr : Array Value} {t : TypeId} {fr : Nat × Nat} (h : w.heap[b]? = some (.cells arr t fr)) (o : Nat) (v : Value) : w.setCell ⟨b, o, none⟩ v = w.setRow b (arr.setIfInBounds o v) := by
  unfold World.setCell World.setRow
  congr 1
  have hlt := (Array.getElem?_eq_some_iff.1 h).1
  have hv := (Array.getElem?_eq_some_iff.1 h).2
  apply Array.ext
  · simp
  · intro i h1 h2
    simp only [Array.getElem_modify]
    split
    · rename_i e
      have e : b = i := e
      subst e
      rw [hv]; rfl
    · rfl
theorem set_cell {L : Lk} {g : Gh} {nb : Nat} {bx : List Bx} {rl : List (Nat × Nat)} {w : World} (sh : RelSh L g nb bx rl w) {i b ty o : Nat} {cs : List AV} {x : AV} {v : Value} (hi : g.bk[i]? = some b) (hb : bx[i]? = some (.var ty cs))
    (ho : o < cs.length) (hv : VR L g rl w x v) : Step g rl w g rl (w.setCell ⟨b, o, none⟩ v) ∧ RelSh L g nb (bx.set i (.var ty (cs.set o x))) rl (w.setCell ⟨b, o, none⟩ v) := by
  obtain ⟨hm, arr, t, hh, hsz, hc, hty⟩ := sh.box i _ b hb hi
  have hm := hm (by simp)
  rw [setCell_row hh]
  have hmem : b ∈ g.bk := List.mem_iff_getElem?.2 ⟨i, hi⟩
  have st := Step.setBox (rl := rl) hmem hm arr (arr.setIfInBounds o v) t (0, 0) hh (by simp)
  refine ⟨st, sh.setBox hi arr _ t (0, 0) hh (by simp) hm _ ⟨_, t, setRow_heap w b arr _ t (0, 0) hh, by simp [hsz], fun j y z hy hz => ?_, hty⟩⟩
  rw [Array.getElem?_setIfInBounds] at hz
  rw [List.getElem?_set] at hy
  by_cases hj : o = j
  · subst hj
    rw [if_pos rfl, if_pos ho] at hy
    rw [if_pos rfl, if_pos (by omega)] at hz
    cases hy; cases hz
    exact hv.keep st
  · rw [if_neg hj] at hy hz
    exact (hc j y z hy hz).keep st
theorem mid_list {α : Type} (A G B V : List α) {k : Nat} (hA : A.length = k) (hV : V.length = G.length) : (A ++ G ++ B).take k ++ V ++ (A ++ G ++ B).drop (k + V.length) = A ++ V ++ B := by
  subst hA
  rw [hV, ← List.length_append, List.drop_left, List.append_assoc A G, List.take_left]
section
variable {L : Lk} {n : Nat}
theorem tail_app {o : Oper} {x y : Operand} {t e : TypeId} {i : TypeInfo} {z : Value} (ho : o.op = .call { callee := .builtin .append, args := #[x, y], argTypes := #[t, t] })
    (ht : L.P.underlying t = some (.slice e)) (hi : L.P.info? e = some i) (hz : i.zero = some z) (hzs : z.cells.size = i.size) (hpos : 0 < i.size) (hb1 : 0 < i.bytes) {key : Nat} (hkey : esz key = i.size) (hk8 : key = 1000 → e = L.u8)
    {env : Env} {nb : Nat} {bx : List Bx} {rl : List (Nat × Nat)} {g : Gh} {a : Act} {w : World} (h : RelSt L n g ⟨env, nb, bx, rl⟩ a w)
    {xs : List (List DV)} {kk : Nat} (hxv : VR L g rl w (.rsl xs (.row kk)) (a.eval x)) (hrl : rl[kk]? = some (xs.length, key)) (ds : List DV) (hds : ds.length = i.size)
    (G0 Gv : List Value) (hG0 : G0.length = i.size) (h01 : ∀ u ∈ G0, u.oneCell' = true) (hGv : Gv.length = i.size) (hv1 : ∀ u ∈ Gv, u.oneCell' = true)
    (hyG : ∀ (j : Nat) (y : DV), ds[j]? = some y → ∃ u, Gv[j]? = some u ∧ DR g.mrk w y u) (src : SrcOk L.P w t (a.eval y) i.size 1 G0) (hbytes : (xs.length + 1) * i.bytes ≤ 140737488355328) :
    ∃ (blk cap : Nat) (cur : Array Value) (tt : TypeId) (fr : Nat × Nat) (w8 : World) (g' : Gh), (execOp a.eval o).run L.P w = .ok (.value (.slice (some ⟨blk, 0, none⟩) (xs.length + 1) cap)) w8 ∧
      w8.heap[blk]? = some (.cells cur tt fr) ∧ fr.2 ≤ xs.length * i.size ∧ xs.length * i.size + i.size ≤ cur.size ∧ blk ∉ g.bk ∧ (∀ b, b ∈ g.bk → w8.heap[b]? = w.heap[b]?) ∧
      Step g rl w g' (rl.set kk (xs.length + 1, key)) (w8.setRow blk (cur.toList.take (xs.length * i.size) ++ Gv ++ cur.toList.drop (xs.length * i.size + Gv.length)).toArray) ∧
      RelSh L g' nb bx (rl.set kk (xs.length + 1, key)) (w8.setRow blk (cur.toList.take (xs.length * i.size) ++ Gv ++ cur.toList.drop (xs.length * i.size + Gv.length)).toArray) ∧
      VR L g' (rl.set kk (xs.length + 1, key)) (w8.setRow blk (cur.toList.take (xs.length * i.size) ++ Gv ++ cur.toList.drop (xs.length * i.size + Gv.length)).toArray) (.rsl (xs ++ [ds]) (.row kk)) (.slice (some ⟨blk, 0, none⟩) (xs.length + 1) cap) := by
  generalize hex : a.eval x = xv at hxv
  cases hxv with
  | rsl _ _ _ hxd htag =>
  have hyG' : ∀ (p j : Nat) (x : List DV) (y : DV), [ds][p]? = some x → x[j]? = some y → ∃ u, Gv[p * i.size + j]? = some u ∧ DR g.mrk w y u := fun p j x y hp hj => by
    cases p with
    | zero => simp at hp; subst hp; simpa using hyG j y hj
    | succ p => simp at hp
  have hyes : ∀ y, y ∈ [ds] → y.length = i.size := fun y hy => by simp at hy; rw [hy]; exact hds
  have hG1 : Gv.length = [ds].length * i.size := by simp [hGv]
  have hbig : xs.length + [ds].length ≤ big := by
    have := Nat.le_mul_of_pos_right (xs.length + 1) hb1
    show xs.length + 1 ≤ big
    unfold big; omega
  have h63 : ((xs.length + 1 : Nat) : Int) ≤ 9223372036854775807 := by
    have hbig : xs.length + 1 ≤ big := hbig
    unfold big at hbig; omega
  have newrow : rl.length = g.rw.length := h.sh.rwl.symm
  obtain ⟨L', e'', h1, hxes0, h2, h30⟩ := htag
  rw [hrl] at h1
  cases h1
  have hxes := hxes0
  rw [hkey] at hxes
  have h3 := h30
  simp only [hkey] at h3
  have hkl : kk < rl.length := (List.getElem?_eq_some_iff.1 hrl).1
  have hset : (rl.set kk (xs.length + 1, key))[kk]? = some (xs.length + 1, key) := List.getElem?_set_self hkl
  have hsetrow : ∀ (k n e : Nat), rl[k]? = some (n, e) → ∃ n', (rl.set kk (xs.length + 1, key))[k]? = some (n', e) ∧ n ≤ n' := by
    intro k' n' e' hk'
    by_cases hkk : kk = k'
    · subst hkk
      rw [hrl] at hk'; cases hk'
      exact ⟨_, hset, by omega⟩
    · exact ⟨n', by rw [List.getElem?_set_ne hkk]; exact hk', Nat.le_refl _⟩
  have hrwl : kk < g.rw.length := by rw [h.sh.rwl]; exact hkl
  have setgrow : (∀ (k n e : Nat), rl[k]? = some (n, e) → ∃ n', (rl.set kk (xs.length + 1, key))[k]? = some (n', e) ∧ n ≤ n' ∧ (n' = n → (g.rw.set kk (some w.heap.size))[k]? = g.rw[k]?)) := by
    intro k' n' e' hk'
    by_cases hkk : kk = k'
    · subst hkk
      rw [hrl] at hk'; cases hk'
      exact ⟨_, hset, by omega, fun hh => by omega⟩
    · exact ⟨n', by rw [List.getElem?_set_ne hkk]; exact hk', Nat.le_refl _, fun _ => by rw [List.getElem?_set_ne hkk]⟩
  have setnew : ∀ b, some b ∈ g.rw.set kk (some w.heap.size) → some b ∈ g.rw ∨ w.heap.size ≤ b := by
    intro b hb
    rcases List.mem_or_eq_of_mem_set hb with hb | hb
    · exact .inl hb
    · cases hb; exact .inr (Nat.le_refl _)
  have setlen : (g.rw.set kk (some w.heap.size)).length = (rl.set kk (xs.length + 1, key)).length := by simp [newrow]
  have setat : (rl.set kk (xs.length + 1, key))[kk]? = some (xs.length + 1, key) ∧ (g.rw.set kk (some w.heap.size))[kk]? = some (some w.heap.size) := ⟨hset, List.getElem?_set_self hrwl⟩
  have setoth : ∀ j, j ≠ kk → (rl.set kk (xs.length + 1, key))[j]? = rl[j]? ∧ (g.rw.set kk (some w.heap.size))[j]? = g.rw[j]? := fun j hj => ⟨List.getElem?_set_ne (Ne.symm hj), List.getElem?_set_ne (Ne.symm hj)⟩
  have grow : ∀ (cap0 : Nat) (F : List Value), F.length = xs.length * i.size → (∀ (p j : Nat) (x : List DV) (y : DV), xs[p]? = some x → x[j]? = some y → ∃ u, F[p * i.size + j]? = some u ∧ DR g.mrk w y u) →
      (execOp a.eval o).run L.P w = .ok (.value (.slice (some ⟨w.heap.size, 0, none⟩) (xs.length + 1) (grownCap w (xs.length + 1) cap0 e))) (w.drew.alloc (.cells (F.toArray ++ G0.toArray ++ Builtin.zeroCells z.cells (grownCap w (xs.length + 1) cap0 e - (xs.length + 1))) e)) →
      ∃ (blk cap : Nat) (cur : Array Value) (tt : TypeId) (fr : Nat × Nat) (w8 : World) (g' : Gh), (execOp a.eval o).run L.P w = .ok (.value (.slice (some ⟨blk, 0, none⟩) (xs.length + 1) cap)) w8 ∧
      w8.heap[blk]? = some (.cells cur tt fr) ∧ fr.2 ≤ xs.length * i.size ∧ xs.length * i.size + i.size ≤ cur.size ∧ blk ∉ g.bk ∧ (∀ b, b ∈ g.bk → w8.heap[b]? = w.heap[b]?) ∧
      Step g rl w g' (rl.set kk (xs.length + 1, key)) (w8.setRow blk (cur.toList.take (xs.length * i.size) ++ Gv ++ cur.toList.drop (xs.length * i.size + Gv.length)).toArray) ∧
      RelSh L g' nb bx (rl.set kk (xs.length + 1, key)) (w8.setRow blk (cur.toList.take (xs.length * i.size) ++ Gv ++ cur.toList.drop (xs.length * i.size + Gv.length)).toArray) ∧
      VR L g' (rl.set kk (xs.length + 1, key)) (w8.setRow blk (cur.toList.take (xs.length * i.size) ++ Gv ++ cur.toList.drop (xs.length * i.size + Gv.length)).toArray) (.rsl (xs ++ [ds]) (.row kk)) (.slice (some ⟨blk, 0, none⟩) (xs.length + 1) cap) := by
    intro cap0 F hF hxF hrun
    obtain ⟨q1, q2, q3⟩ := grown_sl (g := g) (w := w) (e := e) (cap0 := cap0) hzs hxes hyes hF hG1 hxF hyG' hbig h.sh.fresh (g.rw.set kk (some w.heap.size)) _ rfl
    simp only [List.length_cons, List.length_nil, Nat.zero_add] at q1 q2 q3
    generalize hcp : grownCap w (xs.length + 1) cap0 e = cp at *
    have s := Step.row' (g := g) (rl := rl) (rl' := rl.set kk (xs.length + 1, key)) (w := w) (.cells (F.toArray ++ Gv.toArray ++ Builtin.zeroCells z.cells (cp - (xs.length + 1))) e)
      ((xs.length + 1) * i.size) (g.rw.set kk (some w.heap.size)) h.sh.fresh setgrow setnew
    have hsh := h.sh.row' (e := key) (by rw [hkey]; exact s) setlen (by omega) (by omega) hk8 (by rw [q1, hkey]; exact Nat.mul_le_mul_right _ q2) setat setoth
    rw [hkey] at hsh
    have hh8 := heap_alloc_new w.drew (.cells (F.toArray ++ G0.toArray ++ Builtin.zeroCells z.cells (cp - (xs.length + 1))) e)
    have ecur : ((F.toArray ++ G0.toArray ++ Builtin.zeroCells z.cells (cp - (xs.length + 1))).toList.take (xs.length * i.size) ++ Gv ++ (F.toArray ++ G0.toArray ++ Builtin.zeroCells z.cells (cp - (xs.length + 1))).toList.drop (xs.length * i.size + Gv.length)).toArray =
        F.toArray ++ Gv.toArray ++ Builtin.zeroCells z.cells (cp - (xs.length + 1)) := by
      have em := mid_list F G0 (Builtin.zeroCells z.cells (cp - (xs.length + 1))).toList Gv hF (by rw [hGv, hG0])
      apply Array.ext'
      simpa only [Array.toList_append] using em
    have hw : (w.drew.alloc (.cells (F.toArray ++ G0.toArray ++ Builtin.zeroCells z.cells (cp - (xs.length + 1))) e)).setRow w.heap.size (F.toArray ++ Gv.toArray ++ Builtin.zeroCells z.cells (cp - (xs.length + 1))) =
        w.drew.alloc (.cells (F.toArray ++ Gv.toArray ++ Builtin.zeroCells z.cells (cp - (xs.length + 1))) e) := alloc_setRow w.drew _ _ e
    refine ⟨w.heap.size, cp, _, e, (0, 0), _, g.row w.heap.size ((xs.length + 1) * i.size) (g.rw.set kk (some w.heap.size)), hrun, hh8, Nat.zero_le _, ?_, fun hb => ?_, fun b hb => ?_, ?_⟩
    · simp only [Array.size_append, List.size_toArray, hF, hG0]; omega
    · have := h.sh.bk_lt hb; omega
    · have hlt := h.sh.bk_lt hb
      show (w.heap.push _)[b]? = _
      rw [Array.getElem?_push, if_neg (by omega)]
    · rw [ecur, hw]
      refine ⟨s, hsh, .rsl _ _ _ q3 ⟨xs.length + 1, key, hset, fun x hx => by rw [hkey]; exact (List.mem_append.1 hx).elim (hxes x) (hyes x), by simp, fun _ => .inr ⟨w.heap.size, cp, e, by simp, setat.2, ?_⟩⟩⟩
      have hh : (w.drew.alloc (.cells (F.toArray ++ Gv.toArray ++ Builtin.zeroCells z.cells (cp - (xs.length + 1))) e)).heap[w.heap.size]? = some (.cells (F.toArray ++ Gv.toArray ++ Builtin.zeroCells z.cells (cp - (xs.length + 1))) e) := heap_alloc_new w.drew _
      simp only [World.shape?, hh, q1, hkey]
  rcases h3 trivial with ⟨hxn, hrw⟩ | ⟨xb, xcap, tt, hxn, hrw, hshape⟩
  · have hx0 : xs = [] := by
      rcases sl_inv hxd with ⟨h1, _⟩ | ⟨blk, off, cap, es, f, hc, _⟩
      · exact h1
      · rw [hxn] at hc; cases hc
    have hr := run_appG_nil L.P w t t o.type e i z ht hi hz _ 1 G0 src (by omega) (by simp) (by have := Nat.le_mul_of_pos_left i.bytes (show 0 < xs.length + 1 by omega); omega)
    refine grow 0 [] (by simp [hx0]) (fun p j x y hp => by simp [hx0] at hp) ?_
    rw [run_app ho, hex, hxn, hr]; simp [hx0]
  · obtain ⟨hpos', hrow⟩ := h.sh.row kk _ _ hrl
    simp only [hkey] at hrow
    rcases hrow with ⟨hrw', _⟩ | ⟨blk', cur, tt', fr', hrw', hcur, hmark, hle, hnbk, hfr'⟩
    · rw [hrw] at hrw'; cases hrw'
    · rw [hrw] at hrw'; cases hrw'
      have hcs : cur.size = xcap * i.size := by
        simp only [World.shape?, hcur, Option.some.injEq, Prod.mk.injEq] at hshape
        exact hshape.2
      rcases flat_of_sl hxd i.size hxes with ⟨hx0, a0, hxc⟩ | ⟨xb2, xo, xcap2, F, hxc, hxb, hxcap, hxmk, hF, hFc, hF1, hxF⟩
      · exact absurd hfr'.2.1 (by rw [hx0]; simp)
      · rw [hxn] at hxc; cases hxc
        by_cases hroom : xs.length + 1 ≤ xcap
        · have hmul : xs.length * i.size + i.size ≤ cur.size := by
            rw [hcs]; have := Nat.mul_le_mul_right i.size hroom; rw [Nat.add_mul] at this; omega
          have hr := run_appG_fits L.P w t t o.type e i ht hi xb xs.length xcap cur tt' fr' hfr'.1 hcur _ 1 G0 src h01 hroom (by omega)
          have hsize : (cur.toList.take (xs.length * i.size) ++ Gv ++ cur.toList.drop (xs.length * i.size + Gv.length)).toArray.size = cur.size := by simp; omega
          have hsize0 : (cur.toList.take (xs.length * i.size) ++ G0 ++ cur.toList.drop (xs.length * i.size + G0.length)).toArray.size = cur.size := by simp; omega
          have hfl : F = cur.toList.take (xs.length * i.size) := by
            apply List.ext_getElem?
            intro q
            by_cases hq : q < xs.length * i.size
            · rw [List.getElem?_take_of_lt hq]
              have h5 := hFc q _ (List.getElem?_eq_getElem (by omega))
              rw [Nat.zero_add, cell_of_row w xb q cur tt' fr' hcur] at h5
              rw [List.getElem?_eq_getElem (by omega)]
              simpa using h5.symm
            · rw [List.getElem?_eq_none (by omega), List.getElem?_eq_none (by simp; omega)]
          have hn1 : (xs.length + 1) * i.size = xs.length * i.size + i.size := by rw [Nat.add_mul]; omega
          have s := Step.rowIn (g := g) (rl := rl) (rl' := rl.set kk (xs.length + 1, key)) (n := (xs.length + 1) * i.size) (List.mem_iff_getElem?.2 ⟨kk, hrw⟩) cur _ tt' fr' hcur hsize
            (by rw [hmark]; omega) (fun q hq => by
              rw [hmark] at hq
              rw [List.getElem?_toArray, List.append_assoc, List.getElem?_append_left (by simp; omega), List.getElem?_take_of_lt hq]; simp) hsetrow
          have hsh := h.sh.rowIn (k := kk) (e := key) hcur (by rw [hkey]; omega) (by rw [hkey]; exact s) (by simp) (by omega) (by omega) hfr'.2.2 (by rw [hsize, hkey]; omega) ⟨hset, hrw⟩ (fun j hj => List.getElem?_set_ne (Ne.symm hj))
          rw [hkey] at hsh
          have hr2 : (execOp a.eval o).run L.P w = .ok (.value (.slice (some ⟨xb, 0, none⟩) (xs.length + 1) xcap)) (w.setRow xb (cur.toList.take (xs.length * i.size) ++ G0 ++ cur.toList.drop (xs.length * i.size + G0.length)).toArray) := by
            rw [run_app ho, hex, hxn, hr]; rfl
          have ecur : ((cur.toList.take (xs.length * i.size) ++ G0 ++ cur.toList.drop (xs.length * i.size + G0.length)).toArray.toList.take (xs.length * i.size) ++ Gv ++ (cur.toList.take (xs.length * i.size) ++ G0 ++ cur.toList.drop (xs.length * i.size + G0.length)).toArray.toList.drop (xs.length * i.size + Gv.length)).toArray =
              (cur.toList.take (xs.length * i.size) ++ Gv ++ cur.toList.drop (xs.length * i.size + Gv.length)).toArray := by
            congr 1
            have em := mid_list (cur.toList.take (xs.length * i.size)) G0 (cur.toList.drop (xs.length * i.size + G0.length)) Gv (k := xs.length * i.size) (by simp; omega) (by rw [hGv, hG0])
            have eg : Gv.length = G0.length := by rw [hGv, hG0]
            rw [eg] at em ⊢
            exact em
          refine ⟨xb, xcap, _, tt', fr', _, g.row xb ((xs.length + 1) * i.size) g.rw, hr2, setRow_heap w xb cur _ tt' fr' hcur, hfr'.1, by rw [hsize0]; exact hmul, hnbk, fun b hb => setRow_other w xb b _ (fun hq => hnbk (hq ▸ hb)), ?_⟩
          rw [ecur, setRow_setRow]
          refine ⟨s, hsh, .rsl (xs ++ [ds]) (.row kk) _ ?_ ⟨_, _, hset, fun x hx => by rw [hkey]; exact (List.mem_append.1 hx).elim (hxes x) (hyes x), by simp, fun _ => .inr ⟨xb, xcap, tt', by simp, hrw, ?_⟩⟩⟩
          · have hl : (xs ++ [ds]).length = xs.length + 1 := by simp
            have := sl_of_flat (mk := (g.row xb ((xs.length + 1) * i.size) g.rw).mrk) (w := w.setRow xb (cur.toList.take (xs.length * i.size) ++ Gv ++ cur.toList.drop (xs.length * i.size + Gv.length)).toArray)
              (xs := xs ++ [ds]) (blk := xb) (off := 0) (cap := xcap) (es := i.size) (F := F ++ Gv) (by simpa using hbig) (by omega) (fun x hx' => (List.mem_append.1 hx').elim (hxes x) (hyes x))
              (by simp [Gh.row]) (by simp [hF, hGv, Nat.add_mul]) (fun j u hj => by
                rw [cell_setRow_same w xb _ cur _ tt' fr' hcur, Nat.zero_add, List.getElem?_toArray, ← hfl, List.getElem?_append_left (List.getElem?_eq_some_iff.1 hj).1]; exact hj)
              (flat_append hF hxF hyG' fun y u hd => hd.keep s.mrk s.cell)
            rw [hl] at this
            exact this
          · simp only [World.shape?, setRow_heap w xb cur _ tt' fr' hcur, hsize, hcs, hkey]
        · have hr := run_appG_grow L.P w t t o.type e i z ht hi hz ⟨xb, 0, none⟩ xs.length xcap F hF (fun j u hj => by rw [Addr.add_lit]; exact hFc j u hj) _ 1 G0 src
            (by omega) h63 (growslice_fits (by omega) hbytes)
          refine grow xcap F hF hxF ?_
          rw [run_app ho, hex, hxn, hr]; rfl
structure TD where
  o8 : Oper
  o9 : Oper
  o10 : Oper
  o11 : Oper
  o12 : Oper
  x : Operand
  nn : Operand
  y : Operand
  v : Operand
  base : Operand
  t : TypeId
  e : TypeId
  s : TypeId
  th : TypeId
  i : TypeInfo
  ih : TypeInfo
  fi : TypeInfo
  z : Value
  fs : Array Field
  f : Field
  fj : Nat
structure TailR (L : Lk) (n : Nat) (ops : Array Oper) (p : Nat) (T : ATail) (D : TD) : Prop where
  size : ops.size = p + 5
  h8 : ops[p]? = some D.o8
  h9 : ops[p + 1]? = some D.o9
  h10 : ops[p + 2]? = some D.o10
  h11 : ops[p + 3]? = some D.o11
  h12 : ops[p + 4]? = some D.o12
  op8 : D.o8.op = .call { callee := .builtin .append, args := #[D.x, D.y], argTypes := #[D.t, D.t] }
  op9 : D.o9.op = .indexAddr D.t (.tmp T.d) D.nn
  op10 : D.o10.op = .store D.e (.tmp T.e) D.v
  op11 : D.o11.op = .fieldAddr D.s D.base D.fj
  op12 : D.o12.op = .store D.th (.tmp T.q) (.tmp T.d)
  d8 : D.o8.dst = some T.d
  d9 : D.o9.dst = some T.e
  d10 : D.o10.dst = none
  d11 : D.o11.dst = some T.q
  d12 : D.o12.dst = none
  g8 : D.o8.guard = none
  g9 : D.o9.guard = none
  g10 : D.o10.guard = none
  g11 : D.o11.guard = none
  g12 : D.o12.guard = none
  ht : L.P.underlying D.t = some (.slice D.e)
  hi : L.P.info? D.e = some D.i
  hz : D.i.zero = some D.z
  hzs : D.z.cells.size = D.i.size
  hpos : 0 < D.i.size
  hb1 : 0 < D.i.bytes
  hkey : esz (rowKey T.z D.i.size) = D.i.size
  hk8 : rowKey T.z D.i.size = 1000 → D.e = L.u8
  hes : T.es = D.i.size
  hby : T.bytes = D.i.bytes
  hx : ArgR L D.x T.x
  hn : ArgR L D.nn T.n
  hy : ArgR L D.y T.y
  hv : ArgR L D.v T.v
  hbase : ArgR L D.base T.base
  hs : L.P.underlying D.s = some (.struct D.fs)
  hf : D.fs[D.fj]? = some D.f
  hfi : L.P.info? D.f.type = some D.fi
  hsz : D.fi.size ≠ 0
  hoff : D.f.offset = T.off
  hth : L.P.info? D.th = some D.ih
  hih : D.ih.size = 1
  ltd : T.d < n
  lte : T.e < n
  ltq : T.q < n
  de : T.d ≠ T.e
  dq : T.d ≠ T.q
  eq : T.e ≠ T.q
  nnd : D.nn ≠ .tmp T.d
  nne : D.nn ≠ .tmp T.e
  nnq : D.nn ≠ .tmp T.q
  vd : D.v ≠ .tmp T.d
  ve : D.v ≠ .tmp T.e
  vq : D.v ≠ .tmp T.q
  bd : D.base ≠ .tmp T.d
  be : D.base ≠ .tmp T.e
  bq : D.base ≠ .tmp T.q
  e8 : ∀ i, i < p → ∃ e, e ∈ D.o8.after ∧ Region.binds .any e = true ∧ e.on = i
  e9 : ∃ e, e ∈ D.o9.after ∧ Region.binds .any e = true ∧ e.on = p
  e10 : ∃ e, e ∈ D.o10.after ∧ Region.binds .any e = true ∧ e.on = p + 1
  e11 : ∃ e, e ∈ D.o11.after ∧ Region.binds .any e = true ∧ e.on = p
  e12 : ∃ e, e ∈ D.o12.after ∧ Region.binds .any e = true ∧ e.on = p + 3
  back : ∀ (j : Nat) (o : Oper) (e : Edge), p ≤ j → ops[j]? = some o → e ∈ o.after → Region.binds .any e = true → e.on < j
theorem eval_same {a : Act} {d : Nat} {v : Value} (h : d < a.tmps.size) : (a.put (some d) v).eval (.tmp d) = v := by
  simp [Act.put, Act.eval, h]
theorem eval_ne {a : Act} {d : Nat} {v : Value} {x : Operand} (h : x ≠ .tmp d) : (a.put (some d) v).eval x = a.eval x :=
  Act.eval_put fun d' e => by cases e; exact h
theorem setRow_comm (w : World) (a b : Nat) (h : a ≠ b) (x y : Array Value) : (w.setRow a x).setRow b y = (w.setRow b y).setRow a x := by
  unfold World.setRow
  congr 1
  apply Array.ext
  · simp
  · intro i h1 h2
    simp only [Array.getElem_modify]
    by_cases hb : b = i
    · have : a ≠ i := fun e => h (e.trans hb.symm)
      simp [hb, this]
    · simp [hb]
def fals (b : Bool) : Nat := if b = true then 0 else 1
section chain
variable {ops : Array Oper} {p : Nat} {T : ATail} {D : TD} {Q : Exit → Act → World → Prop}
set_option maxHeartbeats 1000000 in
theorem chain (R : TailR L n ops p T D) (A : Bool → Bool → Act) (W : Bool → Bool → World) (p19 p20 : Value)
    (r9 : ∀ b b' b'', (execOp (A false b).eval D.o9).run L.P (W b' b'') = .ok (.value p19) (W b' b'')) (a9 : ∀ b, (A false b).put (some T.e) p19 = A true b)
    (r10 : ∀ b b', (execOp (A true b).eval D.o10).run L.P (W false b') = .ok .skip (W true b'))
    (r11 : ∀ b b' b'', (execOp (A b false).eval D.o11).run L.P (W b' b'') = .ok (.value p20) (W b' b'')) (a11 : ∀ b, (A b false).put (some T.q) p20 = A b true)
    (r12 : ∀ b b', (execOp (A b true).eval D.o12).run L.P (W b' false) = .ok .skip (W b' true)) (hQ : Q .normal (A true true) (W true true)) :
    ∀ (fuel : Nat) (b9 b10 b11 b12 : Bool) (listed : Array Bool), listed.size = ops.size → (∀ i, i ≤ p → lst listed i = true) → lst listed (p + 1) = b9 → lst listed (p + 2) = b10 → lst listed (p + 3) = b11 → lst listed (p + 4) = b12 →
      (b10 = true → b9 = true) → (b12 = true → b11 = true) → fals b9 + fals b10 + fals b11 + fals b12 ≤ fuel → wpAny L.P .any ops Q fuel listed (A b9 b11) (W b10 b12) := by
  have hsz := R.size
  have nil_of : ∀ listed : Array Bool, listed.size = ops.size → (∀ i, i < ops.size → lst listed i = true) → Region.ready .any ops listed = [] := by
    intro listed hl hall
    cases hr : Region.ready .any ops listed with
    | nil => rfl
    | cons j r =>
      exfalso
      obtain ⟨h1, o, h2, _⟩ := mem_ready.1 (show j ∈ Region.ready .any ops listed by rw [hr]; exact List.mem_cons_self ..)
      have hj := (Array.getElem?_eq_some_iff.1 h2).1
      have h3 := hall j hj
      have hlt : j < listed.size := by omega
      simp only [lst, Array.getD_eq_getD_getElem?, Array.getElem?_eq_getElem hlt] at h1 h3
      simp at h1 h3
      rw [h1] at h3; cases h3
  have all_of : ∀ listed : Array Bool, listed.size = ops.size → (∀ i, i ≤ p → lst listed i = true) → Region.ready .any ops listed = [] → ∀ i, i < ops.size → lst listed i = true := by
    intro listed hl hpre hnil i
    induction i using Nat.strongRecOn with
    | ind i ih =>
      intro hi
      by_cases hp : i ≤ p
      · exact hpre i hp
      cases hb : lst listed i with
      | true => rfl
      | false =>
        exfalso
        have : i ∈ Region.ready .any ops listed := by
          refine mem_ready.2 ⟨?_, ops[i], Array.getElem?_eq_getElem _, fun e he hbd => ?_⟩
          · have hlt : i < listed.size := by omega
            simp only [lst, Array.getD_eq_getD_getElem?, Array.getElem?_eq_getElem hlt] at hb ⊢
            exact hb
          · have := R.back i _ e (by omega) (Array.getElem?_eq_getElem hi) he hbd
            exact ih e.on this (by omega)
        rw [hnil] at this; cases this
  have five : ∀ listed : Array Bool, (∀ i, i ≤ p → lst listed i = true) → lst listed (p + 1) = true → lst listed (p + 2) = true → lst listed (p + 3) = true → lst listed (p + 4) = true → ∀ i, i < ops.size → lst listed i = true := by
    intro listed h0 h1 h2 h3 h4 i hi
    by_cases hp : i ≤ p
    · exact h0 i hp
    · have : i = p + 1 ∨ i = p + 2 ∨ i = p + 3 ∨ i = p + 4 := by omega
      rcases this with rfl | rfl | rfl | rfl <;> assumption
  intro fuel
  induction fuel with
  | zero =>
    intro b9 b10 b11 b12 listed hl hpre h1 h2 h3 h4 k1 k2 hf
    have e9 : b9 = true := by cases b9 with | true => rfl | false => (have ff : fals false = 1 := rfl; omega)
    have e10 : b10 = true := by cases b10 with | true => rfl | false => (have ff : fals false = 1 := rfl; omega)
    have e11 : b11 = true := by cases b11 with | true => rfl | false => (have ff : fals false = 1 := rfl; omega)
    have e12 : b12 = true := by cases b12 with | true => rfl | false => (have ff : fals false = 1 := rfl; omega)
    subst e9; subst e10; subst e11; subst e12
    exact ⟨nil_of listed hl (five listed hpre h1 h2 h3 h4), hQ⟩
  | succ fuel ih =>
    intro b9 b10 b11 b12 listed hl hpre h1 h2 h3 h4 k1 k2 hf
    refine ⟨fun hnil => ?_, fun i hi => ?_⟩
    · have hall := all_of listed hl hpre hnil
      have e9 := hall (p + 1) (by omega); rw [h1] at e9
      have e10 := hall (p + 2) (by omega); rw [h2] at e10
      have e11 := hall (p + 3) (by omega); rw [h3] at e11
      have e12 := hall (p + 4) (by omega); rw [h4] at e12
      subst e9; subst e10; subst e11; subst e12
      exact hQ
    · obtain ⟨hl0, o, ho, haf⟩ := mem_ready.1 hi
      have hio := (Array.getElem?_eq_some_iff.1 ho).1
      have hil : i < listed.size := by omega
      have hli : lst listed i = false := by
        simp only [lst, Array.getD_eq_getD_getElem?, Array.getElem?_eq_getElem hil] at hl0 ⊢
        exact hl0
      have hset := lst_set (listed := listed) (i := i) hil
      have hip : p < i := by
        rcases Nat.lt_or_ge p i with h | h
        · exact h
        · rw [hpre i h] at hli; cases hli
      have hpre' : ∀ j, j ≤ p → lst (listed.setIfInBounds i true) j = true := fun j hj => by rw [hset]; simp only; rw [if_neg (by omega)]; exact hpre j hj
      have edge : ∀ (oo : Oper) (q : Nat), o = oo → (∃ e, e ∈ oo.after ∧ Region.binds .any e = true ∧ e.on = q) → lst listed q = true := by
        rintro oo q rfl ⟨e, q1, q2, rfl⟩; exact haf e q1 q2
      have want : ∀ a : Act, o.guard = none → Region.wanted o (yielded ops a.tmps) = true := fun a hg => by simp [Region.wanted, hg]
      have hcase : i = p + 1 ∨ i = p + 2 ∨ i = p + 3 ∨ i = p + 4 := by omega
      rcases hcase with rfl | rfl | rfl | rfl
      · rw [R.h9] at ho; cases ho
        have e9 : b9 = false := by rw [← h1]; exact hli
        subst e9
        have e10 : b10 = false := by cases b10 with | false => rfl | true => exact absurd (k1 rfl) (by simp)
        subst e10
        unfold wpOp
        rw [R.h9]
        simp only
        rw [want _ R.g9]
        simp only [if_true]
        refine .inl (wp_value (r9 _ _ _) ?_)
        rw [R.d9, a9]
        refine ih true false b11 b12 _ (by simpa using hl) hpre' ?_ ?_ ?_ ?_ (fun h => by cases h) k2 (by have ft : fals true = 0 := rfl; have ff : fals false = 1 := rfl; omega)
        · rw [hset]; simp
        · rw [hset]; simp only; rw [if_neg (by omega)]; exact h2
        · rw [hset]; simp only; rw [if_neg (by omega)]; exact h3
        · rw [hset]; simp only; rw [if_neg (by omega)]; exact h4
      · rw [R.h10] at ho; cases ho
        have e10 : b10 = false := by rw [← h2]; exact hli
        subst e10
        have e9 : b9 = true := by rw [← h1]; exact edge _ _ rfl R.e10
        subst e9
        unfold wpOp
        rw [R.h10]
        simp only
        rw [want _ R.g10]
        simp only [if_true]
        refine .inl (wp_skipped (r10 _ _) ?_)
        rw [R.d10]
        refine ih true true b11 b12 _ (by simpa using hl) hpre' ?_ ?_ ?_ ?_ (fun h => rfl) k2 (by have ft : fals true = 0 := rfl; have ff : fals false = 1 := rfl; omega)
        · rw [hset]; simp only; rw [if_neg (by omega)]; exact h1
        · rw [hset]; simp
        · rw [hset]; simp only; rw [if_neg (by omega)]; exact h3
        · rw [hset]; simp only; rw [if_neg (by omega)]; exact h4
      · rw [R.h11] at ho; cases ho
        have e11 : b11 = false := by rw [← h3]; exact hli
        subst e11
        have e12 : b12 = false := by cases b12 with | false => rfl | true => exact absurd (k2 rfl) (by simp)
        subst e12
        unfold wpOp
        rw [R.h11]
        simp only
        rw [want _ R.g11]
        simp only [if_true]
        refine .inl (wp_value (r11 _ _ _) ?_)
        rw [R.d11, a11]
        refine ih b9 b10 true false _ (by simpa using hl) hpre' ?_ ?_ ?_ ?_ k1 (fun h => by cases h) (by have ft : fals true = 0 := rfl; have ff : fals false = 1 := rfl; omega)
        · rw [hset]; simp only; rw [if_neg (by omega)]; exact h1
        · rw [hset]; simp only; rw [if_neg (by omega)]; exact h2
        · rw [hset]; simp
        · rw [hset]; simp only; rw [if_neg (by omega)]; exact h4
      · rw [R.h12] at ho; cases ho
        have e12 : b12 = false := by rw [← h4]; exact hli
        subst e12
        have e11 : b11 = true := by rw [← h3]; exact edge _ _ rfl R.e12
        subst e11
        unfold wpOp
        rw [R.h12]
        simp only
        rw [want _ R.g12]
        simp only [if_true]
        refine .inl (wp_skipped (r12 _ _) ?_)
        rw [R.d12]
        refine ih b9 b10 true true _ (by simpa using hl) hpre' ?_ ?_ ?_ ?_ k1 (fun h => rfl) (by have ft : fals true = 0 := rfl; have ff : fals false = 1 := rfl; omega)
        · rw [hset]; simp only; rw [if_neg (by omega)]; exact h1
        · rw [hset]; simp only; rw [if_neg (by omega)]; exact h2
        · rw [hset]; simp only; rw [if_neg (by omega)]; exact h3
        · rw [hset]; simp
end chain
set_option maxHeartbeats 2000000 in
theorem tail_sound {ops : Array Oper} {p : Nat} {T : ATail} {D : TD} {Q : Exit → Act → World → Prop} (R : TailR L n ops p T D) {σ : St} {K : St → Prop} {g : Gh} {a : Act} {w : World} {listed : Array Bool} {fuel : Nat}
    (hev : evT L.gl T σ K) (h : RelSt L n g σ a w) (hl : listed.size = ops.size) (hpre : ∀ i, i < p → lst listed i = true) (htl : ∀ i, p ≤ i → lst listed i = false) (hfuel : 5 ≤ fuel)
    (k : ∀ (σ' : St) (g' : Gh) (a' : Act) (w' : World), Step g σ.rl w g' σ'.rl w' → RelSt L n g' σ' a' w' → K σ' → Q .normal a' w') : wpAny L.P .any ops Q fuel listed a w := by
  obtain ⟨env, nb, bx, rl⟩ := σ
  have hxv := R.hx.val h
  have hnv := R.hn.val h
  have hyv := R.hy.val h
  have hvv := R.hv.val h
  have hbv := R.hbase.val h
  simp only at hxv hnv hyv hvv hbv
  simp only [evT] at hev
  split at hev
  rotate_left
  · exact hev.elim
  rename_i xs kk hx
  rw [hx] at hxv
  split at hev
  rotate_left
  · exact hev.elim
  rename_i kd m hm
  rw [hm] at hnv
  obtain ⟨hnn, _⟩ := hnv.int_inv
  obtain ⟨ys, hev, hyd⟩ := elems_inv hyv _ hev
  unfold oneK at hev
  split at hev
  rotate_left
  · exact hev.elim
  rename_i y0
  obtain ⟨hy0, hev⟩ := lenK_eq _ _ _ hev
  obtain ⟨hmx, hev⟩ := hev
  obtain ⟨vs, hk1, hvn, hvs, hone⟩ := cellsOf_eq hvv _ hev
  obtain ⟨hvm, hk2⟩ := lenK_eq _ _ _ hk1
  obtain ⟨ds, hk3, hdl, hds⟩ := puresK_eq (L := L) (g := g) (rl := rl) (w := w) vs (fun j => (a.eval D.v).cells.getD j undef) (fun j x hx => hvs j x _ hx (by
    have hj : j < (a.eval D.v).cells.size := by rw [hvn]; exact (List.getElem?_eq_some_iff.1 hx).1
    simp [Array.getD_eq_getD_getElem?, hj])) _ hk2
  split at hk3
  rotate_left
  · exact hk3.elim
  rename_i b j hb
  rw [hb] at hbv
  obtain ⟨bb, hbe, hbk⟩ := hbv.ptr_inv
  split at hk3
  rotate_left
  · exact hk3.elim
  rename_i ty cs hcs
  rw [nth_eq] at hcs
  simp only [appRow] at hk3
  obtain ⟨⟨hbytes, hyes⟩, hk4⟩ := hk3
  rw [nth_eq] at hk4
  split at hk4
  rotate_left
  · exact hk4.elim
  rename_i nl key hrl
  obtain ⟨⟨hnl, hke⟩, hk5⟩ := hk4
  subst hnl
  subst hke
  obtain ⟨_, hk6⟩ := setK_eq _ _ _ _ hk5
  obtain ⟨hlen, hk7⟩ := putK_eq _ _ _ _ hk6
  obtain ⟨_, hk⟩ := setK_eq _ _ _ _ hk7
  simp only [List.length_cons, List.length_nil, Nat.zero_add] at hlen hk hbytes hrl
  rw [R.hes] at *
  rw [R.hby] at hbytes
  have hyes' : ∀ y, y ∈ [y0] → y.length = D.i.size := fun y hy => by simp at hy; rw [hy]; exact hy0
  have ty' : ∃ d, L.P.underlying D.t = some d ∧ ∀ k, d ≠ .int k := ⟨_, R.ht, fun k h => by cases h⟩
  rcases flat_of_sl hyd D.i.size hyes' with ⟨hy00, _⟩ | ⟨yb, yo, ycap, G, hyc, hyb, hycap, hymk, hG, hGc, hG1, hyG⟩
  · cases hy00
  have src : SrcOk L.P w D.t (a.eval D.y) D.i.size 1 G := by
    rw [hyc]
    exact ⟨ty', fun w' => rfl, run_firstCells_some (P := L.P) w D.i.size 1 ⟨yb, yo, none⟩ 1 ycap G (by simpa using hG) (fun j u hj => by rw [Addr.add_lit]; exact hGc j u hj),
      run_firstCells_some (P := L.P) w.drew D.i.size 1 ⟨yb, yo, none⟩ 1 ycap G (by simpa using hG) (fun j u hj => by rw [Addr.add_lit]; exact hGc j u hj)⟩
  have hlv : (a.eval D.v).cells.toList.length = D.i.size := by simp [hvn, hvm]
  obtain ⟨blk, cap, cur, tt, fr, w8, g', hrun8, hh8, hfr, hfit, hnbk, hold, hstep, hsh, hvr⟩ := tail_app R.op8 R.ht R.hi R.hz R.hzs R.hpos R.hb1 R.hkey R.hk8 h hxv hrl ds (by rw [hdl, hvm]) G (a.eval D.v).cells.toList (by simpa using hG) hG1 hlv hone
    (fun q y hq => ⟨(a.eval D.v).cells.getD q undef, by
      have hlt : q < (a.eval D.v).cells.size := by rw [hvn, ← hdl]; exact (List.getElem?_eq_some_iff.1 hq).1
      simp [Array.getD_eq_getD_getElem?, hlt], by
      have hlt : q < (a.eval D.v).cells.size := by rw [hvn, ← hdl]; exact (List.getElem?_eq_some_iff.1 hq).1
      exact hds q y hq⟩) src hbytes
  obtain ⟨hmrk, arr, ta, hh, hsz, hcell, hty⟩ := h.sh.box b _ bb hcs hbk
  have hmem : bb ∈ g.bk := List.mem_iff_getElem?.2 ⟨b, hbk⟩
  have hne : blk ≠ bb := fun e => hnbk (e ▸ hmem)
  have hoff : j + T.off < cs.length := by rcases hlen with h | h; cases h; omega
  generalize hR1 : (cur.toList.take (xs.length * D.i.size) ++ (a.eval D.v).cells.toList ++ cur.toList.drop (xs.length * D.i.size + (a.eval D.v).cells.toList.length)).toArray = R1 at *
  generalize hv8 : Value.slice (some ⟨blk, 0, none⟩) (xs.length + 1) cap = v8 at *
  let p19 : Value := .pointer (some ⟨blk, xs.length * D.i.size, none⟩)
  let p20 : Value := .pointer (some ⟨bb, j + T.off, none⟩)
  let a8 := a.put (some T.d) v8
  let A : Bool → Bool → Act := fun b9 b11 => cond b11 ((cond b9 (a8.put (some T.e) p19) a8).put (some T.q) p20) (cond b9 (a8.put (some T.e) p19) a8)
  let W : Bool → Bool → World := fun b10 b12 => cond b12 ((cond b10 (w8.setRow blk R1) w8).setRow bb (arr.setIfInBounds (j + T.off) v8)) (cond b10 (w8.setRow blk R1) w8)
  have hs8 : a8.tmps.size = n := by simp [a8, Act.put, h.size]
  have hs9 : (a8.put (some T.e) p19).tmps.size = n := by simp [Act.put, hs8]
  have t1 : ∀ {s q : Nat}, s ≠ q → Operand.tmp s ≠ .tmp q := fun h e => h (by cases e; rfl)
  have ed : ∀ b b', (A b b').eval (.tmp T.d) = v8 := fun b b' => by
    have h0 : a8.eval (.tmp T.d) = v8 := eval_same (by rw [h.size]; exact R.ltd)
    cases b <;> cases b'
    · exact h0
    · exact (eval_ne (t1 R.dq)).trans h0
    · exact (eval_ne (t1 R.de)).trans h0
    · exact (eval_ne (t1 R.dq)).trans ((eval_ne (t1 R.de)).trans h0)
  have ee : ∀ b', (A true b').eval (.tmp T.e) = p19 := fun b' => by
    have h0 : (a8.put (some T.e) p19).eval (.tmp T.e) = p19 := eval_same (by rw [hs8]; exact R.lte)
    cases b'
    · exact h0
    · exact (eval_ne (t1 R.eq)).trans h0
  have eq' : ∀ b, (A b true).eval (.tmp T.q) = p20 := fun b => by
    cases b
    · exact eval_same (by show T.q < a8.tmps.size; rw [hs8]; exact R.ltq)
    · exact eval_same (by show T.q < (a8.put (some T.e) p19).tmps.size; rw [hs9]; exact R.ltq)
  have eo : ∀ (x : Operand) b b', x ≠ .tmp T.d → x ≠ .tmp T.e → x ≠ .tmp T.q → (A b b').eval x = a.eval x := fun x b b' h1 h2 h3 => by
    have h0 : a8.eval x = a.eval x := eval_ne h1
    cases b <;> cases b'
    · exact h0
    · exact (eval_ne h3).trans h0
    · exact (eval_ne h2).trans h0
    · exact (eval_ne h3).trans ((eval_ne h2).trans h0)
  have hWk : ∀ b', (W false b').heap[blk]? = some (.cells cur tt fr) := fun b' => by
    cases b'
    · exact hh8
    · exact (setRow_other w8 bb blk _ hne).trans hh8
  have hb8 : w8.heap[bb]? = some (.cells arr ta (0, 0)) := (hold bb hmem).trans hh
  have hWb : ∀ b', (W b' false).heap[bb]? = some (.cells arr ta (0, 0)) := fun b' => by
    cases b'
    · exact hb8
    · exact (setRow_other w8 blk bb _ (Ne.symm hne)).trans hb8
  have hset : (arr.toList.take (j + T.off) ++ [v8] ++ arr.toList.drop (j + T.off + 1)).toArray = arr.setIfInBounds (j + T.off) v8 := by
    apply Array.ext'
    rw [Array.toList_setIfInBounds, List.set_eq_take_append_cons_drop, if_pos (by simp [hsz]; omega)]
    simp
  obtain ⟨fuel, rfl⟩ : ∃ f, fuel = f + 1 := ⟨fuel - 1, by omega⟩
  have hsize := R.size
  have key : wpAny L.P .any ops Q fuel (listed.setIfInBounds p true) (A false false) (W false false) := by
    refine chain R A W p19 p20 ?_ ?_ ?_ ?_ ?_ ?_ ?_ fuel false false false false _ (by simpa using hl) (fun i hi => ?_) ?_ ?_ ?_ ?_ (fun h => by cases h) (fun h => by cases h) (by have ff : fals false = 1 := rfl; omega)
    · intro b b' b''
      have h1 := ed false b
      have h2 := (eo D.nn false b R.nnd R.nne R.nnq).trans hnn
      generalize A false b = A1 at h1 h2 ⊢
      rw [← hv8] at h1
      simp [execOp, R.op9, h1, h2, Instr.indexAt, asIntOf, underlying, R.ht, hmx, sizeOf, typeInfo, R.hi, Addr.add_lit, p19]
    · intro b
      cases b
      · rfl
      · exact Act.put_comm a8 (x := some T.q) (y := some T.e) p20 p19 (fun d hd e => R.eq (Option.some.inj (e.trans hd.symm)))
    · intro b b'
      have h1 := ee b
      have h2 := eo D.v true b R.vd R.ve R.vq
      have hst := run_storeCells_fr (P := L.P) blk (xs.length * D.i.size) tt fr hfr (a.eval D.v).cells.toList 0 cur (W false b') (hWk b') (by rw [hlv]; omega) hone
      simp only [Nat.add_zero] at hst
      rw [hR1] at hst
      have hw : (W false b').setRow blk R1 = W true b' := by
        cases b'
        · rfl
        · exact setRow_comm w8 bb blk (Ne.symm hne) _ _
      rw [hw] at hst
      generalize A true b = A1 at h1 h2 ⊢
      generalize W false b' = W1 at hst ⊢
      generalize W true b' = W2 at hst ⊢
      have hcz : (a.eval D.v).cells.size = D.i.size := by rw [hvn, hvm]
      simp [execOp, R.op10, h1, h2, Instr.storeAt, Instr.sureAddr, storeVar, sizeOf, typeInfo, R.hi, hcz, hst, p19]
    · intro b b' b''
      have h1 := (eo D.base b false R.bd R.be R.bq).trans hbe
      generalize A b false = A1 at h1 ⊢
      simp [execOp, R.op11, h1, Instr.fieldAt, underlying, R.hs, R.hf, Instr.sureAddr, fieldPlace, sizeOf, typeInfo, R.hfi, R.hsz, Addr.add_lit, R.hoff, p20]
    · intro b; rfl
    · intro b b'
      have h1 := eq' b
      have h2 := ed b true
      have hst := run_storeCells_at L.P bb (j + T.off) ta [v8] 0 arr (W b' false) (hWb b') (by simp [hsz]; omega) (fun u hu => by simp at hu; rw [hu, ← hv8]; rfl)
      simp only [Nat.add_zero, List.length_cons, List.length_nil, Nat.zero_add] at hst
      rw [hset] at hst
      have hw : (W b' false).setRow bb (arr.setIfInBounds (j + T.off) v8) = W b' true := rfl
      rw [hw] at hst
      generalize A b true = A1 at h1 h2 ⊢
      generalize W b' false = W1 at hst ⊢
      generalize W b' true = W2 at hst ⊢
      have hcz : v8.cells = #[v8] := by rw [← hv8]; rfl
      simp [execOp, R.op12, h1, h2, Instr.storeAt, Instr.sureAddr, storeVar, sizeOf, typeInfo, R.hth, R.hih, hcz, hst, p20]
    · obtain ⟨s2, sh2⟩ := set_cell (L := L) hsh (i := b) (b := bb) (ty := ty) (o := j + T.off) (cs := cs) (x := .rsl (xs ++ [ds]) (.row kk)) (v := v8) (hstep.bk _ _ hbk) hcs hoff hvr
      have hb10 : (w8.setRow blk R1).heap[bb]? = some (.cells arr ta (0, 0)) := hWb true
      rw [setCell_row hb10] at s2 sh2
      have hcs2 : cs.take (j + T.off) ++ [AV.rsl (xs ++ [ds]) (.row kk)] ++ cs.drop (j + T.off + 1) = cs.set (j + T.off) (.rsl (xs ++ [ds]) (.row kk)) := by
        rw [List.set_eq_take_append_cons_drop, if_pos hoff]; simp
      rw [hcs2] at hk
      refine k _ g' _ _ (hstep.trans s2) ⟨?_, ?_, fun s => ?_, sh2⟩ hk
      · exact h.defers
      · show ((a8.put (some T.e) p19).put (some T.q) p20).tmps.size = n
        simp only [Act.put, Array.size_setIfInBounds]; exact hs8
      · show VR L g' _ _ (look ((T.q, .ptr b (j + T.off)) :: (T.e, .junk) :: (T.d, .rsl (xs ++ [ds]) (.row kk)) :: env) s) ((A true true).tmps.getD s undef)
        have hev : (A true true).tmps.getD s undef = (A true true).eval (.tmp s) := rfl
        rw [hev, look_cons]
        by_cases h1 : T.q = s
        · subst h1; rw [if_pos rfl, eq' true]; exact .ptr b _ bb (s2.bk _ _ (hstep.bk _ _ hbk))
        rw [if_neg h1, look_cons]
        by_cases h2 : T.e = s
        · subst h2; rw [if_pos rfl]; exact .junk _
        rw [if_neg h2, look_cons]
        by_cases h3 : T.d = s
        · subst h3; rw [if_pos rfl, ed true true]; exact hvr.keep s2
        rw [if_neg h3, eo (.tmp s) true true (t1 (Ne.symm h3)) (t1 (Ne.symm h2)) (t1 (Ne.symm h1))]
        exact (h.slot s).keep (hstep.trans s2)
    · rw [lst_set (by omega)]; simp only; split
      · rfl
      · exact hpre i (by omega)
    · rw [lst_set (by omega)]; simp only; rw [if_neg (by omega)]; exact htl _ (by omega)
    · rw [lst_set (by omega)]; simp only; rw [if_neg (by omega)]; exact htl _ (by omega)
    · rw [lst_set (by omega)]; simp only; rw [if_neg (by omega)]; exact htl _ (by omega)
    · rw [lst_set (by omega)]; simp only; rw [if_neg (by omega)]; exact htl _ (by omega)
  have hp0 : lst listed p = false := htl p (Nat.le_refl _)
  have hpl : p < listed.size := by omega
  refine ⟨fun hnil => ?_, fun i hi => ?_⟩
  · exfalso
    have : p ∈ Region.ready .any ops listed := by
      refine mem_ready.2 ⟨?_, D.o8, R.h8, fun e he hbd => ?_⟩
      · simp only [lst, Array.getD_eq_getD_getElem?, Array.getElem?_eq_getElem hpl] at hp0 ⊢
        exact hp0
      · exact hpre e.on (R.back p _ e (Nat.le_refl _) R.h8 he hbd)
    rw [hnil] at this; cases this
  · obtain ⟨hl0, o, ho, haf⟩ := mem_ready.1 hi
    have hio := (Array.getElem?_eq_some_iff.1 ho).1
    have hil : i < listed.size := by omega
    have hli : lst listed i = false := by
      simp only [lst, Array.getD_eq_getD_getElem?, Array.getElem?_eq_getElem hil] at hl0 ⊢
      exact hl0
    have hip : p ≤ i := by
      rcases Nat.lt_or_ge i p with h | h
      · rw [hpre i h] at hli; cases hli
      · exact h
    have no : ∀ (oo : Oper) (q : Nat), p ≤ q → o = oo → (∃ e, e ∈ oo.after ∧ Region.binds .any e = true ∧ e.on = q) → False := by
      rintro oo q hq rfl ⟨e, q1, q2, rfl⟩
      have h4 : lst listed e.on = true := haf e q1 q2
      rw [htl _ hq] at h4; cases h4
    have hcase : i = p ∨ i = p + 1 ∨ i = p + 2 ∨ i = p + 3 ∨ i = p + 4 := by omega
    rcases hcase with rfl | rfl | rfl | rfl | rfl
    · unfold wpOp
      rw [R.h8]
      simp only
      rw [show Region.wanted D.o8 (yielded ops a.tmps) = true by simp [Region.wanted, R.g8]]
      simp only [if_true]
      refine .inl (wp_value hrun8 ?_)
      rw [R.d8]
      exact key
    · rw [R.h9] at ho; cases ho; exact (no _ _ (by omega) rfl R.e9).elim
    · rw [R.h10] at ho; cases ho; exact (no _ _ (by omega) rfl R.e10).elim
    · rw [R.h11] at ho; cases ho; exact (no _ _ (by omega) rfl R.e11).elim
    · rw [R.h12] at ho; cases ho; exact (no _ _ (by omega) rfl R.e12).elim
end
end Go.Ab
