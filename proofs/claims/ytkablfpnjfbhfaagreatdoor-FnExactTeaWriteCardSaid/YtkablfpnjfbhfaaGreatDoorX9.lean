import Derived.Test.YtkablfpnjfbhfaaGreatDoorX0
import Derived.Test.YtkablfpnjfbhfaaGreatDoorX6
import Derived.Test.YtkablfpnjfbhfaaGreatDoorX7
import Derived.Test.YtkablfpnjfbhfaaGreatDoorX8
import Derived.ChangeSame
import Derived.ReadAgain
namespace Go.Ab
open Go
def c401 : AF :=
 { np := 1, nt := 5, res := [.t 2], body := (.seq (zr [zs 2 (.mov (.k (.bool false)))]) (.seq (zr [zm 3 0, zs 4 (.call 163 [.t 3, (zi (-999999999)), (zi 999999999)]), zm 2 4]) .ret)) }
def c402 : AF :=
 { np := 1, nt := 29, res := [.t 2], body := (.seq (zr [zs 2 (.mov (.k (.bool false)))]) (.seq (.seq (zr [zm 4 0, zs 5 (.lenS (.t 4)), zs 6 (.mov (zi 0))]) (.block 0 (.loop (.seq (zr [zs 7 (.bini .i64 .lss (.t 6) (.t 5))]) (.seq (.cond (.t 7) .skip (.exit 0)) (.seq (.block 1 (.seq (zr [zm 8 6, zm 3 8]) (.seq (zr [zm 9 0, zm 10 3, zs 11 (.idxS (.t 9) (.t 10)), zs 12 (.bini .u8 .lss (.t 11) (.k (.int .u8 32))), zm 13 12, ⟨(some 14), (some (13, false)), .mov (.t 0)⟩, ⟨(some 15), (some (13, false)), .mov (.t 3)⟩, ⟨(some 16), (some (13, false)), .idxS (.t 14) (.t 15)⟩, ⟨(some 17), (some (13, false)), .bini .u8 .gtr (.t 16) (.k (.int .u8 126))⟩, zs 18 (.pick (.t 13) (.k (.bool true)) (.t 17)), zm 19 18, ⟨(some 20), (some (19, false)), .mov (.t 0)⟩, ⟨(some 21), (some (19, false)), .mov (.t 3)⟩, ⟨(some 22), (some (19, false)), .idxS (.t 20) (.t 21)⟩, ⟨(some 23), (some (19, false)), .bini .u8 .eql (.t 22) (.k (.int .u8 34))⟩, zs 24 (.pick (.t 19) (.k (.bool true)) (.t 23))]) (.cond (.t 24) (.seq (zr [zs 2 (.mov (.k (.bool false)))]) .ret) .skip)))) (zr [zs 25 (.bini .i64 .add (.t 6) (zi 1)), zm 6 25]))))))) (.seq (zr [zm 26 0, zs 27 (.lenS (.t 26)), zs 28 (.bini .i64 .leq (.t 27) (zi 60)), zm 2 28]) .ret))) }
def c413 : AF :=
 { np := 2, nt := 18, res := [.t 4], body := (.seq (zr [zs 4 (.mov (.k (.bool false)))]) (.seq (zr [zm 5 0, zs 6 (.lenS (.t 5)), zm 7 1, zs 8 (.lenS (.t 7)), zs 9 (.bini .i64 .geq (.t 6) (.t 8)), zm 10 9, ⟨(some 11), (some (10, true)), .mov (.t 0)⟩, ⟨(some 12), (some (10, true)), .mov (.t 1)⟩, ⟨(some 13), (some (10, true)), .lenS (.t 12)⟩, ⟨(some 14), (some (10, true)), .cutS (.t 11) none (some (.t 13))⟩, ⟨(some 15), (some (10, true)), .mov (.t 1)⟩, ⟨(some 16), (some (10, true)), .bins .eql (.t 14) (.t 15)⟩, zs 17 (.pick (.t 10) (.t 16) (.k (.bool false))), zm 4 17]) .ret)) }
def c414 : AF :=
 { np := 2, nt := 19, res := [.t 4], body := (.seq (zr [zs 4 (.mov (zi 0))]) (.seq (.seq (zr [zm 6 0, zs 7 (.lenL (.t 6)), zs 8 (.mov (zi 0))]) (.block 0 (.loop (.seq (zr [zs 9 (.bini .i64 .lss (.t 8) (.t 7))]) (.seq (.cond (.t 9) .skip (.exit 0)) (.seq (.block 1 (.seq (zr [zm 10 8, zm 5 10]) (.seq (zr [zm 11 1, zm 12 0, zm 13 5, zs 14 (.iaddrL 2 (.t 12) (.t 13)), zs 15 (.load 2 true (.t 14)), zs 16 (.callv (.t 11) [.t 15])]) (.cond (.t 16) (.seq (zr [zm 17 5, zm 4 17]) .ret) .skip)))) (zr [zs 18 (.bini .i64 .add (.t 8) (zi 1)), zm 8 18]))))))) (.seq (zr [zs 4 (.mov (zi (-1)))]) .ret))) }
def c415 : AF :=
 { np := 2, nt := 8, res := [.t 3], body := (.seq (zr [zs 2 (.box (.t 0)), zs 3 (.mov (.k (.bool false)))]) (.seq (zr [zf 4 0 2, zl 5 1 4, zl 6 1 1, zs 7 (.bins .eql (.t 5) (.t 6)), zm 3 7]) .ret)) }
end Go.Ab
namespace Go.Ab
open Go
set_option maxHeartbeats 4000000
attribute [local irreducible] Need IdxK FinK NextK CKs CQs ltS
def K_in (L : Lk) (f : Nat) : Prop := ∀ n a b : Int, CP L f [.d (.int .i64 n), .d (.int .i64 a), .d (.int .i64 b)] (.d (.bool (pb (a ≤ n ∧ n ≤ b))))
theorem k_in65 {L : Lk} (hf : FnR L 65 c65) : K_in L 65 := by
  intro n a b
  refine CP.enter hf rfl rfl rfl ?_
  repeat' ((conv => whnf); first | refine zM (fun _ => ?_) (fun _ => ?_) | fail)
  all_goals (conv => whnf)
  all_goals exact yL (by simp; try omega)
theorem k_in163 {L : Lk} (hf : FnR L 163 c163) : K_in L 163 := by
  intro n a b
  refine CP.enter hf rfl rfl rfl ?_
  repeat' ((conv => whnf); first | refine zM (fun _ => ?_) (fun _ => ?_) | fail)
  all_goals (conv => whnf)
  all_goals exact yL (by simp; try omega)
def decN (n : Nat) : List UInt8 := if n < 10 then [UInt8.ofNat (48 + n)] else decN (n / 10) ++ [UInt8.ofNat (48 + n % 10)]
def dec (n : Int) : List UInt8 := if n < 0 then 45 :: decN n.natAbs else decN n.toNat
theorem decN_len (k : Nat) : ∀ n : Nat, n < 10 ^ (k + 1) → (decN n).length ≤ k + 1 := by
  induction k with
  | zero => intro n h; rw [decN, if_pos (by omega)]; simp
  | succ k ih =>
    intro n h
    rw [decN]
    split
    · simp
    · have := ih (n / 10) (by rw [Nat.pow_succ] at h; omega)
      simp; omega
theorem dec_len {n : Int} (h : inR .i64 n) : (dec n).length ≤ 20 := by
  obtain ⟨h1, h2⟩ := h
  unfold dec
  split
  · have := decN_len 18 n.natAbs (by omega)
    simp; omega
  · have := decN_len 18 n.toNat (by omega)
    omega
def K_l6Dec (L : Lk) : Prop := ∀ n : Int, inR .i64 n → CP L 77 [.d (.int .i64 n)] (.d (.str (dec n)))
theorem k_l6Dec_pos {L : Lk} (hf : FnR L 77 c77) (m : Nat) : (m : Int) ≤ 9223372036854775807 → CP L 77 [.d (.int .i64 m)] (.d (.str (decN m))) := by
  induction m using Nat.strongRecOn with
  | ind m ih =>
  intro hm
  refine CP.enter hf rfl rfl rfl ?_
  conv => whnf
  refine zJ (fun h => ?_) (fun h => ?_)
  · have hlt := ilt_true h
    conv => whnf
    refine zA (fun x hx => ⟨_, List.mem_singleton.1 hx⟩) ?_
    conv => whnf
    have e : IntKind.u8.wrap (IntKind.i64.wrap (48 + (m : Int))) = ((48 + m : Nat) : Int) := by
      rw [wrap64 (by omega), wrap8 (by omega)]; omega
    refine yJ ?_
    rw [e, decN, if_pos (by omega)]
    rfl
  · have hlt := ilt_false h
    conv => whnf
    refine zA (by decide) ?_
    conv => whnf
    have e : IntKind.i64.wrap ((m : Int).tdiv 10) = ((m / 10 : Nat) : Int) := by
      rw [Int.tdiv_eq_ediv_of_nonneg (by omega), wrap64 (by omega)]; omega
    refine zC (by rw [e]; exact ih (m / 10) (by omega) (by omega)) ?_
    conv => whnf
    refine zA (by decide) ?_
    conv => whnf
    refine zA (fun x hx => ⟨_, List.mem_singleton.1 hx⟩) ?_
    conv => whnf
    have e2 : IntKind.u8.wrap (IntKind.i64.wrap (48 + (m : Int).tmod 10)) = ((48 + m % 10 : Nat) : Int) := by
      rw [Int.tmod_eq_emod_of_nonneg (by omega), wrap64 (by omega), wrap8 (by omega)]; omega
    have hl := decN_len 18 (m / 10) (by omega)
    refine zA ?_ ?_
    · simp; omega
    conv => whnf
    refine yJ ?_
    rw [e2]
    conv => rhs; rw [decN, if_neg (show ¬ m < 10 by omega)]
    rfl
theorem k_l6Dec {L : Lk} (hf : FnR L 77 c77) : K_l6Dec L := by
  intro n hn
  by_cases h0 : n < 0
  · refine CP.enter hf rfl rfl rfl ?_
    have hlow : -9223372036854775808 ≤ n := hn.1
    conv => whnf
    refine zJ (fun h => ?_) (fun h => ?_)
    · have := ilt_true h
      have hn' : n = -9223372036854775808 := by omega
      subst hn'
      conv => whnf
      refine yJ ?_
      rw [dec, if_pos (by omega)]
      simp [decN]
    · have hge := ilt_false h
      conv => whnf
      refine zJ (fun h => ?_) (fun h => ?_)
      · conv => whnf
        have e : IntKind.i64.wrap (0 - n) = (n.natAbs : Int) := by rw [wrap64 (by omega)]; omega
        refine zB (by rw [e]; exact k_l6Dec_pos hf n.natAbs (by omega)) ?_
        conv => whnf
        have hl := decN_len 18 n.natAbs (by omega)
        refine zA (by simp; omega) ?_
        conv => whnf
        refine yJ ?_
        rw [dec, if_pos h0]
        rfl
      · have := ilt_false h; omega
  · obtain ⟨m, rfl⟩ := Int.eq_ofNat_of_zero_le (show 0 ≤ n by omega)
    have := k_l6Dec_pos hf m hn.2
    rw [dec, if_neg h0]
    exact this
def encI (l : List Int) : List (List DV) := l.map fun n => [.int .i64 n]
theorem lenIs' (l : List Int) : (encI l).length = l.length := by simp [encI]
theorem idx_I {xs : List Int} {i : Nat} {K : List DV → Prop} (h : i < xs.length) (k : K [.int .i64 xs[i]]) : IdxK (encI xs) (i : Int) K := idx_m h k
def numOk (n : Int) : Prop := 0 ≤ n ∧ n ≤ 999999
def numsOk (l : List Int) : Prop := AllB l.length fun i => ∀ h : i < l.length, numOk l[i]
def K_nums (L : Lk) (f : Nat) : Prop := ∀ l : List Int, CP L f [.d (.sl (encI l))] (.d (.bool (pb (numsOk l))))
theorem k_l85Nums {L : Lk} (hf : FnR L 67 c67) (hIn : K_in L 65) : K_nums L 67 := by
  intro l
  refine CP.enter hf rfl rfl rfl ?_
  repeat' ((conv => whnf); first | (rw [lenIs']; intro _) | refine zI (fun _ => ?_) (fun _ => ?_) | refine zO (fun _ => ?_) (fun _ => ?_) | refine zA (by first | omega | exact rfl | decide) ?_ | refine zB (hIn _ _ _) ?_ | refine idx_I (by omega) ?_ | refine ih _ (by omega) (hI.snoc fun _ => Pf.get ?_) (by refine ⟨?_, ?_, ?_⟩ <;> (repeat' (first | exact trivial | exact yM (by omega) | exact rfl | apply And.intro))) | ((fail_if_success (have _h := ih)); refine LW.count l.length (fun i => AllB i fun j => ∀ h : j < l.length, numOk l[j]) (fun i => ⟨[(3, .d (.int .i64 i)), (0, .d (.sl (encI l)))], 0, [], []⟩) (fun _ => ⟨rfl, rfl, rfl⟩) (fun i hi hI ih => ?_) (.zero) _ (by refine ⟨?_, ?_, ?_⟩ <;> (repeat' (first | exact trivial | exact rfl | apply And.intro)))) | fail)
  all_goals (conv => whnf)
  all_goals try first
    | exact fin_n fun h => by have := h i (by omega) (by omega); clear ih; unfold numOk at this; omega
    | exact ⟨by unfold numOk; omega⟩
    | exact fin_y fun j hj h => hI j (by omega) h
end Go.Ab
namespace Go.Ab
open Go
set_option maxHeartbeats 4000000
attribute [local irreducible] Need IdxK FinK NextK CKs CQs ltS
def chLow (c : UInt8) : Prop := 97 ≤ c.toNat ∧ c.toNat ≤ 122
def chOk (c : UInt8) : Prop := chLow c ∨ (48 ≤ c.toNat ∧ c.toNat ≤ 57)
def nameOk (s : Str) : Prop := (1 ≤ s.length ∧ s.length ≤ 8) ∧ AllB s.length fun i => ∀ h : i < s.length, chOk s[i] ∧ (i = 0 → chLow s[i])
def K_name (L : Lk) (f : Nat) : Prop := ∀ s : Str, CP L f [.d (.str s)] (.d (.bool (pb (nameOk s))))
theorem k_l6NameOk {L : Lk} (hf : FnR L 68 c68) (hIn : K_in L 65) : K_name L 68 := by
  intro s
  refine CP.enter hf rfl rfl rfl ?_
  repeat' ((conv => whnf); first | refine zI (fun _ => ?_) (fun _ => ?_) | refine zM (fun _ => ?_) (fun _ => ?_) | refine zO (fun _ => ?_) (fun _ => ?_) | intro _ | refine yH (by omega) ?_ | refine yI (by omega) ?_ | refine zB (hIn _ _ _) ?_ | refine ih _ (by omega) (hI.snoc fun _ => Pf.get ?_) (by refine ⟨?_, ?_, ?_⟩ <;> (repeat' (first | exact trivial | exact yM (by omega) | exact rfl | apply And.intro))) | (exfalso; omega) | ((fail_if_success (have _h := ih)); refine LW.count s.length (fun i => AllB i fun j => ∀ h : j < s.length, chOk s[j]) (fun i => ⟨[(3, .d (.int .i64 i)), (0, .d (.str s))], 0, [], []⟩) (fun _ => ⟨rfl, rfl, rfl⟩) (fun i hi hI ih => ?_) (.zero) _ (by refine ⟨?_, ?_, ?_⟩ <;> (repeat' (first | exact trivial | exact rfl | apply And.intro)))) | fail)
  all_goals (conv => whnf)
  all_goals try first
    | exact fin_n fun h => by have := h.1; omega
    | exact fin_n fun h => by have := (h.2 0 (by omega) (by omega)).2 rfl; unfold chLow at this; omega
    | exact fin_n fun h => by have := (h.2 i (by omega) (by omega)).1; unfold chOk chLow at this; omega
    | exact ⟨by unfold chOk chLow; omega⟩
    | exact fin_y ⟨by omega, fun j hj h => ⟨hI j (by omega) h, fun e => by subst e; unfold chLow; omega⟩⟩
theorem k_isName {L : Lk} (hf : FnR L 89 c89) (hIn : K_in L 163) : K_name L 89 := by
  intro s
  refine CP.enter hf rfl rfl rfl ?_
  repeat' ((conv => whnf); first | refine zI (fun _ => ?_) (fun _ => ?_) | refine zM (fun _ => ?_) (fun _ => ?_) | refine zG (fun _ => ?_) (fun _ => ?_) | intro _ | refine yI (by omega) ?_ | refine zB (hIn _ _ _) ?_ | refine ih _ (by omega) (hI.snoc fun _ => Pf.get ?_) (by refine ⟨?_, ?_, ?_⟩ <;> (repeat' (first | exact trivial | exact yM (by omega) | exact rfl | apply And.intro))) | (exfalso; omega) | ((fail_if_success (have _h := ih)); refine LW.count s.length (fun i => AllB i fun j => ∀ h : j < s.length, chOk s[j] ∧ (j = 0 → chLow s[j])) (fun i => ⟨[(7, .d (.int .i64 i)), (0, .d (.str s)), (6, .d (.int .i64 s.length))], 0, [], []⟩) (fun _ => ⟨rfl, rfl, rfl⟩) (fun i hi hI ih => ?_) (.zero) _ (by refine ⟨?_, ?_, ?_⟩ <;> (repeat' (first | exact trivial | exact rfl | apply And.intro)))) | fail)
  all_goals (conv => whnf)
  all_goals try first
    | exact fin_n fun h => by have := (h.2 i (by omega) (by omega)); unfold chOk chLow at this; omega
    | exact ⟨by unfold chOk chLow; omega⟩
    | exact yL (by simp only [pb_iff]; exact ⟨fun k => ⟨by omega, fun j hj h => hI j (by omega) h⟩, fun k => by have := k.1; omega⟩)
def chText (c : UInt8) : Prop := 32 ≤ c.toNat ∧ c.toNat ≤ 126 ∧ c.toNat ≠ 34
def textOk (s : Str) : Prop := s.length ≤ 60 ∧ AllB s.length fun i => ∀ h : i < s.length, chText s[i]
def K_text (L : Lk) (f : Nat) : Prop := ∀ s : Str, CP L f [.d (.str s)] (.d (.bool (pb (textOk s))))
theorem k_l1TextOk {L : Lk} (hf : FnR L 362 c362) : K_text L 362 := by
  intro s
  refine CP.enter hf rfl rfl rfl ?_
  repeat' ((conv => whnf); first | refine zI (fun _ => ?_) (fun _ => ?_) | refine zG (fun _ => ?_) (fun _ => ?_) | intro _ | refine yI (by omega) ?_ | refine ih _ (by omega) (hI.snoc fun _ => Pf.get ?_) (by refine ⟨?_, ?_, ?_⟩ <;> (repeat' (first | exact trivial | exact yM (by omega) | exact rfl | apply And.intro))) | ((fail_if_success (have _h := ih)); refine LW.count s.length (fun i => AllB i fun j => ∀ h : j < s.length, chText s[j]) (fun i => ⟨[(3, .d (.int .i64 i)), (0, .d (.str s))], 0, [], []⟩) (fun _ => ⟨rfl, rfl, rfl⟩) (fun i hi hI ih => ?_) (.zero) _ (by refine ⟨?_, ?_, ?_⟩ <;> (repeat' (first | exact trivial | exact rfl | apply And.intro)))) | fail)
  all_goals (conv => whnf)
  all_goals try first
    | exact fin_n fun h => by have := h.1; omega
    | exact fin_n fun h => by have := (h.2 i (by omega) (by omega)); unfold chText at this; omega
    | exact ⟨by unfold chText; omega⟩
    | exact fin_y ⟨by omega, fun j hj h => hI j (by omega) h⟩
theorem k_isText {L : Lk} (hf : FnR L 402 c402) : K_text L 402 := by
  intro s
  refine CP.enter hf rfl rfl rfl ?_
  repeat' ((conv => whnf); first | refine zI (fun _ => ?_) (fun _ => ?_) | refine zG (fun _ => ?_) (fun _ => ?_) | intro _ | refine yI (by omega) ?_ | refine ih _ (by omega) (hI.snoc fun _ => Pf.get ?_) (by refine ⟨?_, ?_, ?_⟩ <;> (repeat' (first | exact trivial | exact yM (by omega) | exact rfl | apply And.intro))) | ((fail_if_success (have _h := ih)); refine LW.count s.length (fun i => AllB i fun j => ∀ h : j < s.length, chText s[j]) (fun i => ⟨[(6, .d (.int .i64 i)), (0, .d (.str s)), (5, .d (.int .i64 s.length))], 0, [], []⟩) (fun _ => ⟨rfl, rfl, rfl⟩) (fun i hi hI ih => ?_) (.zero) _ (by refine ⟨?_, ?_, ?_⟩ <;> (repeat' (first | exact trivial | exact rfl | apply And.intro)))) | fail)
  all_goals (conv => whnf)
  all_goals try first
    | exact fin_n fun h => by have := (h.2 i (by omega) (by omega)); unfold chText at this; omega
    | exact ⟨by unfold chText; omega⟩
    | exact yL (by simp only [ile_iff]; exact ⟨fun k => ⟨by omega, fun j hj h => hI j (by omega) h⟩, fun k => by have := k.1; omega⟩)
def rise (l : List Str) : Prop := AllB l.length fun i => ∀ h : i < l.length, nameOk l[i] ∧ ∀ _ : 0 < i, ltS l[i - 1] l[i] = true
def K_rise (L : Lk) (f : Nat) : Prop := ∀ l : List Str, CP L f [.d (.sl (encS l))] (.d (.bool (pb (rise l))))
theorem k_l1Rise {L : Lk} (hf : FnR L 238 c238) (hN : K_name L 68) : K_rise L 238 := by
  intro l
  refine CP.enter hf rfl rfl rfl ?_
  repeat' ((conv => whnf); first | refine zI (fun _ => ?_) (fun _ => ?_) | refine zO (fun _ => ?_) (fun _ => ?_) | refine zH ?_ | refine zJ (fun _ => ?_) (fun _ => ?_) | (rw [zX]; intro _) | refine zA (by first | omega | exact rfl | decide) ?_ | refine yE (by omega) ?_ | refine yD (by omega) (by omega) (by omega) ?_ | refine zC (hN _) ?_ | refine ih _ (by omega) (hI.snoc fun _ => Pf.get ?_) (by refine ⟨?_, ?_, ?_⟩ <;> (repeat' (first | exact trivial | exact yM (by omega) | exact rfl | apply And.intro))) | ((fail_if_success (have _h := ih)); refine LW.count l.length (fun i => AllB i fun j => ∀ h : j < l.length, nameOk l[j] ∧ ∀ _ : 0 < j, ltS l[j - 1] l[j] = true) (fun i => ⟨[(3, .d (.int .i64 i)), (0, .d (.sl (encS l)))], 0, [], []⟩) (fun _ => ⟨rfl, rfl, rfl⟩) (fun i hi hI ih => ?_) (.zero) _ (by refine ⟨?_, ?_, ?_⟩ <;> (repeat' (first | exact trivial | exact rfl | apply And.intro)))) | fail)
  all_goals (conv => whnf)
  all_goals try first
    | exact fin_n fun h => by have := h i (by omega) (by omega); clear ih; grind
    | exact ⟨by clear ih; grind⟩
    | exact fin_y fun j hj h => hI j (by omega) h
theorem k_areNames {L : Lk} (hf : FnR L 314 c314) (hN : K_name L 89) : K_rise L 314 := by
  intro l
  refine CP.enter hf rfl rfl rfl ?_
  repeat' ((conv => whnf); first | refine zI (fun _ => ?_) (fun _ => ?_) | refine zO (fun _ => ?_) (fun _ => ?_) | refine zH ?_ | refine zJ (fun _ => ?_) (fun _ => ?_) | (rw [zX]; intro _) | refine zA (by first | omega | exact rfl | decide) ?_ | refine yE (by omega) ?_ | refine yD (by omega) (by omega) (by omega) ?_ | refine zB (hN _) ?_ | refine ih _ (by omega) (hI.snoc fun _ => Pf.get ?_) (by refine ⟨?_, ?_, ?_⟩ <;> (repeat' (first | exact trivial | exact yM (by omega) | exact rfl | apply And.intro))) | ((fail_if_success (have _h := ih)); refine LW.count l.length (fun i => AllB i fun j => ∀ h : j < l.length, nameOk l[j] ∧ ∀ _ : 0 < j, ltS l[j - 1] l[j] = true) (fun i => ⟨[(7, .d (.int .i64 i)), (0, .d (.sl (encS l))), (5, .d (.sl (encS l))), (6, .d (.int .i64 l.length))], 0, [], []⟩) (fun _ => ⟨rfl, rfl, rfl⟩) (fun i hi hI ih => ?_) (.zero) _ (by refine ⟨?_, ?_, ?_⟩ <;> (repeat' (first | exact trivial | exact rfl | apply And.intro)))) | fail)
  all_goals (conv => whnf)
  all_goals try first
    | exact fin_n fun h => by have := h i (by omega) (by omega); clear ih; grind
    | exact ⟨by clear ih; grind⟩
    | exact fin_y fun j hj h => hI j (by omega) h
end Go.Ab
namespace Go.Ab
open Go
set_option maxHeartbeats 4000000
attribute [local irreducible] Need IdxK FinK NextK CKs CQs ltS
def aloneT (t : Nd) : Prop :=
  (t.sort = 1 ∧ (-999999999 ≤ t.num ∧ t.num ≤ 999999999) ∧ t.text = [] ∧ t.names.length = 0 ∧ t.kids.length = 0) ∨
  (t.sort = 2 ∧ t.num = 0 ∧ textOk t.text ∧ t.names.length = 0 ∧ t.kids.length = 0) ∨
  (t.sort = 3 ∧ (0 ≤ t.num ∧ t.num ≤ 1) ∧ t.text = [] ∧ t.names.length = 0 ∧ t.kids.length = 0) ∨
  (t.sort = 4 ∧ t.num = 0 ∧ t.text = [] ∧ t.names.length = 0 ∧ t.kids.length ≤ 20) ∨
  (t.sort = 5 ∧ t.num = 0 ∧ t.text = [] ∧ t.names.length = t.kids.length ∧ rise t.names) ∨
  (t.sort = 6 ∧ t.num = 0 ∧ t.text = [] ∧ t.names.length = 0 ∧ t.kids.length ≤ 1)
def K_aloneT (L : Lk) (f : Nat) : Prop := ∀ t : Nd, CP L f [aT t] (.d (.bool (pb (aloneT t))))
theorem k_l1Alone {L : Lk} (hf : FnR L 311 c311) (hIn : K_in L 65) (hT : K_text L 362) (hR : K_rise L 238) : K_aloneT L 311 := by
  intro t
  refine CP.enter hf rfl rfl rfl ?_
  repeat' ((conv => whnf); first | refine zG (fun _ => ?_) (fun _ => ?_) | refine zF (fun _ => ?_) (fun _ => ?_) | refine zO (fun _ => ?_) (fun _ => ?_) | (rw [zY]; intro _) | (rw [zX]; intro _) | refine zB (hIn _ _ _) ?_ | refine zB (hT _) ?_ | refine zB (hR _) ?_ | fail)
  all_goals (conv => whnf)
  all_goals try first
    | exact yL (by simp only [aloneT, ieq_iff, ile_iff, pb_iff]; grind)
theorem k_shapeOkT {L : Lk} (hf : FnR L 364 c364) (hIn : K_in L 163) (hT : K_text L 402) (hR : K_rise L 314) (hN : K_in L 163) (hNum : ∀ n : Int, CP L 401 [.d (.int .i64 n)] (.d (.bool (pb (-999999999 ≤ n ∧ n ≤ 999999999))))) : K_aloneT L 364 := by
  intro t
  refine CP.enter hf rfl rfl rfl ?_
  repeat' ((conv => whnf); first | (rw [wrap64 (by omega)]) | refine zG (fun _ => ?_) (fun _ => ?_) | refine zF (fun _ => ?_) (fun _ => ?_) | refine zO (fun _ => ?_) (fun _ => ?_) | (rw [zY]; intro _) | (rw [zX]; intro _) | refine zB (hIn _ _ _) ?_ | refine zB (hT _) ?_ | refine zB (hR _) ?_ | refine zB (hNum _) ?_ | fail)
  all_goals (conv => whnf)
  all_goals try first
    | exact yL (by simp only [aloneT, ieq_iff, ile_iff]; grind)
theorem k_isNum {L : Lk} (hf : FnR L 401 c401) (hIn : K_in L 163) : ∀ n : Int, CP L 401 [.d (.int .i64 n)] (.d (.bool (pb (-999999999 ≤ n ∧ n ≤ 999999999)))) := by
  intro n
  refine CP.enter hf rfl rfl rfl ?_
  repeat' ((conv => whnf); first | refine zB (hIn _ _ _) ?_ | fail)
  all_goals (conv => whnf)
  all_goals try exact yJ rfl
noncomputable def partsV (mx : Nat) (p : Prop) (n : Nat) : Int := if pb (p ∧ n ≤ mx) = true then n else -1
theorem partsV_y {mx : Nat} {p : Prop} {n : Nat} (h : p ∧ n ≤ mx) : partsV mx p n = n := by rw [partsV, if_pos (pb_t h)]
theorem partsV_n {mx : Nat} {p : Prop} {n : Nat} (h : ¬ (p ∧ n ≤ mx)) : partsV mx p n = -1 := by rw [partsV, pb_f h]; rfl
theorem callPV {L : Lk} {f : Nat} {args : List AV} {mx : Nat} {p : Prop} {n : Nat} {nb : Nat} {bx : List Bx} {rl : List (Nat × Nat)} {K : AV → Nat → List Bx → List (Nat × Nat) → Prop}
    (h : CP L f args (.d (.int .i64 (partsV mx p n)))) (h1 : p ∧ n ≤ mx → K (.d (.int .i64 n)) nb bx rl) (h2 : ¬ (p ∧ n ≤ mx) → K (.d (.int .i64 (-1))) nb bx rl) : CKs L f args nb bx rl K := by
  by_cases hp : p ∧ n ≤ mx
  · rw [partsV_y hp] at h; exact zB h (h1 hp)
  · rw [partsV_n hp] at h; exact zB h (h2 hp)
def alT : Bool → Nd → Prop := fun _ t => aloneT t
def kaT : Nd → Nat → Bool := fun _ _ => false
def okT (d : Int) (t : Nd) : Prop := OkG alT kaT 6 false d t
theorem okT_kid {d : Int} {t : Nd} {m i : Nat} (h : okT d t ∧ t.size ≤ m) (hi : i < t.kids.length) : okT (d + 1) t.kids[i] ∧ 1 + sizes (t.kids.take i) + t.kids[i].size ≤ m := ⟨(OkG.kid h hi).1, (OkG.kid h hi).2.1⟩
theorem okT_top {d : Int} {t : Nd} (h : okT d t) : d ≤ 6 ∧ aloneT t := ⟨(OkG.iff.1 h).1, (OkG.iff.1 h).2.1⟩
theorem okT_done {d : Int} {t : Nd} {i : Nat} (hd : d ≤ 6) (ha : aloneT t) (hi : t.kids.length ≤ i) (hk : AllB i fun j => ∀ h : j < t.kids.length, okT (d + 1) t.kids[j]) : okT d t ∧ t.size = 1 + sizes (t.kids.take i) := OkG.done hd ha hi hk
theorem k_l1Parts {L : Lk} (hf : FnR L 237 c237) (hA : K_aloneT L 311) : ∀ (t : Nd) (d : Int), 0 ≤ d ∧ d ≤ 7 → CP L 237 [aT t, .d (.int .i64 d)] (.d (.int .i64 (partsV 120 (okT d t) t.size))) := by
  refine Nd.ind fun t ihT => ?_
  intro d hd
  refine CP.enter hf rfl rfl rfl ?_
  repeat' ((conv => whnf); first | (rw [wrap64 (by omega)]) | refine zI (fun _ => ?_) (fun _ => ?_) | refine zO (fun _ => ?_) (fun _ => ?_) | (rw [zY]; intro _) | refine zA (by first | omega | exact rfl | decide) ?_ | refine yF (by omega) ?_ | refine zB (hA _) ?_ | refine callPV (ihT _ (List.getElem_mem (by omega)) (d + 1) (by omega)) (fun hk => ?_) (fun hk => ?_) | refine ih _ (by omega) (Pf.get ?_) (by refine ⟨?_, ?_, ?_⟩ <;> (repeat' (first | exact trivial | (refine zW ?_; (try rw [wrap64 (by omega)]); rw [sizes_take (by omega)]; omega) | exact rfl | exact Nat.le_of_ble_eq_true rfl | exact Or.inl rfl | apply And.intro))) | ((fail_if_success (have _h := ih)); refine LW.count t.kids.length (fun i => (AllB i fun j => ∀ h : j < t.kids.length, okT (d + 1) t.kids[j]) ∧ 1 + sizes (t.kids.take i) ≤ 120) (fun i => ⟨[(6, .d (.int .i64 i)), (1, .d (.int .i64 d)), (5, .d (.int .i64 ((1 + sizes (t.kids.take i) : Nat) : Int))), (2, .ptr 0 0)], 1, [.var 0 [.d (.int .i64 t.sort), .d (.int .i64 t.num), .d (.str t.text), .d (.sl (encS t.names)), .d (.sl (t.kids.map cT))]], []⟩) (fun _ => ⟨rfl, rfl, rfl⟩) (fun i hi hI ih => ?_) (Pf.get ?_) _ (by refine ⟨?_, ?_, ?_⟩ <;> (repeat' (first | exact trivial | exact rfl | exact Nat.le_of_ble_eq_true rfl | exact Or.inl rfl | apply And.intro)))) | fail)
  all_goals (conv => whnf)
  all_goals try first
    | exact yJ (congrArg _ (partsV_n (fun h => by have h1 := okT_kid (i := i) h (by omega); first | exact hk ⟨h1.1, by omega⟩ | (have := hk.2; omega))).symm)
    | exact yJ (congrArg _ (partsV_n (fun h => by have h1 := okT_top h.1; grind)).symm)
    | exact ⟨⟨.zero, by simp [sizes]⟩⟩
    | exact ⟨⟨hI.1.snoc fun _ => hk.1, by rw [sizes_take (by omega)]; omega⟩⟩
    | (have h1 := okT_done (i := i) (d := d) (t := t) (by omega) (by assumption) (by omega) hI.1
       exact yJ (congrArg _ (by rw [partsV_y ⟨h1.1, by omega⟩]; omega)))
def K_look (L : Lk) (f : Nat) (a : Nd → AV) (mx mp : Nat) (ok : Int → Nd → Prop) (t : Nd) : Prop := ∀ (d : Int) (p : Nat), 0 ≤ d ∧ d ≤ mx + 1 → p ≤ mp →
  (ok d t ∧ p + t.size ≤ mp → CT L f [a t, .d (.int .i64 d), .ptr 0 0] 1 [.var 0 [.d (.int .i64 p)]] [] (.d (.bool true)) 1 [.var 0 [.d (.int .i64 ((p + t.size : Nat) : Int))]] []) ∧
  (¬ (ok d t ∧ p + t.size ≤ mp) → CT L f [a t, .d (.int .i64 d), .ptr 0 0] 1 [.var 0 [.d (.int .i64 p)]] [] (.d (.bool false)) 1 [.var 0 [.junk]] [])
theorem k_lookT {L : Lk} (hf : FnR L 313 c313) (hA : K_aloneT L 364) : ∀ t : Nd, K_look L 313 aT 6 120 okT t := by
  refine Nd.ind fun t ihT => ?_
  intro d p hd hp
  refine ⟨fun hok => ?_, fun hno => ?_⟩
  · refine CT.enter hf rfl (Nat.le_refl _) (Nat.le_refl _) ?_
    repeat' ((conv => whnf); first | (rw [wrap64 (by omega)]) | refine zI (fun _ => ?_) (fun _ => ?_) | refine zO (fun _ => ?_) (fun _ => ?_) | (rw [zY]; intro _) | refine zA (by first | omega | exact rfl | decide) ?_ | refine yF (by omega) ?_ | refine zB (hA _) ?_ | refine zD ((ihT _ (List.getElem_mem (by omega)) (d + 1) (p + 1 + sizes (t.kids.take i)) (by omega) (by have := okT_kid (i := i) (m := 120 - p) ⟨hok.1, by omega⟩ (by omega); omega)).1 (by have := okT_kid (i := i) (m := 120 - p) ⟨hok.1, by omega⟩ (by omega); exact ⟨this.1, by omega⟩)) [0] [] rfl rfl rfl rfl rfl ⟨rfl, trivial⟩ trivial ?_ | refine ih _ (by omega) (trivial) (by refine ⟨?_, ?_, ?_⟩ <;> (repeat' (first | exact trivial | (refine zW ?_; rw [sizes_take (by omega)]; omega) | (refine zW ?_; simp) | exact rfl | exact Nat.le_of_ble_eq_true rfl | exact Or.inl rfl | apply And.intro))) | ((fail_if_success (have _h := ih)); refine LW.count t.kids.length (fun i => True) (fun i => ⟨[(30, .d (.int .i64 i)), (1, .d (.int .i64 d)), (2, .ptr 0 0), (28, .d (.sl (t.kids.map cT))), (29, .d (.int .i64 t.kids.length))], 1, [.var 0 [.d (.int .i64 ((p + 1 + sizes (t.kids.take i) : Nat) : Int))]], []⟩) (fun _ => ⟨rfl, rfl, rfl⟩) (fun i hi hI ih => ?_) (trivial) _ (by refine ⟨?_, ?_, ?_⟩ <;> (repeat' (first | exact trivial | (refine zW ?_; simp [sizes]) | exact rfl | exact Nat.le_of_ble_eq_true rfl | exact Or.inl rfl | apply And.intro)))) | fail)
    all_goals (conv => whnf)
    all_goals try first
      | exact absurd hok (by have h1 := t.size_pos; have h2 := fun h => @okT_top d t h; grind)
      | (refine yK ?_ ?_ ?_ ?_ <;> (repeat' (first | exact trivial | (refine zW ?_; rw [t.size_eq, ← sizes_all (l := t.kids) (i := i) (by omega)]; omega) | exact rfl  | exact Or.inl rfl  | apply And.intro)); done)
  · refine CT.enter hf rfl (Nat.le_refl _) (Nat.le_refl _) ?_
    repeat' ((conv => whnf); first | (rw [wrap64 (by omega)]) | refine zI (fun _ => ?_) (fun _ => ?_) | refine zO (fun _ => ?_) (fun _ => ?_) | (rw [zY]; intro _) | refine zA (by first | omega | exact rfl | decide) ?_ | refine yF (by omega) ?_ | refine zB (hA _) ?_ | (refine Or.elim (Classical.em (okT (d + 1) (t.kids[i]'(by omega)) ∧ (p + 1 + sizes (t.kids.take i)) + (t.kids[i]'(by omega)).size ≤ 120)) (fun hP => ?_) (fun hP => ?_) <;> first | refine zD ((ihT _ (List.getElem_mem (by omega)) (d + 1) (p + 1 + sizes (t.kids.take i)) (by omega) (by omega)).1 hP) [0] [] rfl rfl rfl rfl rfl ⟨rfl, trivial⟩ trivial ?_ | refine zD ((ihT _ (List.getElem_mem (by omega)) (d + 1) (p + 1 + sizes (t.kids.take i)) (by omega) (by omega)).2 hP) [0] [] rfl rfl rfl rfl rfl ⟨rfl, trivial⟩ trivial ?_) | refine ih _ (by omega) (Pf.get ?_) (by refine ⟨?_, ?_, ?_⟩ <;> (repeat' (first | exact trivial | (refine zW ?_; rw [sizes_take (by omega)]; omega) | (refine zW ?_; simp) | exact rfl | exact Nat.le_of_ble_eq_true rfl | exact Or.inl rfl | apply And.intro))) | ((fail_if_success (have _h := ih)); refine LW.count t.kids.length (fun i => (AllB i fun j => ∀ h : j < t.kids.length, okT (d + 1) t.kids[j]) ∧ p + 1 + sizes (t.kids.take i) ≤ 120) (fun i => ⟨[(30, .d (.int .i64 i)), (1, .d (.int .i64 d)), (2, .ptr 0 0), (28, .d (.sl (t.kids.map cT))), (29, .d (.int .i64 t.kids.length))], 1, [.var 0 [.d (.int .i64 ((p + 1 + sizes (t.kids.take i) : Nat) : Int))]], []⟩) (fun _ => ⟨rfl, rfl, rfl⟩) (fun i hi hI ih => ?_) (Pf.get ?_) _ (by refine ⟨?_, ?_, ?_⟩ <;> (repeat' (first | exact trivial | (refine zW ?_; simp [sizes]) | exact rfl | exact Nat.le_of_ble_eq_true rfl | exact Or.inl rfl | apply And.intro)))) | fail)
    all_goals (conv => whnf)
    all_goals try first
      | (refine yK ?_ ?_ ?_ ?_ <;> (repeat' (first | exact trivial | exact rfl  | exact Or.inl rfl  | apply And.intro)); done)
      | exact ⟨⟨.zero, by simp [sizes]; omega⟩⟩
      | exact ⟨⟨hI.1.snoc fun _ => hP.1, by rw [sizes_take (by omega)]; omega⟩⟩
      | (have h1 := okT_done (i := i) (d := d) (t := t) (by omega) (by assumption) (by omega) hI.1
         exact absurd ⟨h1.1, by omega⟩ hno)
theorem k_TreeParts {L : Lk} (hf : FnR L 243 c243) (hA : ∀ t : Nd, K_look L 313 aT 6 120 okT t) : ∀ t : Nd, CP L 243 [aT t] (.d (.int .i64 (if pb (okT 1 t ∧ t.size ≤ 120) = true then t.size else 0))) := by
  intro t
  by_cases hP : okT 1 t ∧ 0 + t.size ≤ 120
  · refine CP.enter hf rfl rfl rfl ?_
    repeat' ((conv => whnf); first | refine zD ((hA t 1 0 (by omega) (by omega)).1 hP) [1] [] rfl rfl rfl rfl rfl ⟨rfl, trivial⟩ trivial ?_ | fail)
    all_goals (conv => whnf)
    exact yJ (zW (by rw [if_pos (pb_t ⟨hP.1, by omega⟩)]; omega))
  · refine CP.enter hf rfl rfl rfl ?_
    repeat' ((conv => whnf); first | refine zD ((hA t 1 0 (by omega) (by omega)).2 hP) [1] [] rfl rfl rfl rfl rfl ⟨rfl, trivial⟩ trivial ?_ | fail)
    all_goals (conv => whnf)
    exact yJ (zW (by rw [pb_f (fun h => hP ⟨h.1, by omega⟩)]; rfl))
def TreeOK (t : Nd) : Prop := okT 1 t ∧ t.size ≤ 120
def K_TreeOk (L : Lk) (f : Nat) : Prop := ∀ t : Nd, CP L f [aT t] (.d (.bool (pb (TreeOK t))))
theorem k_TreeOk_s {L : Lk} (hf : FnR L 150 c150) (hA : ∀ (t : Nd) (d : Int), 0 ≤ d ∧ d ≤ 7 → CP L 237 [aT t, .d (.int .i64 d)] (.d (.int .i64 (partsV 120 (okT d t) t.size)))) : K_TreeOk L 150 := by
  intro t
  refine CP.enter hf rfl rfl rfl ?_
  repeat' ((conv => whnf); first | refine callPV (hA _ _ (by omega)) (fun _ => ?_) (fun _ => ?_) | fail)
  all_goals (conv => whnf)
  all_goals try exact yL (by have := t.size_pos; simp only [TreeOK, ilt_iff]; grind)
theorem k_TreeOk_i {L : Lk} (hf : FnR L 164 c164) (hA : ∀ t : Nd, CP L 243 [aT t] (.d (.int .i64 (if pb (okT 1 t ∧ t.size ≤ 120) = true then t.size else 0)))) : K_TreeOk L 164 := by
  intro t
  refine CP.enter hf rfl rfl rfl ?_
  repeat' ((conv => whnf); first | refine zB (hA _) ?_ | fail)
  all_goals (conv => whnf)
  exact yL (by have := t.size_pos; by_cases hP : okT 1 t ∧ t.size ≤ 120 <;> simp [hP, TreeOK] <;> omega)
end Go.Ab
namespace Go.Ab
open Go
set_option maxHeartbeats 4000000
attribute [local irreducible] Need IdxK FinK NextK CKs CQs ltS
def aloneK (t : Nd) : Prop :=
  ((t.sort = 1 ∨ t.sort = 2 ∨ t.sort = 3) ∧ t.names.length = 0 ∧ t.kids.length = 0) ∨
  ((t.sort = 4 ∨ t.sort = 6) ∧ t.names.length = 0 ∧ t.kids.length = 1) ∨
  (t.sort = 5 ∧ t.names.length = t.kids.length ∧ rise t.names)
def alK : Bool → Nd → Prop := fun _ t => aloneK t
def okK (d : Int) (t : Nd) : Prop := OkG alK kaT 6 false d t
theorem okK_kid {d : Int} {t : Nd} {m i : Nat} (h : okK d t ∧ t.size ≤ m) (hi : i < t.kids.length) : okK (d + 1) t.kids[i] ∧ 1 + sizes (t.kids.take i) + t.kids[i].size ≤ m := ⟨(OkG.kid h hi).1, (OkG.kid h hi).2.1⟩
theorem okK_top {d : Int} {t : Nd} (h : okK d t) : d ≤ 6 ∧ aloneK t := ⟨(OkG.iff.1 h).1, (OkG.iff.1 h).2.1⟩
theorem okK_done {d : Int} {t : Nd} {i : Nat} (hd : d ≤ 6) (ha : aloneK t) (hi : t.kids.length ≤ i) (hk : AllB i fun j => ∀ h : j < t.kids.length, okK (d + 1) t.kids[j]) : okK d t ∧ t.size = 1 + sizes (t.kids.take i) := OkG.done hd ha hi hk
def K_aloneK (L : Lk) (f : Nat) : Prop := ∀ t : Nd, CP L f [aK t] (.d (.bool (pb (aloneK t))))
theorem k_shapeOkK {L : Lk} (hf : FnR L 245 c245) (hR : K_rise L 314) : K_aloneK L 245 := by
  intro t
  refine CP.enter hf rfl rfl rfl ?_
  repeat' ((conv => whnf); first | (rw [wrap64 (by omega)]) | refine zG (fun _ => ?_) (fun _ => ?_) | refine zO (fun _ => ?_) (fun _ => ?_) | (rw [zZ]; intro _) | (rw [zX]; intro _) | refine zB (hR _) ?_ | fail)
  all_goals (conv => whnf)
  all_goals try exact yL (by simp only [aloneK, ieq_iff]; grind)
theorem k_lookK {L : Lk} (hf : FnR L 167 c167) (hA : K_aloneK L 245) : ∀ t : Nd, K_look L 167 aK 6 40 okK t := by
  refine Nd.ind fun t ihT => ?_
  intro d p hd hp
  refine ⟨fun hok => ?_, fun hno => ?_⟩
  · refine CT.enter hf rfl (Nat.le_refl _) (Nat.le_refl _) ?_
    repeat' ((conv => whnf); first | (rw [wrap64 (by omega)]) | refine zI (fun _ => ?_) (fun _ => ?_) | refine zO (fun _ => ?_) (fun _ => ?_) | (rw [zZ]; intro _) | refine zA (by first | omega | exact rfl | decide) ?_ | refine yG (by omega) ?_ | refine zB (hA _) ?_ | refine zD ((ihT _ (List.getElem_mem (by omega)) (d + 1) (p + 1 + sizes (t.kids.take i)) (by omega) (by have := okK_kid (i := i) (m := 40 - p) ⟨hok.1, by omega⟩ (by omega); omega)).1 (by have := okK_kid (i := i) (m := 40 - p) ⟨hok.1, by omega⟩ (by omega); exact ⟨this.1, by omega⟩)) [0] [] rfl rfl rfl rfl rfl ⟨rfl, trivial⟩ trivial ?_ | refine ih _ (by omega) (trivial) (by refine ⟨?_, ?_, ?_⟩ <;> (repeat' (first | exact trivial | (refine zW ?_; rw [sizes_take (by omega)]; omega) | (refine zW ?_; simp) | exact rfl | exact Nat.le_of_ble_eq_true rfl | exact Or.inl rfl | apply And.intro))) | ((fail_if_success (have _h := ih)); refine LW.count t.kids.length (fun i => True) (fun i => ⟨[(30, .d (.int .i64 i)), (1, .d (.int .i64 d)), (2, .ptr 0 0), (28, .d (.sl (t.kids.map cK))), (29, .d (.int .i64 t.kids.length))], 1, [.var 0 [.d (.int .i64 ((p + 1 + sizes (t.kids.take i) : Nat) : Int))]], []⟩) (fun _ => ⟨rfl, rfl, rfl⟩) (fun i hi hI ih => ?_) (trivial) _ (by refine ⟨?_, ?_, ?_⟩ <;> (repeat' (first | exact trivial | (refine zW ?_; simp [sizes]) | exact rfl | exact Nat.le_of_ble_eq_true rfl | exact Or.inl rfl | apply And.intro)))) | fail)
    all_goals (conv => whnf)
    all_goals try first
      | exact absurd hok (by have h1 := t.size_pos; have h2 := fun h => @okK_top d t h; grind)
      | (refine yK ?_ ?_ ?_ ?_ <;> (repeat' (first | exact trivial | (refine zW ?_; rw [t.size_eq, ← sizes_all (l := t.kids) (i := i) (by omega)]; omega) | exact rfl  | exact Or.inl rfl  | apply And.intro)); done)
  · refine CT.enter hf rfl (Nat.le_refl _) (Nat.le_refl _) ?_
    repeat' ((conv => whnf); first | (rw [wrap64 (by omega)]) | refine zI (fun _ => ?_) (fun _ => ?_) | refine zO (fun _ => ?_) (fun _ => ?_) | (rw [zZ]; intro _) | refine zA (by first | omega | exact rfl | decide) ?_ | refine yG (by omega) ?_ | refine zB (hA _) ?_ | (refine Or.elim (Classical.em (okK (d + 1) (t.kids[i]'(by omega)) ∧ (p + 1 + sizes (t.kids.take i)) + (t.kids[i]'(by omega)).size ≤ 40)) (fun hP => ?_) (fun hP => ?_) <;> first | refine zD ((ihT _ (List.getElem_mem (by omega)) (d + 1) (p + 1 + sizes (t.kids.take i)) (by omega) (by omega)).1 hP) [0] [] rfl rfl rfl rfl rfl ⟨rfl, trivial⟩ trivial ?_ | refine zD ((ihT _ (List.getElem_mem (by omega)) (d + 1) (p + 1 + sizes (t.kids.take i)) (by omega) (by omega)).2 hP) [0] [] rfl rfl rfl rfl rfl ⟨rfl, trivial⟩ trivial ?_) | refine ih _ (by omega) (Pf.get ?_) (by refine ⟨?_, ?_, ?_⟩ <;> (repeat' (first | exact trivial | (refine zW ?_; rw [sizes_take (by omega)]; omega) | (refine zW ?_; simp) | exact rfl | exact Nat.le_of_ble_eq_true rfl | exact Or.inl rfl | apply And.intro))) | ((fail_if_success (have _h := ih)); refine LW.count t.kids.length (fun i => (AllB i fun j => ∀ h : j < t.kids.length, okK (d + 1) t.kids[j]) ∧ p + 1 + sizes (t.kids.take i) ≤ 40) (fun i => ⟨[(30, .d (.int .i64 i)), (1, .d (.int .i64 d)), (2, .ptr 0 0), (28, .d (.sl (t.kids.map cK))), (29, .d (.int .i64 t.kids.length))], 1, [.var 0 [.d (.int .i64 ((p + 1 + sizes (t.kids.take i) : Nat) : Int))]], []⟩) (fun _ => ⟨rfl, rfl, rfl⟩) (fun i hi hI ih => ?_) (Pf.get ?_) _ (by refine ⟨?_, ?_, ?_⟩ <;> (repeat' (first | exact trivial | (refine zW ?_; simp [sizes]) | exact rfl | exact Nat.le_of_ble_eq_true rfl | exact Or.inl rfl | apply And.intro)))) | fail)
    all_goals (conv => whnf)
    all_goals try first
      | (refine yK ?_ ?_ ?_ ?_ <;> (repeat' (first | exact trivial | exact rfl  | exact Or.inl rfl  | apply And.intro)); done)
      | exact ⟨⟨.zero, by simp [sizes]; omega⟩⟩
      | exact ⟨⟨hI.1.snoc fun _ => hP.1, by rw [sizes_take (by omega)]; omega⟩⟩
      | (have h1 := okK_done (i := i) (d := d) (t := t) (by omega) (by assumption) (by omega) hI.1
         exact absurd ⟨h1.1, by omega⟩ hno)
def KindOK (t : Nd) : Prop := okK 1 t ∧ t.size ≤ 40
def K_KindOk (L : Lk) (f : Nat) : Prop := ∀ t : Nd, CP L f [aK t] (.d (.bool (pb (KindOK t))))
theorem k_KindOk_i {L : Lk} (hf : FnR L 93 c93) (hA : ∀ t : Nd, K_look L 167 aK 6 40 okK t) : K_KindOk L 93 := by
  intro t
  by_cases hP : okK 1 t ∧ 0 + t.size ≤ 40
  · refine CP.enter hf rfl rfl rfl ?_
    repeat' ((conv => whnf); first | refine zD ((hA t 1 0 (by omega) (by omega)).1 hP) [1] [] rfl rfl rfl rfl rfl ⟨rfl, trivial⟩ trivial ?_ | fail)
    all_goals (conv => whnf)
    exact fin_y ⟨hP.1, by omega⟩
  · refine CP.enter hf rfl rfl rfl ?_
    repeat' ((conv => whnf); first | refine zD ((hA t 1 0 (by omega) (by omega)).2 hP) [1] [] rfl rfl rfl rfl rfl ⟨rfl, trivial⟩ trivial ?_ | fail)
    all_goals (conv => whnf)
    exact fin_n fun h => hP ⟨h.1, by have := h.2; omega⟩
theorem k_l2Parts {L : Lk} (hf : FnR L 151 c151) (hIn : K_in L 65) (hR : K_rise L 238) : ∀ (t : Nd) (d : Int), 0 ≤ d ∧ d ≤ 7 → CP L 151 [aK t, .d (.int .i64 d)] (.d (.int .i64 (partsV 40 (okK d t) t.size))) := by
  refine Nd.ind fun t ihT => ?_
  intro d hd
  refine CP.enter hf rfl rfl rfl ?_
  repeat' ((conv => whnf); first | (rw [wrap64 (by omega)]) | refine zI (fun _ => ?_) (fun _ => ?_) | refine zG (fun _ => ?_) (fun _ => ?_) | refine zO (fun _ => ?_) (fun _ => ?_) | refine zH ?_ | (rw [zZ]; intro _) | (rw [zX]; intro _) | refine zA (by first | omega | exact rfl | decide) ?_ | refine yG (by omega) ?_ | refine zB (hIn _ _ _) ?_ | refine zB (hR _) ?_ | refine callPV (ihT _ (List.getElem_mem (by omega)) (d + 1) (by omega)) (fun hk => ?_) (fun hk => ?_) | refine ih _ (by omega) (Pf.get ?_) (by refine ⟨?_, ?_, ?_⟩ <;> (repeat' (first | exact trivial | (refine zW ?_; (try rw [wrap64 (by omega)]); rw [sizes_take (by omega)]; omega) | exact rfl | exact Nat.le_of_ble_eq_true rfl | exact Or.inl rfl | apply And.intro))) | (exfalso; omega) | ((fail_if_success (have _h := ih)); refine LW.count t.kids.length (fun i => (AllB i fun j => ∀ h : j < t.kids.length, okK (d + 1) t.kids[j]) ∧ 1 + sizes (t.kids.take i) ≤ 40) (fun i => ⟨[(7, .d (.int .i64 i)), (1, .d (.int .i64 d)), (5, .d (.int .i64 t.kids.length)), (6, .d (.int .i64 ((1 + sizes (t.kids.take i) : Nat) : Int))), (2, .ptr 0 0)], 1, [.var 0 [.d (.int .i64 t.sort), .d (.sl (encS t.names)), .d (.sl (t.kids.map cK))]], []⟩) (fun _ => ⟨rfl, rfl, rfl⟩) (fun i hi hI ih => ?_) (Pf.get ?_) _ (by refine ⟨?_, ?_, ?_⟩ <;> (repeat' (first | exact trivial | exact rfl | exact Nat.le_of_ble_eq_true rfl | exact Or.inl rfl | apply And.intro)))) | fail)
  all_goals (conv => whnf)
  all_goals try first
    | exact yJ (congrArg _ (partsV_n (fun h => by have h1 := okK_kid (i := i) h (by omega); first | exact hk ⟨h1.1, by omega⟩ | (have := hk.2; omega))).symm)
    | exact yJ (congrArg _ (partsV_n (fun h => by have h1 := okK_top h.1; unfold aloneK at h1; clear ihT; grind)).symm)
    | exact ⟨⟨.zero, by simp [sizes]⟩⟩
    | exact ⟨⟨hI.1.snoc fun _ => hk.1, by rw [sizes_take (by omega)]; omega⟩⟩
    | (have h1 := okK_done (i := i) (d := d) (t := t) (by omega) (by unfold aloneK; clear ih ihT; grind) (by omega) hI.1
       exact yJ (congrArg _ (by rw [partsV_y ⟨h1.1, by omega⟩]; omega)))
theorem k_KindOk_s {L : Lk} (hf : FnR L 71 c71) (hA : ∀ (t : Nd) (d : Int), 0 ≤ d ∧ d ≤ 7 → CP L 151 [aK t, .d (.int .i64 d)] (.d (.int .i64 (partsV 40 (okK d t) t.size)))) : K_KindOk L 71 := by
  intro t
  refine CP.enter hf rfl rfl rfl ?_
  repeat' ((conv => whnf); first | refine callPV (hA _ _ (by omega)) (fun _ => ?_) (fun _ => ?_) | fail)
  all_goals (conv => whnf)
  all_goals try exact yL (by have := t.size_pos; simp only [KindOK, ilt_iff]; grind)
end Go.Ab
namespace Go.Ab
open Go
set_option maxHeartbeats 4000000
attribute [local irreducible] Need IdxK FinK NextK CKs CQs ltS
def av (l : List DV) : List AV := l.map .d
def tD (t : Nd) : List DV := [.int .i64 t.sort, .int .i64 t.num, .str t.text, .sl (encS t.names), .sl (t.kids.map cT)]
def kD (t : Nd) : List DV := [.int .i64 t.sort, .sl (encS t.names), .sl (t.kids.map cK)]
structure Ev where
  typ : Str
  ver : Int
  body : Nd
def eD (e : Ev) : List DV := .str e.typ :: .int .i64 e.ver :: tD e.body
structure Pw where
  kind : Int
  data : Str
  cuts : Bool
  after : Int
  moves : Int
  keep : List Int
def wD (p : Pw) : List DV := [.int .i64 p.kind, .str p.data, .bool p.cuts, .int .i64 p.after, .int .i64 p.moves, .sl (encI p.keep)]
structure Fs where
  kind : Nd
  save : Nd
  lift : Nd
def fsD (s : Fs) : List DV := kD s.kind ++ (tD s.save ++ tD s.lift)
structure Ft where
  typ : Str
  act : Nd
def ftD (s : Ft) : List DV := .str s.typ :: tD s.act
structure Pl where
  name : Str
  states : List Fs
  start : Nd
  steps : List Ft
def plD (p : Pl) : List DV := .str p.name :: .sl (p.states.map fsD) :: (tD p.start ++ [.sl (p.steps.map ftD)])
structure Te where
  kind : Int
  key : Str
  event : Ev
  part : Int
  many : Int
  name : Str
  form : Nd
  lift : Nd
  plan : Pl
  power : Pw
def teD (e : Te) : List DV := .int .i64 e.kind :: .str e.key :: (eD e.event ++ (.int .i64 e.part :: .int .i64 e.many :: .str e.name :: (kD e.form ++ (tD e.lift ++ (plD e.plan ++ wD e.power)))))
theorem lenFs (l : List Fs) : (l.map fsD).length = l.length := by simp
theorem lenFt (l : List Ft) : (l.map ftD).length = l.length := by simp
def EventOK (e : Ev) : Prop := nameOk e.typ ∧ (1 ≤ e.ver ∧ e.ver ≤ 12) ∧ e.body.sort = 5 ∧ TreeOK e.body
def K_EventOk (L : Lk) (f : Nat) : Prop := ∀ e : Ev, CP L f [.agg (av (eD e))] (.d (.bool (pb (EventOK e))))
theorem k_EventOk_s {L : Lk} (hf : FnR L 69 c69) (hN : K_name L 68) (hIn : K_in L 65) (hT : K_TreeOk L 150) : K_EventOk L 69 := by
  intro e
  refine CP.enter hf rfl rfl rfl ?_
  repeat' ((conv => whnf); first | refine zG (fun _ => ?_) (fun _ => ?_) | refine zO (fun _ => ?_) (fun _ => ?_) | refine zB (hN _) ?_ | refine zB (hIn _ _ _) ?_ | refine zB (hT e.body) ?_ | fail)
  all_goals (conv => whnf)
  all_goals try exact yL (by simp only [EventOK, pb_iff]; grind)
theorem k_EventOk_i {L : Lk} (hf : FnR L 90 c90) (hN : K_name L 89) (hIn : K_in L 163) (hT : K_TreeOk L 164) : K_EventOk L 90 := by
  intro e
  refine CP.enter hf rfl rfl rfl ?_
  repeat' ((conv => whnf); first | refine zG (fun _ => ?_) (fun _ => ?_) | refine zO (fun _ => ?_) (fun _ => ?_) | refine zB (hN _) ?_ | refine zB (hIn _ _ _) ?_ | refine zB (hT e.body) ?_ | fail)
  all_goals (conv => whnf)
  all_goals try exact yL (by simp only [EventOK, pb_iff]; grind)
def noT (t : Nd) : Prop := t.sort = 0 ∧ t.num = 0 ∧ t.text = [] ∧ t.names.length = 0 ∧ t.kids.length = 0
def K_noT (L : Lk) (f : Nat) : Prop := ∀ t : Nd, CP L f [aT t] (.d (.bool (pb (noT t))))
theorem k_l31NoLift {L : Lk} (hf : FnR L 72 c72) : K_noT L 72 := by
  intro t
  refine CP.enter hf rfl rfl rfl ?_
  repeat' ((conv => whnf); first | refine zG (fun _ => ?_) (fun _ => ?_) | refine zF (fun _ => ?_) (fun _ => ?_) | (rw [zY]; intro _) | (rw [zX]; intro _) | fail)
  all_goals (conv => whnf)
  all_goals try exact yL (by simp only [noT, ieq_iff]; grind)
theorem k_isNothing {L : Lk} (hf : FnR L 94 c94) : K_noT L 94 := by
  intro t
  refine CP.enter hf rfl rfl rfl ?_
  repeat' ((conv => whnf); first | refine zG (fun _ => ?_) (fun _ => ?_) | refine zF (fun _ => ?_) (fun _ => ?_) | (rw [zY]; intro _) | (rw [zX]; intro _) | fail)
  all_goals (conv => whnf)
  all_goals try exact yL (by simp only [noT, ieq_iff]; grind)
theorem k_isNoTree {L : Lk} (hf : FnR L 172 c172) : K_noT L 172 := by
  intro t
  refine CP.enter hf rfl rfl rfl ?_
  repeat' ((conv => whnf); first | (rw [wrap64 (by omega)]) | refine zG (fun _ => ?_) (fun _ => ?_) | refine zF (fun _ => ?_) (fun _ => ?_) | (rw [zY]; intro _) | (rw [zX]; intro _) | fail)
  all_goals (conv => whnf)
  all_goals try exact yL (by simp only [noT, ieq_iff]; grind)
def noK (t : Nd) : Prop := t.sort = 0 ∧ t.names.length = 0 ∧ t.kids.length = 0
def K_noK (L : Lk) (f : Nat) : Prop := ∀ t : Nd, CP L f [aK t] (.d (.bool (pb (noK t))))
theorem k_l21NoKind {L : Lk} (hf : FnR L 74 c74) : K_noK L 74 := by
  intro t
  refine CP.enter hf rfl rfl rfl ?_
  repeat' ((conv => whnf); first | refine zG (fun _ => ?_) (fun _ => ?_) | (rw [zZ]; intro _) | (rw [zX]; intro _) | fail)
  all_goals (conv => whnf)
  all_goals try exact yL (by simp only [noK, ieq_iff]; grind)
theorem k_isNoKind {L : Lk} (hf : FnR L 98 c98) : K_noK L 98 := by
  intro t
  refine CP.enter hf rfl rfl rfl ?_
  repeat' ((conv => whnf); first | (rw [wrap64 (by omega)]) | refine zG (fun _ => ?_) (fun _ => ?_) | (rw [zZ]; intro _) | (rw [zX]; intro _) | fail)
  all_goals (conv => whnf)
  all_goals try exact yL (by simp only [noK, ieq_iff]; grind)
def noE (e : Ev) : Prop := e.typ = [] ∧ e.ver = 0 ∧ noT e.body
def K_noE (L : Lk) (f : Nat) : Prop := ∀ e : Ev, CP L f [.agg (av (eD e))] (.d (.bool (pb (noE e))))
theorem k_l85NoEvent {L : Lk} (hf : FnR L 70 c70) : K_noE L 70 := by
  intro e
  refine CP.enter hf rfl rfl rfl ?_
  repeat' ((conv => whnf); first | refine zG (fun _ => ?_) (fun _ => ?_) | refine zF (fun _ => ?_) (fun _ => ?_) | (rw [zY]; intro _) | (rw [zX]; intro _) | fail)
  all_goals (conv => whnf)
  all_goals try exact yL (by simp only [noE, noT, ieq_iff]; grind)
theorem k_isNoEvent {L : Lk} (hf : FnR L 97 c97) (hT : K_noT L 172) : K_noE L 97 := by
  intro e
  refine CP.enter hf rfl rfl rfl ?_
  repeat' ((conv => whnf); first | refine zG (fun _ => ?_) (fun _ => ?_) | refine zF (fun _ => ?_) (fun _ => ?_) | refine zB (hT e.body) ?_ | fail)
  all_goals (conv => whnf)
  all_goals try exact yL (by simp only [noE, pb_iff]; grind)
def noP (p : Pl) : Prop := p.name = [] ∧ p.states.length = 0 ∧ p.steps.length = 0 ∧ noT p.start
def K_noP (L : Lk) (f : Nat) : Prop := ∀ p : Pl, CP L f [.agg (av (plD p))] (.d (.bool (pb (noP p))))
theorem k_l85NoPlan {L : Lk} (hf : FnR L 76 c76) : K_noP L 76 := by
  intro p
  refine CP.enter hf rfl rfl rfl ?_
  repeat' ((conv => whnf); first | (rw [lenFs]; intro _) | (rw [lenFt]; intro _) | refine zG (fun _ => ?_) (fun _ => ?_) | refine zF (fun _ => ?_) (fun _ => ?_) | (rw [zY]; intro _) | (rw [zX]; intro _) | fail)
  all_goals (conv => whnf)
  all_goals try exact yL (by simp only [noP, noT, ieq_iff]; grind)
theorem k_isNoPlan {L : Lk} (hf : FnR L 99 c99) (hT : K_noT L 172) : K_noP L 99 := by
  intro p
  refine CP.enter hf rfl rfl rfl ?_
  repeat' ((conv => whnf); first | (rw [lenFs]; intro _) | (rw [lenFt]; intro _) | (rw [wrap64 (by omega)]) | refine zG (fun _ => ?_) (fun _ => ?_) | refine zF (fun _ => ?_) (fun _ => ?_) | refine zB (hT p.start) ?_ | fail)
  all_goals (conv => whnf)
  all_goals try exact yL (by simp only [noP, pb_iff]; grind)
def noW (p : Pw) : Prop := p.kind = 0 ∧ p.data = [] ∧ p.cuts = false ∧ p.after = 0 ∧ p.moves = 0 ∧ p.keep.length = 0
def wOk (p : Pw) : Prop := noW p ∨ (p.cuts = true ∧ p.kind = 0 ∧ p.data = [] ∧ numOk p.after ∧ numOk p.moves ∧ numsOk p.keep)
theorem k_isNoPower {L : Lk} (hf : FnR L 92 c92) : ∀ p : Pw, CP L 92 [.agg (av (wD p))] (.d (.bool (pb (noW p)))) := by
  intro p
  refine CP.enter hf rfl rfl rfl ?_
  repeat' ((conv => whnf); first | (rw [lenIs']; intro _) | refine zG (fun _ => ?_) (fun _ => ?_) | refine zF (fun _ => ?_) (fun _ => ?_) | refine zJ (fun _ => ?_) (fun _ => ?_) | fail)
  all_goals (conv => whnf)
  all_goals try exact yL (by simp only [noW, ieq_iff]; grind)
theorem k_canWrite1 {L : Lk} (hf : FnR L 166 c166) (hIn : K_in L 163) : ∀ n : Int, CP L 166 [.d (.int .i64 n)] (.d (.bool (!pb (numOk n)))) := by
  intro n
  refine CP.enter hf rfl rfl rfl ?_
  repeat' ((conv => whnf); first | refine zO (fun _ => ?_) (fun _ => ?_) | refine zB (hIn _ _ _) ?_ | fail)
  all_goals (conv => whnf)
  all_goals try exact yJ (by congr 1; simp only [numOk]; first | rw [pb_t (by assumption)]; rfl | rw [pb_f (by assumption)]; rfl)
theorem k_IndexFunc_int {L : Lk} (hf : FnR L 244 c244) (hC : ∀ n : Int, CP L 166 [.d (.int .i64 n)] (.d (.bool (!pb (numOk n))))) : ∀ l : List Int,
    (numsOk l → CP L 244 [.d (.sl (encI l)), .fn 166 []] (.d (.int .i64 (-1)))) ∧ (∀ k, ∀ h : k < l.length, (AllB k fun j => ∀ h : j < l.length, numOk l[j]) → ¬ numOk l[k] → CP L 244 [.d (.sl (encI l)), .fn 166 []] (.d (.int .i64 k))) := by
  intro l
  refine ⟨fun hn => ?_, fun k hk ha hn => ?_⟩
  · refine CP.enter hf rfl rfl rfl ?_
    repeat' ((conv => whnf); first | (rw [lenIs']; intro _) | refine zI (fun _ => ?_) (fun _ => ?_) | refine zO (fun _ => ?_) (fun _ => ?_) | refine zH ?_ | refine zA (by first | omega | exact rfl | decide) ?_ | refine zB (hC _) ?_ | refine idx_I (by omega) ?_ | refine ih _ (by omega) (trivial) (by refine ⟨?_, ?_, ?_⟩ <;> (repeat' (first | exact trivial | exact yM (by omega) | exact rfl | apply And.intro))) | ((fail_if_success (have _h := ih)); refine LW.count l.length (fun i => True) (fun i => ⟨[(8, .d (.int .i64 i)), (7, .d (.int .i64 l.length)), (0, .d (.sl (encI l))), (1, .fn 166 [])], 0, [], []⟩) (fun _ => ⟨rfl, rfl, rfl⟩) (fun i hi hI ih => ?_) (trivial) _ (by refine ⟨?_, ?_, ?_⟩ <;> (repeat' (first | exact trivial | exact rfl | apply And.intro)))) | fail)
    all_goals (conv => whnf)
    all_goals try first
      | exact yJ rfl
      | exact absurd (hn i (by omega) (by omega)) (by assumption)
  · refine CP.enter hf rfl rfl rfl ?_
    repeat' ((conv => whnf); first | (rw [lenIs']; intro _) | refine zI (fun _ => ?_) (fun _ => ?_) | refine zO (fun _ => ?_) (fun _ => ?_) | refine zH ?_ | refine zA (by first | omega | exact rfl | decide) ?_ | refine zB (hC _) ?_ | refine idx_I (by omega) ?_ | refine ih _ (by omega) (Pf.get ?_) (by refine ⟨?_, ?_, ?_⟩ <;> (repeat' (first | exact trivial | exact yM (by omega) | exact rfl | apply And.intro))) | (exfalso; omega) | ((fail_if_success (have _h := ih)); refine LW.count l.length (fun i => i ≤ k) (fun i => ⟨[(8, .d (.int .i64 i)), (7, .d (.int .i64 l.length)), (0, .d (.sl (encI l))), (1, .fn 166 [])], 0, [], []⟩) (fun _ => ⟨rfl, rfl, rfl⟩) (fun i hi hI ih => ?_) (Nat.zero_le _) _ (by refine ⟨?_, ?_, ?_⟩ <;> (repeat' (first | exact trivial | exact rfl | apply And.intro)))) | fail)
    all_goals (conv => whnf)
    all_goals try first
      | exact ⟨by
          by_cases he : i = k
          · subst he; contradiction
          · omega⟩
      | exact yJ (zW (by
          by_cases he : i = k
          · rw [he]
          · exact absurd (ha i (by omega) (by omega)) (by assumption)))
theorem k_ContainsFunc_int {L : Lk} (hf : FnR L 165 c165) (hX : ∀ l : List Int,
    (numsOk l → CP L 244 [.d (.sl (encI l)), .fn 166 []] (.d (.int .i64 (-1)))) ∧ (∀ k, ∀ h : k < l.length, (AllB k fun j => ∀ h : j < l.length, numOk l[j]) → ¬ numOk l[k] → CP L 244 [.d (.sl (encI l)), .fn 166 []] (.d (.int .i64 k)))) :
    ∀ l : List Int, CP L 165 [.d (.sl (encI l)), .fn 166 []] (.d (.bool (!pb (numsOk l)))) := by
  intro l
  by_cases hn : numsOk l
  · refine CP.enter hf rfl rfl rfl ?_
    repeat' ((conv => whnf); first | refine zB ((hX l).1 hn) ?_ | fail)
    all_goals (conv => whnf)
    exact yJ (by rw [pb_t hn]; rfl)
  · obtain ⟨k, h1, h2, h3⟩ := not_allB hn
    have h4 : ¬ numOk l[k] := fun h => h3 fun _ => h
    refine CP.enter hf rfl rfl rfl ?_
    repeat' ((conv => whnf); first | refine zB ((hX l).2 k h1 h2 h4) ?_ | fail)
    all_goals (conv => whnf)
    exact yJ (by rw [pb_f hn]; simp [ile])
theorem k_canWrite {L : Lk} (hf : FnR L 91 c91) (hX : ∀ l : List Int, CP L 165 [.d (.sl (encI l)), .fn 166 []] (.d (.bool (!pb (numsOk l))))) : K_nums L 91 := by
  intro l
  refine CP.enter hf rfl rfl rfl ?_
  repeat' ((conv => whnf); first | refine zO (fun _ => ?_) (fun _ => ?_) | refine zH ?_ | refine zB (hX l) ?_ | fail)
  all_goals (conv => whnf)
  all_goals try first
    | exact fin_y (by assumption)
    | exact fin_n (by assumption)
theorem numsOk2 (a b : Int) : numsOk [a, b] ↔ numOk a ∧ numOk b := by
  constructor
  · intro h; exact ⟨h 0 (by simp) (by simp), h 1 (by simp) (by simp)⟩
  · rintro ⟨h1, h2⟩ i hi h
    match i, h with
    | 0, _ => exact h1
    | 1, _ => exact h2
theorem k_powerOk {L : Lk} (hf : FnR L 88 c88) (hW : ∀ p : Pw, CP L 92 [.agg (av (wD p))] (.d (.bool (pb (noW p))))) (hN : K_nums L 91) : ∀ p : Pw, CP L 88 [.agg (av (wD p))] (.d (.bool (pb (wOk p)))) := by
  intro p
  refine CP.enter hf rfl rfl rfl ?_
  repeat' ((conv => whnf); first | refine zG (fun _ => ?_) (fun _ => ?_) | refine zF (fun _ => ?_) (fun _ => ?_) | refine zO (fun _ => ?_) (fun _ => ?_) | refine zJ (fun _ => ?_) (fun _ => ?_) | refine zB (hW p) ?_ | refine zB (CP.pu (hN [p.after, p.moves])) ?_ | refine zB (hN p.keep) ?_ | fail)
  all_goals (conv => whnf)
  all_goals try exact yL (by simp only [wOk, pb_iff, numsOk2] at *; grind)
def wOkS (e : Te) : Prop := wOk e.power ∧ (e.power.cuts = true → e.kind ≠ 6 ∧ e.kind ≠ 7)
theorem k_l85PowerOk {L : Lk} (hf : FnR L 66 c66) (hN : K_nums L 67) : ∀ e : Te, CP L 66 [.agg (av (teD e))] (.d (.bool (pb (wOkS e)))) := by
  intro e
  refine CP.enter hf rfl rfl rfl ?_
  repeat' ((conv => whnf); first | (rw [lenIs']; intro _) | refine zG (fun _ => ?_) (fun _ => ?_) | refine zF (fun _ => ?_) (fun _ => ?_) | refine zO (fun _ => ?_) (fun _ => ?_) | refine zH ?_ | refine zJ (fun _ => ?_) (fun _ => ?_) | refine zB (CP.pu (hN [e.power.after, e.power.moves])) ?_ | refine zB (hN e.power.keep) ?_ | fail)
  all_goals (conv => whnf)
  all_goals try exact yL (by simp only [wOkS, wOk, noW, ieq_iff, pb_iff, numsOk2] at *; grind)
end Go.Ab
namespace Go.Ab
open Go
section
variable {P : Program} {n : Nat} {t : TypeId} {l : List DV}
theorem yO {F : TypeId → List DV → Prop} {ts : List TypeId} {ls : List (List DV)} (h : fitL F (t :: ts) ls) : ∃ a r, ls = a :: r ∧ F t a ∧ fitL F ts r := by
  cases ls with
  | nil => exact h.elim
  | cons a r => exact ⟨a, r, rfl, h.1, h.2⟩
theorem fitL_nil {F : TypeId → List DV → Prop} {ls : List (List DV)} (h : fitL F [] ls) : ls = [] := by
  cases ls with
  | nil => rfl
  | cons a r => exact h.elim
theorem fit_struct {fs : Array Field} {ts : List TypeId} (hu : P.underlying t = some (.struct fs)) (hts : fs.toList.map (·.type) = ts) (h : fit P n t l) : ∃ m ls, n = m + 1 ∧ l = ls.flatten ∧ fitL (fit P m) ts ls := by
  cases n with
  | zero => exact h.elim
  | succ m => unfold fit at h; rw [hu] at h; obtain ⟨ls, h1, h2⟩ := h; rw [hts] at h2; exact ⟨m, ls, rfl, h1, h2⟩
theorem fit_slice {e : TypeId} (hu : P.underlying t = some (.slice e)) (h : fit P n t l) : ∃ m xs, n = m + 1 ∧ l = [.sl xs] ∧ ∀ x, x ∈ xs → fit P m e x := by
  cases n with
  | zero => exact h.elim
  | succ m => unfold fit at h; rw [hu] at h; obtain ⟨xs, _, h1, h2⟩ := h; exact ⟨m, xs, rfl, h1, h2⟩
theorem fit_int {k : IntKind} (hu : P.underlying t = some (.int k)) (h : fit P n t l) : ∃ i, l = [.int k i] := by
  cases n with
  | zero => exact h.elim
  | succ m => unfold fit at h; rw [hu] at h; obtain ⟨i, _, h1⟩ := h; exact ⟨i, h1⟩
theorem fit_str (hu : P.underlying t = some .string) (h : fit P n t l) : ∃ s, l = [.str s] := by
  cases n with
  | zero => exact h.elim
  | succ m => unfold fit at h; rw [hu] at h; obtain ⟨s, _, h1⟩ := h; exact ⟨s, h1⟩
theorem fit_bool (hu : P.underlying t = some .bool) (h : fit P n t l) : ∃ b, l = [.bool b] := by
  cases n with
  | zero => exact h.elim
  | succ m => unfold fit at h; rw [hu] at h; exact h
theorem all_map {α : Type} {D : α → List DV} : ∀ {xs : List (List DV)}, (∀ x, x ∈ xs → ∃ a, x = D a) → ∃ as : List α, xs = as.map D
  | [], _ => ⟨[], rfl⟩
  | x :: xs, h => by
    obtain ⟨a, rfl⟩ := h x (List.mem_cons_self ..)
    obtain ⟨as, rfl⟩ := all_map (xs := xs) fun y hy => h y (List.mem_cons_of_mem _ hy)
    exact ⟨a :: as, rfl⟩
theorem fit_slices {α : Type} {D : α → List DV} {e : TypeId} (hu : P.underlying t = some (.slice e)) (hD : ∀ m x, m < n → fit P m e x → ∃ a, x = D a) (h : fit P n t l) : ∃ as : List α, l = [.sl (as.map D)] := by
  obtain ⟨m, xs, rfl, rfl, hx⟩ := fit_slice hu h
  obtain ⟨as, rfl⟩ := all_map fun x h => hD m x (by omega) (hx x h)
  exact ⟨as, rfl⟩
end
structure TyOk (P : Program) where
  i : P.underlying 3 = some (.int .i64)
  s : P.underlying 9 = some .string
  b : P.underlying 4 = some .bool
  u22 : P.underlying 22 = some (.slice 50)
  u30 : P.underlying 30 = some (.slice 9)
  u36 : P.underlying 36 = some (.slice 38)
  u39 : P.underlying 39 = some (.slice 41)
  u42 : P.underlying 42 = some (.slice 160)
  u43 : P.underlying 43 = some (.slice 163)
  u46 : P.underlying 46 = some (.slice 3)
  u31 : P.underlying 31 = some (.slice 33)
  u50 : ∃ fs, P.underlying 50 = some (.struct fs) ∧ fs.toList.map (·.type) = [3, 9, 35, 3, 3, 9, 38, 41, 45, 48]
  u35 : ∃ fs, P.underlying 35 = some (.struct fs) ∧ fs.toList.map (·.type) = [9, 3, 33]
  u38 : ∃ fs, P.underlying 38 = some (.struct fs) ∧ fs.toList.map (·.type) = [3, 30, 36]
  u41 : ∃ fs, P.underlying 41 = some (.struct fs) ∧ fs.toList.map (·.type) = [3, 3, 9, 30, 39]
  u33 : ∃ fs, P.underlying 33 = some (.struct fs) ∧ fs.toList.map (·.type) = [3, 3, 9, 30, 31]
  u45 : ∃ fs, P.underlying 45 = some (.struct fs) ∧ fs.toList.map (·.type) = [9, 42, 33, 43]
  u48 : ∃ fs, P.underlying 48 = some (.struct fs) ∧ fs.toList.map (·.type) = [3, 9, 4, 3, 3, 46]
  u160 : ∃ fs, P.underlying 160 = some (.struct fs) ∧ fs.toList.map (·.type) = [38, 41, 41]
  u163 : ∃ fs, P.underlying 163 = some (.struct fs) ∧ fs.toList.map (·.type) = [9, 41]
section
variable {P : Program} (T : TyOk P)
include T
theorem ty_strs {n : Nat} {l : List DV} (h : fit P n 30 l) : ∃ ss : List Str, l = [.sl (encS ss)] := fit_slices T.u30 (fun _ _ _ h => fit_str T.s h) h
theorem ty_ints {n : Nat} {l : List DV} (h : fit P n 46 l) : ∃ is : List Int, l = [.sl (encI is)] := fit_slices T.u46 (fun _ _ _ h => fit_int T.i h) h
theorem ty_node {t u : TypeId} (hu : P.underlying u = some (.slice t)) (ht : ∃ fs, P.underlying t = some (.struct fs) ∧ fs.toList.map (·.type) = [3, 3, 9, 30, u]) (n : Nat) : ∀ l, fit P n t l → ∃ x : Nd, l = cT x := by
  induction n using Nat.strongRecOn with
  | ind n ih =>
    intro l h
    obtain ⟨fs, h1, h2⟩ := ht
    obtain ⟨m, ls, rfl, rfl, hh⟩ := fit_struct h1 h2 h
    obtain ⟨a1, r, rfl, q1, hh⟩ := yO hh
    obtain ⟨a2, r, rfl, q2, hh⟩ := yO hh
    obtain ⟨a3, r, rfl, q3, hh⟩ := yO hh
    obtain ⟨a4, r, rfl, q4, hh⟩ := yO hh
    obtain ⟨a5, r, rfl, q5, hh⟩ := yO hh
    obtain rfl := fitL_nil hh
    obtain ⟨s, rfl⟩ := fit_int T.i q1
    obtain ⟨k, rfl⟩ := fit_int T.i q2
    obtain ⟨tx, rfl⟩ := fit_str T.s q3
    obtain ⟨ns, rfl⟩ := ty_strs T q4
    obtain ⟨ks, rfl⟩ := fit_slices hu (fun m' x hm h => ih m' (by omega) x h) q5
    exact ⟨.mk s k tx ns ks, by rw [cT_eq]; rfl⟩
theorem ty_tree {n : Nat} {l : List DV} (h : fit P n 33 l) : ∃ x : Nd, l = tD x := by
  obtain ⟨x, rfl⟩ := ty_node T T.u31 T.u33 n l h
  exact ⟨x, cT_eq x⟩
theorem ty_lift0 {n : Nat} {l : List DV} (h : fit P n 41 l) : ∃ x : Nd, l = tD x := by
  obtain ⟨x, rfl⟩ := ty_node T T.u39 T.u41 n l h
  exact ⟨x, cT_eq x⟩
theorem ty_kind0 (n : Nat) : ∀ l, fit P n 38 l → ∃ x : Nd, l = cK x := by
  induction n using Nat.strongRecOn with
  | ind n ih =>
    intro l h
    obtain ⟨fs, h1, h2⟩ := T.u38
    obtain ⟨m, ls, rfl, rfl, hh⟩ := fit_struct h1 h2 h
    obtain ⟨a1, r, rfl, q1, hh⟩ := yO hh
    obtain ⟨a4, r, rfl, q4, hh⟩ := yO hh
    obtain ⟨a5, r, rfl, q5, hh⟩ := yO hh
    obtain rfl := fitL_nil hh
    obtain ⟨s, rfl⟩ := fit_int T.i q1
    obtain ⟨ns, rfl⟩ := ty_strs T q4
    obtain ⟨ks, rfl⟩ := fit_slices T.u36 (fun m' x hm h => ih m' (by omega) x h) q5
    exact ⟨.mk s 0 [] ns ks, by rw [cK_eq]; rfl⟩
theorem ty_kind {n : Nat} {l : List DV} (h : fit P n 38 l) : ∃ x : Nd, l = kD x := by
  obtain ⟨x, rfl⟩ := ty_kind0 T n l h
  exact ⟨x, cK_eq x⟩
theorem ty_event {n : Nat} {l : List DV} (h : fit P n 35 l) : ∃ x : Ev, l = eD x := by
  obtain ⟨fs, h1, h2⟩ := T.u35
  obtain ⟨m, ls, rfl, rfl, hh⟩ := fit_struct h1 h2 h
  obtain ⟨a1, r, rfl, q1, hh⟩ := yO hh
  obtain ⟨a2, r, rfl, q2, hh⟩ := yO hh
  obtain ⟨a3, r, rfl, q3, hh⟩ := yO hh
  obtain rfl := fitL_nil hh
  obtain ⟨s, rfl⟩ := fit_str T.s q1
  obtain ⟨k, rfl⟩ := fit_int T.i q2
  obtain ⟨x, rfl⟩ := ty_tree T q3
  exact ⟨⟨s, k, x⟩, rfl⟩
theorem ty_log {n : Nat} {l : List DV} (h : fit P n 48 l) : ∃ x : Pw, l = wD x := by
  obtain ⟨fs, h1, h2⟩ := T.u48
  obtain ⟨m, ls, rfl, rfl, hh⟩ := fit_struct h1 h2 h
  obtain ⟨a1, r, rfl, q1, hh⟩ := yO hh
  obtain ⟨a2, r, rfl, q2, hh⟩ := yO hh
  obtain ⟨a3, r, rfl, q3, hh⟩ := yO hh
  obtain ⟨a4, r, rfl, q4, hh⟩ := yO hh
  obtain ⟨a5, r, rfl, q5, hh⟩ := yO hh
  obtain ⟨a6, r, rfl, q6, hh⟩ := yO hh
  obtain rfl := fitL_nil hh
  obtain ⟨x1, rfl⟩ := fit_int T.i q1
  obtain ⟨x2, rfl⟩ := fit_str T.s q2
  obtain ⟨x3, rfl⟩ := fit_bool T.b q3
  obtain ⟨x4, rfl⟩ := fit_int T.i q4
  obtain ⟨x5, rfl⟩ := fit_int T.i q5
  obtain ⟨x6, rfl⟩ := ty_ints T q6
  exact ⟨⟨x1, x2, x3, x4, x5, x6⟩, rfl⟩
theorem ty_state {n : Nat} {l : List DV} (h : fit P n 160 l) : ∃ x : Fs, l = fsD x := by
  obtain ⟨fs, h1, h2⟩ := T.u160
  obtain ⟨m, ls, rfl, rfl, hh⟩ := fit_struct h1 h2 h
  obtain ⟨a1, r, rfl, q1, hh⟩ := yO hh
  obtain ⟨a2, r, rfl, q2, hh⟩ := yO hh
  obtain ⟨a3, r, rfl, q3, hh⟩ := yO hh
  obtain rfl := fitL_nil hh
  obtain ⟨x1, rfl⟩ := ty_kind T q1
  obtain ⟨x2, rfl⟩ := ty_lift0 T q2
  obtain ⟨x3, rfl⟩ := ty_lift0 T q3
  exact ⟨⟨x1, x2, x3⟩, rfl⟩
theorem ty_step {n : Nat} {l : List DV} (h : fit P n 163 l) : ∃ x : Ft, l = ftD x := by
  obtain ⟨fs, h1, h2⟩ := T.u163
  obtain ⟨m, ls, rfl, rfl, hh⟩ := fit_struct h1 h2 h
  obtain ⟨a1, r, rfl, q1, hh⟩ := yO hh
  obtain ⟨a2, r, rfl, q2, hh⟩ := yO hh
  obtain rfl := fitL_nil hh
  obtain ⟨x1, rfl⟩ := fit_str T.s q1
  obtain ⟨x2, rfl⟩ := ty_lift0 T q2
  exact ⟨⟨x1, x2⟩, rfl⟩
theorem ty_plan {n : Nat} {l : List DV} (h : fit P n 45 l) : ∃ x : Pl, l = plD x := by
  obtain ⟨fs, h1, h2⟩ := T.u45
  obtain ⟨m, ls, rfl, rfl, hh⟩ := fit_struct h1 h2 h
  obtain ⟨a1, r, rfl, q1, hh⟩ := yO hh
  obtain ⟨a2, r, rfl, q2, hh⟩ := yO hh
  obtain ⟨a3, r, rfl, q3, hh⟩ := yO hh
  obtain ⟨a4, r, rfl, q4, hh⟩ := yO hh
  obtain rfl := fitL_nil hh
  obtain ⟨x1, rfl⟩ := fit_str T.s q1
  obtain ⟨x2, rfl⟩ := fit_slices T.u42 (fun _ _ _ h => ty_state T h) q2
  obtain ⟨x3, rfl⟩ := ty_tree T q3
  obtain ⟨x4, rfl⟩ := fit_slices T.u43 (fun _ _ _ h => ty_step T h) q4
  exact ⟨⟨x1, x2, x3, x4⟩, rfl⟩
theorem ty_tea {n : Nat} {l : List DV} (h : fit P n 50 l) : ∃ x : Te, l = teD x := by
  obtain ⟨fs, h1, h2⟩ := T.u50
  obtain ⟨m, ls, rfl, rfl, hh⟩ := fit_struct h1 h2 h
  obtain ⟨a1, r, rfl, q1, hh⟩ := yO hh
  obtain ⟨a2, r, rfl, q2, hh⟩ := yO hh
  obtain ⟨a3, r, rfl, q3, hh⟩ := yO hh
  obtain ⟨a4, r, rfl, q4, hh⟩ := yO hh
  obtain ⟨a5, r, rfl, q5, hh⟩ := yO hh
  obtain ⟨a6, r, rfl, q6, hh⟩ := yO hh
  obtain ⟨a7, r, rfl, q7, hh⟩ := yO hh
  obtain ⟨a8, r, rfl, q8, hh⟩ := yO hh
  obtain ⟨a9, r, rfl, q9, hh⟩ := yO hh
  obtain ⟨a10, r, rfl, q10, hh⟩ := yO hh
  obtain rfl := fitL_nil hh
  obtain ⟨x1, rfl⟩ := fit_int T.i q1
  obtain ⟨x2, rfl⟩ := fit_str T.s q2
  obtain ⟨x3, rfl⟩ := ty_event T q3
  obtain ⟨x4, rfl⟩ := fit_int T.i q4
  obtain ⟨x5, rfl⟩ := fit_int T.i q5
  obtain ⟨x6, rfl⟩ := fit_str T.s q6
  obtain ⟨x7, rfl⟩ := ty_kind T q7
  obtain ⟨x8, rfl⟩ := ty_lift0 T q8
  obtain ⟨x9, rfl⟩ := ty_plan T q9
  obtain ⟨x10, rfl⟩ := ty_log T q10
  refine ⟨⟨x1, x2, x3, x4, x5, x6, x7, x8, x9, x10⟩, ?_⟩
  simp only [List.flatten_cons, List.flatten_nil, List.append_nil]
  rfl
theorem ty_teas {n : Nat} {l : List DV} (h : fit P n 22 l) : ∃ x : List Te, l = [.sl (x.map teD)] := fit_slices T.u22 (fun _ _ _ h => ty_tea T h) h
end
end Go.Ab
namespace Go.Ab
open Go Go.ChangeShapes Go.WideShapes
section
variable {H : Type} {enc : TypeId × Value → H} {P : Program} {W W' : World}
theorem sameAt_old (hf : ∀ b, b < W.heap.size → W'.heap[b]? = W.heap[b]?) {p : MemPlace} (h : p.block < W.heap.size) : W.sameAt W' p := by
  cases p with
  | cell b off => simp only [World.sameAt, World.cell?]; rw [hf b h]
  | map b => exact hf b h
theorem carryAll (hf : ∀ b, b < W.heap.size → W'.heap[b]? = W.heap[b]?) {sp : Nat → Bool} : ∀ {ts : List TypeId} {vs : List Value} {ds : List (DataW H)} {ps : List MemPlace},
    DataW.TrodAll enc P W 0 sp true ts vs ds ps → (∀ p, p ∈ ps → p.block < W.heap.size) → DataW.TrodAll enc P W' 0 sp true ts vs ds ps
  | [], [], [], _, h, _ => h
  | _ :: _, _ :: _, _ :: _, _, ⟨p, q, ⟨n, h1⟩, h2, e⟩, hs => by
    subst e
    exact ⟨p, q, ⟨n, DataW.trod_carry n _ _ _ h1 fun x hx => sameAt_old hf (hs x (List.mem_append_left _ hx))⟩, carryAll hf h2 (fun x hx => hs x (List.mem_append_right _ hx)), rfl⟩
theorem carryVars (hf : ∀ b, b < W.heap.size → W'.heap[b]? = W.heap[b]?) (K : Kids P (· < P.types.size)) (hz : ∀ t e, t < P.types.size → P.underlying t = some (.slice e) → 0 < P.cellsOf e)
    (hT : ∀ (n : String) (g : Nat) (t : TypeId), P.globalNamed n = some g → (P.globals[g]?).map (·.type) = some t → t < P.types.size) {sp : Nat → Bool} : ∀ {ns : List String} {ds : List (DataW H)} {ps : List MemPlace},
    DataW.TrodVars enc P W (fun _ => true) ns ds ps → (∀ p, p ∈ ps → p.block < W.heap.size) → (∀ p, p ∈ ps → sp p.block = true) → DataW.TrodVars enc P W' sp ns ds ps
  | [], [], _, h, _, _ => h
  | n :: _, _ :: _, _, ⟨g, t, cs, fuel, p, q, h1, h2, h3, h4, h5, e⟩, hs, hp => by
    subst e
    refine ⟨g, t, cs, fuel, p, q, h1, h2, ?_, ?_, carryVars hf K hz hT h5 (fun x hx => hs x (List.mem_append_right _ hx)) (fun x hx => hp x (List.mem_append_right _ hx)), rfl⟩
    · unfold World.var? at h3 ⊢
      rw [h1] at h3 ⊢
      simp only [Option.bind_some] at h3 ⊢
      have hg : g < W.heap.size := by
        split at h3
        · rename_i hb; exact (Array.getElem?_eq_some_iff.1 hb).1
        · cases h3
      rw [hf g hg]
      exact h3
    · have hp' : ∀ x, x ∈ p → sp x.block = true := fun x hx => hp x (List.mem_append_left _ (List.mem_append_right _ hx))
      have h4' := DataW.trod_respare (spare' := sp) K hz fuel t cs.toList (_, p) (hT n g t h1 h2) h4 hp'
      exact DataW.trod_carry fuel _ _ _ h4' fun x hx => sameAt_old hf (hs x (List.mem_append_left _ (List.mem_append_right _ hx)))
theorem post_old {f : Func} {s : ChangeSpec} {apart fresh handsOn again : Bool} {args : Array Value} {v : Value} {ds gs : List (DataW H)} {before : List MemPlace}
    (K : Kids P (· < P.types.size)) (hz : ∀ t e, t < P.types.size → P.underlying t = some (.slice e) → 0 < P.cellsOf e)
    (hT : ∀ (n : String) (g : Nat) (t : TypeId), P.globalNamed n = some g → (P.globals[g]?).map (·.type) = some t → t < P.types.size) (hP : ∀ t, t ∈ f.params.toList → t < P.types.size)
    (hW : DataW.Whole enc P f.params.toList s.vars apart W args.toList ds gs before)
    (hres : ∀ (b : Nat) (sp : Nat → Bool) (hd : Bool), DataW.TrodAll enc P W' b sp hd f.resultTypes.toList (v.resultList f.resultTypes.size) (s.fn H (ds ++ gs)).results [])
    (hargs : (s.fn H (ds ++ gs)).args = ds) (hvars : (s.fn H (ds ++ gs)).vars = gs)
    (hos : W'.os = W.os) (hout : W'.output = W.output) (hf : ∀ b, b < W.heap.size → W'.heap[b]? = W.heap[b]?)
    (hok : ∀ (j : Nat) (t : TypeId) (r : Value), f.resultTypes[j]? = some t → (v.resultList f.resultTypes.size)[j]? = some r → Value.okWide P W' .any 0 t r) :
    s.post enc P f apart fresh handsOn again W args v W' := by
  have hlt := hW.lt
  have hW0 := hW
  obtain ⟨pa, pv, hA, hV, rfl, hz0, hn⟩ := hW0
  have hA' : ∀ sp : Nat → Bool, (∀ p, p ∈ pa ++ pv → sp p.block = true) → DataW.TrodAll enc P W' 0 sp true f.params.toList args.toList (s.fn H (ds ++ gs)).args pa := fun sp h => by
    rw [hargs]
    exact carryAll hf (DataW.TrodAll.respare K hz hP hA fun p hp => h p (List.mem_append_left _ hp)) fun p hp => hlt p (List.mem_append_left _ hp)
  have hV' : ∀ sp : Nat → Bool, (∀ p, p ∈ pa ++ pv → sp p.block = true) → DataW.TrodVars enc P W' sp s.vars (s.fn H (ds ++ gs)).vars pv := fun sp h => by
    rw [hvars]
    exact carryVars hf K hz hT hV (fun p hp => hlt p (List.mem_append_right _ hp)) fun p hp => h p (List.mem_append_right _ hp)
  have hold : ∀ p, p ∈ pa ++ pv → (fun b => decide (b < W.heap.size)) p.block = true := fun p hp => by simpa using hlt p hp
  refine ⟨ds, gs, pa ++ pv, [], pa, pv, hW, hres _ _ _, hA' _ hold, hV' _ hold, ⟨hos, hout, fun i hi => ?_⟩, fun _ => ⟨hok, _, _, ([] ++ pa) ++ pv, ⟨[] ++ pa, pv, trodAll_append (hA' _ (fun _ _ => rfl)) (hres _ _ _), hV' _ (fun _ _ => rfl), rfl, ?_, ?_⟩, ?_⟩⟩
  · rw [hf i hi]
    cases W.heap[i]? with
    | none => rfl
    | some o =>
      cases o with
      | cells c t fr => exact ⟨rfl, rfl, rfl, fun _ _ => rfl⟩
      | map es clock => exact .inr ⟨rfl, rfl⟩
      | _ => rfl
  · intro b off hp
    have hp : MemPlace.cell b off ∈ pa ++ pv := by simpa using hp
    have := hz0 b off hp
    unfold World.frozen? at this ⊢
    rw [hf b (hlt _ hp)]
    exact this
  · intro ha
    simpa using hn ha
  · intro p hp _
    simpa using hp
end
theorem cell_of_slice {P : Program} {W : World} {r : Reach} {base : Nat} {t e : TypeId} {v c : Value} (hu : P.underlying t = some (.slice e)) (hval : Value.okWide P W r base t v) (h : v.cells.toList = [c]) : v = c := by
  unfold Value.okWide at hval
  rw [hu] at hval
  cases v with
  | agg cs => simp [Cell.okWide, Cell.ok, hu] at hval
  | _ => simpa [Value.cells] using h
def gh0 (W : World) : Gh := ⟨[], mk0 W, []⟩
theorem rest_sh {L : Lk} {W : World} (hg : ∀ i, GlobR L (gh0 W) [] W i) : RelSh L (gh0 W) 0 [] [] W where
  nb := rfl
  bkl := rfl
  box := fun i x blk h _ => by simp at h
  inj := fun i j b h _ => by simp [gh0] at h
  rwl := rfl
  row := fun k n e h => by simp at h
  rinj := fun i j b h _ => by simp [gh0] at h
  fresh := fun b hb => by
    show mk0 W b = 0
    unfold mk0
    rw [Array.getElem?_eq_none hb]
  glob := hg
theorem glob_nil {L : Lk} {g : Gh} {rl : List (Nat × Nat)} {W : World} {i : Nat} (h : L.gl i = []) : GlobR L g rl W i := by
  refine ⟨?_, fun hn => absurd h hn⟩
  rw [h]
  exact .elt [] _ _ (fun _ => .nilFunc) (Nat.zero_le _) (fun j hj => by simp at hj) (fun j y hy => by simp at hy)
theorem glob_of {L : Lk} {W : World} {i : Nat} {n : String} {d : DataW Unit} {laid : List (String × DataW Unit)} (S : List TypeId) (hS : S.all (okTy L.P S) = true) (hn : L.P.globalNamed n = some (L.gn i)) (hl : laidMet L.P laid W) (hm : (n, d) ∈ laid)
    (ht : ∀ t, (L.P.globals[L.gn i]?).map (·.type) = some t → t ∈ S ∧ (d.weights L.P t).all (fun y => Nat.ble y reachBytes) = true) (hd : L.gl i = dvs d) : GlobR L (gh0 W) [] W i := by
  have key : ∀ (laid : List (String × DataW Unit)) (ps : List MemPlace), DataW.LaidVars L.P W laid ps → (n, d) ∈ laid → ∃ t cs fuel p, (L.P.globals[L.gn i]?).map (·.type) = some t ∧ W.var? L.P n = some cs ∧ DataW.trod (fun _ => ()) L.P W 0 (fun _ => true) false fuel t cs.toList = some (d, p) := by
    intro laid
    induction laid with
    | nil => intro ps _ h; simp at h
    | cons x r ih =>
      obtain ⟨n', d'⟩ := x
      intro ps h hm
      obtain ⟨g, t, cs, fuel, p, q, h1, h2, h3, h4, h5, _⟩ := h
      rcases List.mem_cons.1 hm with e | hm
      · injection e with e1 e2
        subst e1
        subst e2
        rw [hn] at h1
        injection h1 with h1
        subst h1
        exact ⟨t, cs, fuel, p, h2, h3, h4⟩
      · exact ih q h5 hm
  obtain ⟨ps, hv, _⟩ := hl
  obtain ⟨t, cs, fuel, p, h1, h2, h3⟩ := key laid ps hv hm
  obtain ⟨tS, tw⟩ := ht t h1
  obtain ⟨⟨r1, r2⟩, _⟩ := open_fit (w := W) S hS fuel t cs.toList (d, p) tS (fun y hy => Nat.le_of_ble_eq_true (List.all_eq_true.1 tw y hy)) h3
  have hb : ∃ ty fr, W.heap[L.gn i]? = some (.cells cs ty fr) := by
    unfold World.var? at h2
    rw [hn] at h2
    simp only [Option.bind_some] at h2
    split at h2
    · rename_i c ty fr hb
      injection h2 with h2
      subst h2
      exact ⟨ty, fr, hb⟩
    · cases h2
  obtain ⟨ty, fr, hb⟩ := hb
  have hlen : (L.gl i).length = cs.size := by rw [hd, r1]; simp
  have hmk : mk0 W (L.gn i) = cs.size := by unfold mk0; rw [hb]
  have hget : ∀ j, j < cs.size → cs[j]? = some (cs.getD j .nilFunc) := fun j hj => by simp [Array.getD, hj]
  refine ⟨.elt _ _ _ (fun j => cs.getD j .nilFunc) ?_ ?_ ?_, fun _ => ⟨ty, ?_⟩⟩
  · show 0 + (L.gl i).length ≤ mk0 W (L.gn i)
    omega
  · intro j hj
    unfold World.cell?
    simp only [hb, Option.isSome_none, Bool.false_eq_true, if_false, Nat.zero_add]
    exact hget j (by omega)
  · intro j y hy
    have hj : j < cs.size := by have := (List.getElem?_eq_some_iff.1 hy).1; omega
    refine r2 j y _ (by rw [← hd]; exact hy) ?_
    have := hget j hj
    simpa using this
  · unfold World.shape?
    rw [hb, hlen]
end Go.Ab
