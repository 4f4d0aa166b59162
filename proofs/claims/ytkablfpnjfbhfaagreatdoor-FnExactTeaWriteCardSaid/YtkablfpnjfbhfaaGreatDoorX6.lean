import Derived.Test.YtkablfpnjfbhfaaGreatDoorX5
namespace Go.Ab
open Go
abbrev Str := List UInt8
inductive Nd where
  | mk (sort num : Int) (text : Str) (names : List Str) (kids : List Nd)
namespace Nd
def sort : Nd → Int | .mk s _ _ _ _ => s
def num : Nd → Int | .mk _ n _ _ _ => n
def text : Nd → Str | .mk _ _ t _ _ => t
def names : Nd → List Str | .mk _ _ _ ns _ => ns
def kids : Nd → List Nd | .mk _ _ _ _ ks => ks
theorem kid_lt {t k : Nd} (h : k ∈ t.kids) : SizeOf.sizeOf k < SizeOf.sizeOf t := by
  cases t with
  | mk s n t ns ks =>
    have := List.sizeOf_lt_of_mem (show k ∈ ks from h)
    simp only [Nd.mk.sizeOf_spec]; omega
theorem ind {P : Nd → Prop} (h : ∀ t, (∀ k, k ∈ t.kids → P k) → P t) (t : Nd) : P t := by
  have key : ∀ n t, SizeOf.sizeOf t = n → P t := by
    intro n
    induction n using Nat.strongRecOn with
    | ind n ih => exact fun t ht => h t fun k hk => ih _ (by have := kid_lt hk; omega) k rfl
  exact key _ t rfl
end Nd
def encS (l : List Str) : List (List DV) := l.map fun s => [.str s]
mutual
def cT : Nd → List DV
  | .mk s n t ns ks => [.int .i64 s, .int .i64 n, .str t, .sl (encS ns), .sl (cTs ks)]
def cTs : List Nd → List (List DV)
  | [] => []
  | k :: r => cT k :: cTs r
end
mutual
def cK : Nd → List DV
  | .mk s _ _ ns ks => [.int .i64 s, .sl (encS ns), .sl (cKs ks)]
def cKs : List Nd → List (List DV)
  | [] => []
  | k :: r => cK k :: cKs r
end
theorem cTs_eq : ∀ l, cTs l = l.map cT
  | [] => rfl
  | k :: r => by rw [cTs, cTs_eq r]; rfl
theorem cKs_eq : ∀ l, cKs l = l.map cK
  | [] => rfl
  | k :: r => by rw [cKs, cKs_eq r]; rfl
theorem cT_eq (t : Nd) : cT t = [.int .i64 t.sort, .int .i64 t.num, .str t.text, .sl (encS t.names), .sl (t.kids.map cT)] := by
  cases t; rw [cT, cTs_eq]; rfl
theorem cK_eq (t : Nd) : cK t = [.int .i64 t.sort, .sl (encS t.names), .sl (t.kids.map cK)] := by
  cases t; rw [cK, cKs_eq]; rfl
def aT (t : Nd) : AV := .agg [.d (.int .i64 t.sort), .d (.int .i64 t.num), .d (.str t.text), .d (.sl (encS t.names)), .d (.sl (t.kids.map cT))]
def aK (t : Nd) : AV := .agg [.d (.int .i64 t.sort), .d (.sl (encS t.names)), .d (.sl (t.kids.map cK))]
theorem yF {xs : List Nd} {i : Nat} {K : List DV → Prop} (h : i < xs.length)
    (k : K [.int .i64 xs[i].sort, .int .i64 xs[i].num, .str xs[i].text, .sl (encS xs[i].names), .sl (xs[i].kids.map cT)]) : IdxK (xs.map cT) (i : Int) K :=
  idx_m h (by rw [cT_eq]; exact k)
theorem yG {xs : List Nd} {i : Nat} {K : List DV → Prop} (h : i < xs.length)
    (k : K [.int .i64 xs[i].sort, .sl (encS xs[i].names), .sl (xs[i].kids.map cK)]) : IdxK (xs.map cK) (i : Int) K :=
  idx_m h (by rw [cK_eq]; exact k)
theorem yE {xs : List Str} {i : Nat} {K : List DV → Prop} (h : i < xs.length) (k : K [.str xs[i]]) : IdxK (encS xs) (i : Int) K :=
  idx_m h k
theorem yD {xs : List Str} {i : Nat} {K : List DV → Prop} (h1 : i ≤ 140737488355328) (h0 : 0 < i) (h : i - 1 < xs.length) (k : K [.str xs[i - 1]]) : IdxK (encS xs) (IntKind.i64.wrap ((i : Int) - 1)) K := by
  rw [wrap64 (by omega), show (i : Int) - 1 = ((i - 1 : Nat) : Int) by omega]
  exact yE h k
theorem yC {xs : List Nd} {K : List DV → Prop} (h : 0 < xs.length)
    (k : K [.int .i64 xs[0].sort, .int .i64 xs[0].num, .str xs[0].text, .sl (encS xs[0].names), .sl (xs[0].kids.map cT)]) : IdxK (xs.map cT) 0 K :=
  yF (i := 0) h k
theorem yA {xs : List Nd} {K : List DV → Prop} (h : 0 < xs.length)
    (k : K [.int .i64 xs[0].sort, .sl (encS xs[0].names), .sl (xs[0].kids.map cK)]) : IdxK (xs.map cK) 0 K :=
  yG (i := 0) h k
theorem yB {xs : List Str} {K : List DV → Prop} (h : 0 < xs.length) (k : K [.str xs[0]]) : IdxK (encS xs) 0 K := yE (i := 0) h k
theorem zY (l : List Nd) : (l.map cT).length = l.length := by simp
theorem zZ (l : List Nd) : (l.map cK).length = l.length := by simp
theorem zX (l : List Str) : (encS l).length = l.length := by simp [encS]
@[simp] theorem encS_len (l : List Str) : (encS l).length = l.length := by simp [encS]
mutual
def Nd.size : Nd → Nat
  | .mk _ _ _ _ ks => sizes ks + 1
def sizes : List Nd → Nat
  | [] => 0
  | k :: r => k.size + sizes r
end
theorem Nd.size_eq (t : Nd) : t.size = sizes t.kids + 1 := by cases t; rfl
theorem Nd.size_pos (t : Nd) : 1 ≤ t.size := by rw [t.size_eq]; omega
theorem sizes_snoc : ∀ (l : List Nd) (k : Nd), sizes (l ++ [k]) = sizes l + k.size
  | [], k => by simp [sizes]
  | x :: r, k => by simp [sizes, sizes_snoc r k]; omega
theorem sizes_take {l : List Nd} {i : Nat} (h : i < l.length) : sizes (l.take (i + 1)) = sizes (l.take i) + l[i].size := by
  rw [List.take_add_one, List.getElem?_eq_getElem h]; exact sizes_snoc _ _
theorem sizes_le : ∀ (l : List Nd) (i : Nat), sizes (l.take i) ≤ sizes l
  | [], i => by simp [sizes]
  | x :: r, 0 => by simp [sizes]
  | x :: r, i + 1 => by simp [sizes]; exact sizes_le r i
theorem sizes_all {l : List Nd} {i : Nat} (h : l.length ≤ i) : sizes (l.take i) = sizes l := by rw [List.take_of_length_le h]
inductive OkG (al : Bool → Nd → Prop) (ka : Nd → Nat → Bool) (mx : Int) : Bool → Int → Nd → Prop where
  | mk (a : Bool) (d : Int) (t : Nd) (hd : d ≤ mx) (h : al a t) (hk : ∀ i (h : i < t.kids.length), OkG al ka mx (ka t i) (d + 1) t.kids[i]) : OkG al ka mx a d t
theorem OkG.iff {al : Bool → Nd → Prop} {ka : Nd → Nat → Bool} {mx : Int} {a : Bool} {d : Int} {t : Nd} :
    OkG al ka mx a d t ↔ d ≤ mx ∧ al a t ∧ ∀ i (h : i < t.kids.length), OkG al ka mx (ka t i) (d + 1) t.kids[i] :=
  ⟨fun h => by cases h with | mk _ _ _ h1 h2 h3 => exact ⟨h1, h2, h3⟩, fun ⟨h1, h2, h3⟩ => .mk _ _ _ h1 h2 h3⟩
theorem OkG.kid {al : Bool → Nd → Prop} {ka : Nd → Nat → Bool} {mx : Int} {a : Bool} {d : Int} {t : Nd} {m i : Nat} (h : OkG al ka mx a d t ∧ t.size ≤ m) (hi : i < t.kids.length) :
    OkG al ka mx (ka t i) (d + 1) t.kids[i] ∧ 1 + sizes (t.kids.take i) + t.kids[i].size ≤ m ∧ d ≤ mx ∧ al a t := by
  obtain ⟨h1, h2, h3⟩ := OkG.iff.1 h.1
  have := t.size_eq
  have := sizes_take hi
  have := sizes_le t.kids (i + 1)
  exact ⟨h3 i hi, by omega, h1, h2⟩
theorem OkG.done {al : Bool → Nd → Prop} {ka : Nd → Nat → Bool} {mx : Int} {a : Bool} {d : Int} {t : Nd} {i : Nat} (hd : d ≤ mx) (ha : al a t) (hi : t.kids.length ≤ i)
    (hk : AllB i fun j => ∀ h : j < t.kids.length, OkG al ka mx (ka t j) (d + 1) t.kids[j]) : OkG al ka mx a d t ∧ t.size = 1 + sizes (t.kids.take i) :=
  ⟨OkG.iff.2 ⟨hd, ha, fun j h => hk j (by omega) h⟩, by rw [t.size_eq, sizes_all hi]; omega⟩
theorem zW {k : IntKind} {a b : Int} (h : a = b) : DV.int k a = DV.int k b := congrArg _ h
end Go.Ab
