import Derived.Test.YtkablfpnjfbhfaaGreatDoorX5
import Derived.Test.YtkablfpnjfbhfaaGreatDoorX9
namespace Go.Ab
open Go
def inRB : IntKind → Int → Bool
  | .i8, n => decide (-128 ≤ n) && decide (n ≤ 127)
  | .i16, n => decide (-32768 ≤ n) && decide (n ≤ 32767)
  | .i32, n => decide (-2147483648 ≤ n) && decide (n ≤ 2147483647)
  | .i64, n => decide (-9223372036854775808 ≤ n) && decide (n ≤ 9223372036854775807)
  | .u8, n => decide (0 ≤ n) && decide (n ≤ 255)
  | .u16, n => decide (0 ≤ n) && decide (n ≤ 65535)
  | .u32, n => decide (0 ≤ n) && decide (n ≤ 4294967295)
  | .u64, n => decide (0 ≤ n) && decide (n ≤ 18446744073709551615)
theorem inRB_eq {k : IntKind} {n : Int} (h : inRB k n = true) : inR k n := by
  cases k <;> simpa [inRB, inR] using h
def kindB : IntKind → IntKind → Bool
  | .i8, .i8 | .i16, .i16 | .i32, .i32 | .i64, .i64 | .u8, .u8 | .u16, .u16 | .u32, .u32 | .u64, .u64 => true
  | _, _ => false
theorem kindB_eq {a b : IntKind} (h : kindB a b = true) : a = b := by
  cases a <;> cases b <;> first | rfl | (simp [kindB] at h; done)
def bytesB : List UInt8 → List UInt8 → Bool
  | [], [] => true
  | x :: r, y :: s => Nat.beq x.toNat y.toNat && bytesB r s
  | _, _ => false
theorem bytesB_eq : ∀ {xs ys : List UInt8}, bytesB xs ys = true → xs = ys
  | [], [], _ => rfl
  | x :: r, y :: s, h => by
    simp only [bytesB, Bool.and_eq_true] at h
    rw [bytesB_eq h.2, UInt8.toNat_inj.1 (Nat.eq_of_beq_eq_true h.1)]
  | [], _ :: _, h => by simp [bytesB] at h
  | _ :: _, [], h => by simp [bytesB] at h
def krB : Value → DV → Bool
  | .bool b, .bool c => match b, c with | true, true | false, false => true | _, _ => false
  | .int k n, .int j m => kindB k j && decide (n = m) && inRB k n
  | .string s, .str l => bytesB s.data.toList l && Nat.ble l.length 140737488355328
  | .slice none n m, .sl [] => Nat.beq n 0 && Nat.beq m 0
  | .pointer none, .nilp => true
  | .nilIface, .nili => true
  | .nilFunc, .nilf => true
  | .map none, .nilm => true
  | _, _ => false
theorem krB_eq {v : Value} {d : DV} (h : krB v d = true) : KR v d ∧ (d = .sl [] → v = .slice none 0 0) := by
  unfold krB at h
  split at h
  · rename_i b c
    cases b <;> cases c <;> first | (simp at h; done) | exact ⟨fun mk w => .bool _, fun h => by cases h⟩
  · simp only [Bool.and_eq_true, decide_eq_true_eq] at h
    obtain ⟨⟨h1, h2⟩, h3⟩ := h
    rw [← kindB_eq h1, ← h2]
    exact ⟨fun mk w => .int _ _ (inRB_eq h3), fun h => by cases h⟩
  · rename_i s l
    simp only [Bool.and_eq_true] at h
    have h1 := bytesB_eq h.1
    refine ⟨fun mk w => ?_, fun h => by cases h⟩
    have : s = ⟨l.toArray⟩ := by
      cases s with | mk a => simp at h1; rw [← h1]
    rw [this]
    exact .str l (Nat.le_of_ble_eq_true h.2)
  · simp only [Bool.and_eq_true] at h
    rw [Nat.eq_of_beq_eq_true h.1, Nat.eq_of_beq_eq_true h.2]
    exact ⟨fun mk w => .slnil, fun _ => rfl⟩
  · exact ⟨fun mk w => .nilp, fun h => by cases h⟩
  · exact ⟨fun mk w => .nili, fun h => by cases h⟩
  · exact ⟨fun mk w => .nilf, fun h => by cases h⟩
  · exact ⟨fun mk w => .nilm, fun h => by cases h⟩
  · cases h
def krsB : List Value → List DV → Bool
  | [], [] => true
  | v :: r, d :: s => krB v d && krsB r s
  | _, _ => false
theorem krsB_eq : ∀ {vs : List Value} {ds : List DV}, krsB vs ds = true → vs.length = ds.length ∧ ∀ (j : Nat) (x : DV) (y : Value), ds[j]? = some x → vs[j]? = some y → KR y x ∧ (x = .sl [] → y = .slice none 0 0)
  | [], [], _ => ⟨rfl, fun j x y h => by simp at h⟩
  | v :: r, d :: s, h => by
    simp only [krsB, Bool.and_eq_true] at h
    obtain ⟨h1, h2⟩ := krsB_eq h.2
    refine ⟨by simp [h1], fun j x y hx hy => ?_⟩
    cases j with
    | zero => simp at hx hy; subst hx; subst hy; exact krB_eq h.1
    | succ j => exact h2 j x y (by simpa using hx) (by simpa using hy)
  | [], _ :: _, h => by simp [krsB] at h
  | _ :: _, [], h => by simp [krsB] at h
def zrB (z : List DV) (v : Value) : Bool := krsB v.cells.toList z
theorem zrB_eq {z : List DV} {v : Value} (h : zrB z v = true) : ZR z v := by
  obtain ⟨h1, h2⟩ := krsB_eq h
  exact ⟨by simpa using h1, fun j x y hx hy => h2 j x y hx (by simpa using hy)⟩
section
variable (L : Lk)
def argB : Operand → Arg → Bool
  | .tmp i, .t j => Nat.beq i j
  | .const v, .k d => krB v d
  | .const (.agg vs), .ka ds => krsB vs.toList ds
  | .global g, .g i => Nat.beq g (L.gn i)
  | .func f, .f i => Nat.beq f (L.fn i)
  | _, _ => false
def argsB : List Operand → List Arg → Bool
  | [], [] => true
  | x :: r, a :: s => argB L x a && argsB r s
  | _, _ => false
def optB : Option Operand → Option Arg → Bool
  | none, none => true
  | some x, some a => argB L x a
  | _, _ => false
variable {L}
theorem yP {x : Operand} {a : Arg} (h : argB L x a = true) : ArgR L x a := by
  unfold argB at h
  split at h
  · rw [Nat.eq_of_beq_eq_true h]; exact .t _
  · exact .k _ _ (krB_eq h).1 (krB_eq h).2
  · obtain ⟨h1, h2⟩ := krsB_eq h
    exact .ka _ _ (by simpa using h1) fun j x y hx hy => h2 j x y hx (by simpa using hy)
  · rw [Nat.eq_of_beq_eq_true h]; exact .g _
  · rw [Nat.eq_of_beq_eq_true h]; exact .f _
  · cases h
theorem argsB_eq' : ∀ {xs : List Operand} {as : List Arg}, argsB L xs as = true → xs.length = as.length ∧ ∀ (j : Nat) (x : Operand) (a : Arg), xs[j]? = some x → as[j]? = some a → ArgR L x a
  | [], [], _ => ⟨rfl, fun j x a h => by simp at h⟩
  | x :: r, a :: s, h => by
    simp only [argsB, Bool.and_eq_true] at h
    obtain ⟨h1, h2⟩ := argsB_eq' h.2
    refine ⟨by simp [h1], fun j x y hx hy => ?_⟩
    cases j with
    | zero => simp at hx hy; subst hx; subst hy; exact yP h.1
    | succ j => exact h2 j x y (by simpa using hx) (by simpa using hy)
  | [], _ :: _, h => by simp [argsB] at h
  | _ :: _, [], h => by simp [argsB] at h
theorem argsB_eq {xs : Array Operand} {as : List Arg} (h : argsB L xs.toList as = true) : ArgsR L xs as := by
  obtain ⟨h1, h2⟩ := argsB_eq' h
  exact ⟨by simpa using h1, fun j x a hx ha => h2 j x a (by simpa using hx) ha⟩
theorem optB_eq {x : Option Operand} {a : Option Arg} (h : optB L x a = true) : OptR L x a := by
  unfold optB at h
  split at h
  · exact .inl ⟨rfl, rfl⟩
  · exact .inr ⟨_, _, rfl, rfl, yP h⟩
  · cases h
variable (L)
def tyB (t : TypeId) (n : Nat) (ag : Bool) : Bool :=
  match L.P.info? t, L.P.underlying t with
  | some i, some d => Nat.beq i.size n && (aggD d == ag) && (ag || Nat.beq n 1)
  | _, _ => false
theorem tyB_eq {t : TypeId} {n : Nat} {ag : Bool} (h : tyB L t n ag = true) : TyR L t n ag := by
  unfold tyB at h
  split at h
  · rename_i i d hi hd
    simp only [Bool.and_eq_true, Bool.or_eq_true, beq_iff_eq] at h
    obtain ⟨⟨h1, h2⟩, h3⟩ := h
    exact ⟨⟨i, hi, Nat.eq_of_beq_eq_true h1⟩, ⟨d, hd, h2⟩, fun ha => h3.elim (fun h => by rw [ha] at h; cases h) Nat.eq_of_beq_eq_true⟩
  · cases h
def bopB : BinOp → BOp → Bool
  | .add, .add | .sub, .sub | .mul, .mul | .quo, .quo | .rem, .rem | .eql, .eql | .neq, .neq | .lss, .lss | .leq, .leq | .gtr, .gtr | .geq, .geq => true
  | _, _ => false
theorem bopB_eq {a : BinOp} {b : BOp} (h : bopB a b = true) : BopR a b := by
  cases a <;> cases b <;> first | trivial | (simp [bopB] at h; done)
def zeroB (t : TypeId) (z : List DV) : Bool :=
  match L.P.info? t with
  | some i => match i.zero with
    | some zv => zrB z zv
    | none => false
  | none => false
theorem zeroB_eq {t : TypeId} {z : List DV} (h : zeroB L t z = true) : ∃ i zv, L.P.info? t = some i ∧ i.zero = some zv ∧ ZR z zv := by
  unfold zeroB at h
  split at h
  · rename_i i hi
    split at h
    · rename_i zv hz; exact ⟨i, zv, hi, hz, zrB_eq h⟩
    · cases h
  · cases h
def sizeB (t : TypeId) (m : Nat) : Bool :=
  match L.P.info? t with
  | some i => Nat.beq i.size m
  | none => false
theorem sizeB_eq {t : TypeId} {m : Nat} (h : sizeB L t m = true) : ∃ i, L.P.info? t = some i ∧ i.size = m := by
  unfold sizeB at h
  split at h
  · rename_i i hi; exact ⟨i, hi, Nat.eq_of_beq_eq_true h⟩
  · cases h
def elemB (t : TypeId) (p : TypeId → TypeInfo → Bool) : Bool :=
  match L.P.underlying t with
  | some (.slice e) => match L.P.info? e with
    | some i => p e i
    | none => false
  | _ => false
theorem elemB_eq {t : TypeId} {p : TypeId → TypeInfo → Bool} (h : elemB L t p = true) : ∃ e i, L.P.underlying t = some (.slice e) ∧ L.P.info? e = some i ∧ p e i = true := by
  unfold elemB at h
  split at h
  · rename_i e he
    split at h
    · rename_i i hi; exact ⟨e, i, he, hi, h⟩
    · cases h
  · cases h
def partsB (fs : Array Field) : List (Nat × Operand) → List (Nat × Nat × Arg) → Bool
  | [], [] => true
  | (i, x) :: r, (off, m, a) :: s => (match fs[i]? with
    | some f => Nat.beq f.offset off && Nat.beq (L.P.cellsOf f.type) m && Nat.ble 1 m && argB L x a
    | none => false) && partsB fs r s
  | _, _ => false
theorem partsB_eq {fs : Array Field} : ∀ {ps : List (Nat × Operand)} {aps : List (Nat × Nat × Arg)}, partsB L fs ps aps = true → PartsR L (fun i => (fs[i]?).map fun (f : Field) => (f.offset, L.P.cellsOf f.type)) ps aps
  | [], [], _ => trivial
  | (i, x) :: r, (off, m, a) :: s, h => by
    simp only [partsB, Bool.and_eq_true] at h
    obtain ⟨h1, h2⟩ := h
    split at h1
    · rename_i f hf
      simp only [Bool.and_eq_true] at h1
      obtain ⟨⟨⟨q1, q2⟩, q3⟩, q4⟩ := h1
      refine ⟨?_, Nat.le_of_ble_eq_true q3, yP q4, partsB_eq h2⟩
      simp only [hf, Option.map_some]
      rw [Nat.eq_of_beq_eq_true q1, Nat.eq_of_beq_eq_true q2]
    · cases h1
  | [], _ :: _, h => by simp [partsB] at h
  | _ :: _, [], h => by simp [partsB] at h
def partsAB (es : Nat) : List (Nat × Operand) → List (Nat × Nat × Arg) → Bool
  | [], [] => true
  | (i, x) :: r, (off, m, a) :: s => Nat.beq (i * es) off && Nat.beq es m && Nat.ble 1 m && argB L x a && partsAB es r s
  | _, _ => false
theorem partsAB_eq {es : Nat} : ∀ {ps : List (Nat × Operand)} {aps : List (Nat × Nat × Arg)}, partsAB L es ps aps = true → PartsR L (fun i => some (i * es, es)) ps aps
  | [], [], _ => trivial
  | (i, x) :: r, (off, m, a) :: s, h => by
    simp only [partsAB, Bool.and_eq_true] at h
    obtain ⟨⟨⟨⟨h1, h2⟩, h3⟩, h4⟩, h5⟩ := h
    refine ⟨?_, Nat.le_of_ble_eq_true h3, yP h4, partsAB_eq h5⟩
    show some (i * es, es) = _
    rw [Nat.eq_of_beq_eq_true h1, Nat.eq_of_beq_eq_true h2]
  | [], _ :: _, h => by simp [partsAB] at h
  | _ :: _, [], h => by simp [partsAB] at h
def elsB : List (Nat × Operand) → List (Nat × Arg) → Bool
  | [], [] => true
  | (i, x) :: r, (j, a) :: s => Nat.beq i j && argB L x a && elsB r s
  | _, _ => false
theorem elsB_eq : ∀ {ps : List (Nat × Operand)} {aps : List (Nat × Arg)}, elsB L ps aps = true → ElsR L ps aps
  | [], [], _ => trivial
  | (i, x) :: r, (j, a) :: s, h => by
    simp only [elsB, Bool.and_eq_true] at h
    exact ⟨Nat.eq_of_beq_eq_true h.1.1, yP h.1.2, elsB_eq h.2⟩
  | [], _ :: _, h => by simp [elsB] at h
  | _ :: _, [], h => by simp [elsB] at h
def fieldsB (fs : List Field) : Bool := fs.all fun f => (L.P.info? f.type).isSome
def opB (o : Oper) (ao : AOp) : Bool :=
  match ao with
  | .mov a => match o.op with | .move x => argB L x a | .assign x => argB L x a | _ => false
  | .pick c a b => match o.op with | .pick x y z => argB L x c && argB L y a && argB L z b | _ => false
  | .alloc ty z => match o.op with | .alloc t => zeroB L t z && (Nat.beq ty 0 || Nat.beq t (L.tn ty)) | _ => false
  | .box a => match o.op with | .box _ x => argB L x a | _ => false
  | .build z aps => match o.op with
    | .build t ps => zeroB L t z && (match L.P.underlying t with | some (.struct fs) => fieldsB L fs.toList && partsB L fs ps.toList aps | some (.array _ e) => (match L.P.info? e with | some ei => partsAB L ei.size ps.toList aps | none => false) | _ => false)
    | _ => false
  | .bslice es _ m aps => match o.op with
    | .buildSlice t k ps => Nat.beq k m && elemB L t (fun _ i => Nat.beq i.size es && Nat.ble 1 es && Nat.ble (m * es) 16777216 && (match i.zero with | some zv => Nat.beq zv.cells.size i.size | none => false)) && elsB L ps.toList aps
    | _ => false
  | .load m ag a => match o.op with | .load t x => tyB L t m ag && argB L x a | _ => false
  | .store m a b => match o.op with | .store t x v => sizeB L t m && argB L x a && argB L v b | _ => false
  | .nilchk a => match o.op with | .nilCheck x => argB L x a | _ => false
  | .bini _ b p q => match o.op with | .binOp op _ x y _ => bopB op b && argB L x p && argB L y q | _ => false
  | .bins b p q => match o.op with | .binOp op _ x y _ => bopB op b && argB L x p && argB L y q | _ => false
  | .binb ne p q => match o.op with
    | .binOp op t x y _ => decide (op = if ne then .neq else .eql) && (match L.P.underlying t with | some .bool => true | _ => false) && argB L x p && argB L y q
    | _ => false
  | .binp ne p q => match o.op with
    | .binOp op t x y _ => decide (op = if ne then .neq else .eql) && (match L.P.underlying t with | some (.pointer _) => true | _ => false) && argB L x p && argB L y q
    | _ => false
  | .not a => match o.op with | .unOp .not _ x => argB L x a | _ => false
  | .neg a => match o.op with | .unOp .neg _ x => argB L x a | _ => false
  | .conv k a => match o.op with
    | .convert s t x => (L.P.underlying s).isSome && (match L.P.underlying t with | some (.int j) => kindB j k | _ => false) && argB L x a
    | _ => false
  | .b2s a => match o.op with
    | .convert s t x => (match L.P.underlying s with | some (.slice e) => (match L.P.underlying e with | some (.int .u8) => true | _ => false) | _ => false) && (match L.P.underlying t with | some .string => true | _ => false) && argB L x a
    | _ => false
  | .same a => match o.op with
    | .convert s t x => (match L.P.underlying s with | some .string => true | _ => false) && (match L.P.underlying t with | some .string => true | _ => false) && argB L x a
    | _ => false
  | .mkfn f as => match o.op with
    | .makeFunc (.func g) fst cs => Nat.beq g (L.fn f) && fst.toList.isEmpty && argsB L cs.toList as
    | _ => false
  | .mkslice es bytes z p q => match o.op with
    | .makeSlice t x y => elemB L t (fun e i => Nat.beq i.size es && Nat.beq i.bytes bytes && zeroB L e z) && argB L x p && argB L y q
    | _ => false
  | .cutS a lo hi => match o.op with
    | .slice t x l h none => (match L.P.underlying t with | some .string => true | _ => false) && argB L x a && optB L l lo && optB L h hi
    | _ => false
  | .cutL es a lo hi => match o.op with
    | .slice t x l h none => elemB L t (fun _ i => Nat.beq i.size es) && argB L x a && optB L l lo && optB L h hi
    | _ => false
  | .cutA es m a none none => match o.op with
    | .slice t x none none none => (match L.P.underlying t with | some (.array k e) => Nat.beq k m && Nat.ble m 140737488355328 && sizeB L e es | _ => false) && argB L x a
    | _ => false
  | .faddr off a => match o.op with
    | .fieldAddr s x i => (match L.P.underlying s with
      | some (.struct fs) => (match fs[i]? with
        | some f => Nat.beq f.offset off && (match L.P.info? f.type with | some fi => Nat.ble 1 fi.size | none => false)
        | none => false)
      | _ => false) && argB L x a
    | _ => false
  | .fld off m ag a => match o.op with
    | .field s x i => (match L.P.underlying s with
      | some (.struct fs) => (match fs[i]? with
        | some f => Nat.beq f.offset off && tyB L f.type m ag && Nat.ble 1 m
        | none => false)
      | _ => false) && argB L x a
    | _ => false
  | .iaddrL es a b => match o.op with | .indexAddr t x i => elemB L t (fun _ ei => Nat.beq ei.size es) && argB L x a && argB L i b | _ => false
  | .iaddrA es m a b => match o.op with
    | .indexAddr t x i => (match L.P.underlying t with | some (.array k e) => Nat.beq k m && sizeB L e es | _ => false) && argB L x a && argB L i b
    | _ => false
  | .idxS a b => match o.op with | .index t x i => (match L.P.underlying t with | some .string => true | _ => false) && argB L x a && argB L i b | _ => false
  | .idxA es m ag a b => match o.op with
    | .index t x i => Nat.beq es 1 && (!ag) && (match L.P.underlying t with | some (.array k e) => Nat.beq k m && tyB L e 1 false | _ => false) && argB L x a && argB L i b
    | _ => false
  | .range a => match o.op with | .range t x => (match L.P.underlying t with | some .string => true | _ => false) && argB L x a | _ => false
  | .next a => match o.op with | .next x true => argB L x a | _ => false
  | .ext a k => match o.op with | .extract x i => Nat.beq i k && argB L x a | _ => false
  | .call f as => match o.op with
    | .call c => (match c.callee with | .value (.func g) => Nat.beq g (L.fn f) | _ => false) && argsB L c.args.toList as
    | _ => false
  | .callv a as => match o.op with
    | .call c => (match c.callee with | .value x => argB L x a | _ => false) && argsB L c.args.toList as
    | _ => false
  | .lenS a => match o.op with
    | .call c => (match c.callee with | .builtin .len => true | _ => false) && (match c.args.toList, c.argTypes.toList with | [x], [t] => (match L.P.underlying t with | some .string => true | _ => false) && argB L x a | _, _ => false)
    | _ => false
  | .lenL a => match o.op with
    | .call c => (match c.callee with | .builtin .len => true | _ => false) && (match c.args.toList, c.argTypes.toList with | [x], [t] => (match L.P.underlying t with | some (.slice _) => true | _ => false) && argB L x a | _, _ => false)
    | _ => false
  | .app es bytes z a b => match o.op with
    | .call c => (match c.callee with | .builtin .append => true | _ => false) && (match c.args.toList, c.argTypes.toList with
      | [x, y], [t, s] => Nat.beq t s && Nat.beq (esz (rowKey z es)) es && elemB L t (fun e i => (!Nat.beq (rowKey z es) 1000 || Nat.beq e L.u8) && Nat.beq i.size es && Nat.beq i.bytes bytes && Nat.ble 1 es && Nat.ble 1 bytes && (match i.zero with | some zv => Nat.beq zv.cells.size i.size | none => false)) && argB L x a && argB L y b
      | _, _ => false)
    | _ => false
  | .appS a b => match o.op with
    | .call c => (match c.callee with | .builtin .append => true | _ => false) && (match c.args.toList, c.argTypes.toList with
      | [x, y], [t, s] => (match L.P.underlying s with | some .string => true | _ => false) && elemB L t (fun e i => Nat.beq e L.u8 && Nat.beq i.size 1 && Nat.beq i.bytes 1 && (match i.zero with | some zv => Nat.beq zv.cells.size i.size | none => false)) && argB L x a && argB L y b
      | _, _ => false)
    | _ => false
  | .sdata a => match o.op with
    | .call c => (match c.callee with | .builtin .unsafeSliceData => true | _ => false) && (match c.args.toList, c.argTypes.toList with | [x], [_] => argB L x a | _, _ => false)
    | _ => false
  | .ustr p m => match o.op with
    | .call c => (match c.callee with | .builtin .unsafeString => true | _ => false) && (match c.args.toList, c.argTypes.toList with
      | [x, y], [t, _] => (match L.P.underlying t with | some (.pointer e) => Nat.beq e L.u8 | _ => false) && Nat.beq (L.P.cellsOf L.u8) 1 && argB L x p && argB L y m
      | _, _ => false)
    | _ => false
  | .other => true
  | .mkif t a => match o.op with
    | .makeInterface u x => Nat.beq u (L.tn t) && (match L.P.underlying u with | some (.interface _) => false | some _ => true | none => false) && argB L x a
    | _ => false
  | _ => false
theorem opB_eq {L : Lk} {n : Nat} (hc : ∀ f, CallOk L f) {o : Oper} {ao : AOp} (h : opB L o ao = true) : OpS L n o ao := by
  have beq : ∀ {a b : Nat}, Nat.beq a b = true → a = b := fun h => Nat.eq_of_beq_eq_true h
  cases ao <;> simp only [opB] at h
  case mov a =>
    split at h
    · rename_i x ho; exact snd_mov (.inl ho) (yP h)
    · rename_i x ho; exact snd_mov (.inr ho) (yP h)
    · cases h
  case pick c a b =>
    split at h
    · rename_i x y z ho
      simp only [Bool.and_eq_true] at h
      exact snd_pick ho (yP h.1.1) (yP h.1.2) (yP h.2)
    · cases h
  case alloc ty z =>
    split at h
    · rename_i t ho
      simp only [Bool.and_eq_true, Bool.or_eq_true] at h
      obtain ⟨i, zv, h1, h2, h3⟩ := zeroB_eq L h.1
      exact snd_alloc ho h1 h2 h3 (h.2.imp beq beq)
    · cases h
  case box a =>
    split at h
    · rename_i t x ho; exact snd_box ho (yP h)
    · cases h
  case build z aps =>
    split at h
    · rename_i t ps ho
      simp only [Bool.and_eq_true] at h
      obtain ⟨h1, h2⟩ := h
      obtain ⟨i, zv, q1, q2, q3⟩ := zeroB_eq L h1
      split at h2
      · rename_i fs hfs
        simp only [Bool.and_eq_true] at h2
        refine snd_build ho q1 q2 q3 hfs (fun f hf => ?_) (partsB_eq L h2.2)
        have := List.all_eq_true.1 h2.1 f hf
        exact Option.isSome_iff_exists.1 this
      · rename_i m e hfs
        split at h2
        · rename_i ei he; exact snd_buildA ho q1 q2 q3 hfs he (partsAB_eq L h2)
        · cases h2
      · cases h2
    · cases h
  case bslice es z m aps =>
    split at h
    · rename_i t k ps ho
      simp only [Bool.and_eq_true] at h
      obtain ⟨⟨h0, h1⟩, h2⟩ := h
      obtain ⟨e, i, q1, q2, q3⟩ := elemB_eq L h1
      simp only [Bool.and_eq_true] at q3
      obtain ⟨⟨⟨r1, r2⟩, r3⟩, r4⟩ := q3
      have hes := beq r1
      split at r4
      · rename_i zv hz
        have hk := beq h0
        subst hk; subst hes
        exact snd_bslice ho q1 q2 hz (beq r4) (Nat.le_of_ble_eq_true r2) (Nat.le_of_ble_eq_true r3) (elsB_eq L h2)
      · cases r4
    · cases h
  case load m ag a =>
    split at h
    · rename_i t x ho
      simp only [Bool.and_eq_true] at h
      exact snd_load ho (tyB_eq L h.1) (yP h.2)
    · cases h
  case store m a b =>
    split at h
    · rename_i t x v ho
      simp only [Bool.and_eq_true] at h
      obtain ⟨i, h1, h2⟩ := sizeB_eq L h.1.1
      exact snd_store ho h1 h2 (yP h.1.2) (yP h.2)
    · cases h
  case nilchk a =>
    split at h
    · rename_i x ho; exact snd_nilchk ho (yP h)
    · cases h
  case bini k b p q =>
    split at h
    · rename_i op t x y t' ho
      simp only [Bool.and_eq_true] at h
      exact snd_bini ho (bopB_eq h.1.1) (yP h.1.2) (yP h.2)
    · cases h
  case bins b p q =>
    split at h
    · rename_i op t x y t' ho
      simp only [Bool.and_eq_true] at h
      exact snd_bins ho (bopB_eq h.1.1) (yP h.1.2) (yP h.2)
    · cases h
  case binb ne p q =>
    split at h
    · rename_i op t x y t' ho
      simp only [Bool.and_eq_true, decide_eq_true_eq] at h
      obtain ⟨⟨⟨h1, h2⟩, h3⟩, h4⟩ := h
      split at h2
      · rename_i ht; subst h1; exact snd_binb ho ht (yP h3) (yP h4)
      · cases h2
    · cases h
  case binp ne p q =>
    split at h
    · rename_i op t x y t' ho
      simp only [Bool.and_eq_true, decide_eq_true_eq] at h
      obtain ⟨⟨⟨h1, h2⟩, h3⟩, h4⟩ := h
      split at h2
      · rename_i ht; subst h1; exact snd_binp ho ht (yP h3) (yP h4)
      · cases h2
    · cases h
  case not a =>
    split at h
    · rename_i t x ho; exact snd_not ho (yP h)
    · cases h
  case neg a =>
    split at h
    · rename_i t x ho; exact snd_neg ho (yP h)
    · cases h
  case conv k a =>
    split at h
    · rename_i s t x ho
      simp only [Bool.and_eq_true] at h
      obtain ⟨⟨h1, h2⟩, h3⟩ := h
      obtain ⟨ss, hs⟩ := Option.isSome_iff_exists.1 h1
      split at h2
      · rename_i j ht; have := kindB_eq h2; subst this; exact snd_conv ho hs ht (yP h3)
      · cases h2
    · cases h
  case b2s a =>
    split at h
    · rename_i s t x ho
      simp only [Bool.and_eq_true] at h
      obtain ⟨⟨h1, h2⟩, h3⟩ := h
      split at h1
      · rename_i e hs
        split at h1
        · rename_i he
          split at h2
          · rename_i ht; exact snd_b2s ho hs ht he (yP h3)
          · cases h2
        · cases h1
      · cases h1
    · cases h
  case same a =>
    split at h
    · rename_i s t x ho
      simp only [Bool.and_eq_true] at h
      obtain ⟨⟨h1, h2⟩, h3⟩ := h
      split at h1
      · rename_i hs
        split at h2
        · rename_i ht; exact snd_same ho hs ht (yP h3)
        · cases h2
      · cases h1
    · cases h
  case mkfn f as =>
    split at h
    · rename_i g fst cs ho
      simp only [Bool.and_eq_true, List.isEmpty_iff, Array.toList_eq_nil_iff] at h
      obtain ⟨⟨h1, h2⟩, h3⟩ := h
      have h1 := beq h1
      subst h1; subst h2
      exact snd_mkfn ho (argsB_eq h3)
    · cases h
  case mkslice es bytes z p q =>
    split at h
    · rename_i t x y ho
      simp only [Bool.and_eq_true] at h
      obtain ⟨⟨h1, h2⟩, h3⟩ := h
      obtain ⟨e, i, q1, q2, q3⟩ := elemB_eq L h1
      simp only [Bool.and_eq_true] at q3
      obtain ⟨⟨r1, r2⟩, r3⟩ := q3
      obtain ⟨i', zv, s1, s2, s3⟩ := zeroB_eq L r3
      rw [q2] at s1; cases s1
      have r1 := beq r1; have r2 := beq r2
      subst r1; subst r2
      exact snd_mkslice ho q1 q2 s2 s3 (yP h2) (yP h3)
    · cases h
  case cutS a lo hi =>
    split at h
    · rename_i t x l hh ho
      simp only [Bool.and_eq_true] at h
      obtain ⟨⟨⟨h1, h2⟩, h3⟩, h4⟩ := h
      split at h1
      · rename_i ht; exact snd_cutS ho ht (yP h2) (optB_eq h3) (optB_eq h4)
      · cases h1
    · cases h
  case cutL es a lo hi =>
    split at h
    · rename_i t x l hh ho
      simp only [Bool.and_eq_true] at h
      obtain ⟨⟨⟨h1, h2⟩, h3⟩, h4⟩ := h
      obtain ⟨e, i, q1, q2, q3⟩ := elemB_eq L h1
      have q3 := beq q3; subst q3
      exact snd_cutL ho q1 q2 (yP h2) (optB_eq h3) (optB_eq h4)
    · cases h
  case cutA es m a lo hi =>
    cases lo <;> cases hi <;> simp only [] at h <;> first | (cases h; done) | skip
    split at h
    · rename_i t x ho
      simp only [Bool.and_eq_true] at h
      obtain ⟨h1, h2⟩ := h
      split at h1
      · rename_i k e ht
        simp only [Bool.and_eq_true] at h1
        obtain ⟨⟨q1, q2⟩, q3⟩ := h1
        obtain ⟨i, r1, r2⟩ := sizeB_eq L q3
        have q1 := beq q1; subst q1; subst r2
        exact snd_cutA ho ht r1 (Nat.le_of_ble_eq_true q2) (yP h2)
      · cases h1
    · cases h
  case faddr off a =>
    split at h
    · rename_i s x i ho
      simp only [Bool.and_eq_true] at h
      obtain ⟨h1, h2⟩ := h
      split at h1
      · rename_i fs hfs
        split at h1
        · rename_i f hf
          simp only [Bool.and_eq_true] at h1
          obtain ⟨q1, q2⟩ := h1
          split at q2
          · rename_i fi hfi
            have q1 := beq q1; subst q1
            have := Nat.le_of_ble_eq_true q2
            exact snd_faddr ho hfs hf hfi (by omega) (yP h2)
          · cases q2
        · cases h1
      · cases h1
    · cases h
  case fld off m ag a =>
    split at h
    · rename_i s x i ho
      simp only [Bool.and_eq_true] at h
      obtain ⟨h1, h2⟩ := h
      split at h1
      · rename_i fs hfs
        split at h1
        · rename_i f hf
          simp only [Bool.and_eq_true] at h1
          obtain ⟨⟨q1, q2⟩, q3⟩ := h1
          have q1 := beq q1; subst q1
          exact snd_fld ho hfs hf (tyB_eq L q2) (yP h2) (Nat.le_of_ble_eq_true q3)
        · cases h1
      · cases h1
    · cases h
  case iaddrL es a b =>
    split at h
    · rename_i t x i ho
      simp only [Bool.and_eq_true] at h
      obtain ⟨⟨h1, h2⟩, h3⟩ := h
      obtain ⟨e, ei, q1, q2, q3⟩ := elemB_eq L h1
      have q3 := beq q3; subst q3
      exact snd_iaddrL ho q1 q2 (yP h2) (yP h3)
    · cases h
  case iaddrA es m a b =>
    split at h
    · rename_i t x i ho
      simp only [Bool.and_eq_true] at h
      obtain ⟨⟨h1, h2⟩, h3⟩ := h
      split at h1
      · rename_i k e ht
        simp only [Bool.and_eq_true] at h1
        obtain ⟨q1, q2⟩ := h1
        obtain ⟨ei, r1, r2⟩ := sizeB_eq L q2
        have q1 := beq q1; subst q1; subst r2
        exact snd_iaddrA ho ht r1 (yP h2) (yP h3)
      · cases h1
    · cases h
  case idxS a b =>
    split at h
    · rename_i t x i ho
      simp only [Bool.and_eq_true] at h
      obtain ⟨⟨h1, h2⟩, h3⟩ := h
      split at h1
      · rename_i ht; exact snd_idxS ho ht (yP h2) (yP h3)
      · cases h1
    · cases h
  case idxA es m ag a b =>
    split at h
    · rename_i t x i ho
      simp only [Bool.and_eq_true, Bool.not_eq_true'] at h
      obtain ⟨⟨⟨⟨h0, h1⟩, h2⟩, h3⟩, h4⟩ := h
      have h0 := beq h0; subst h0; subst h1
      split at h2
      · rename_i k e ht
        simp only [Bool.and_eq_true] at h2
        have q1 := beq h2.1; subst q1
        exact snd_idxA ho ht (tyB_eq L h2.2) (yP h3) (yP h4)
      · cases h2
    · cases h
  case range a =>
    split at h
    · rename_i t x ho
      simp only [Bool.and_eq_true] at h
      obtain ⟨h1, h2⟩ := h
      split at h1
      · rename_i ht; exact snd_range ho ht (yP h2)
      · cases h1
    · cases h
  case next a =>
    split at h
    · rename_i x ho; exact snd_next ho (yP h)
    · cases h
  case ext a k =>
    split at h
    · rename_i x i ho
      simp only [Bool.and_eq_true] at h
      have q1 := beq h.1; subst q1
      exact snd_ext ho (yP h.2)
    · cases h
  case call f as =>
    split at h
    · rename_i c ho
      simp only [Bool.and_eq_true] at h
      obtain ⟨h1, h2⟩ := h
      obtain ⟨callee, args, tys⟩ := c
      simp only at h1 h2
      split at h1
      · rename_i g
        have h1 := beq h1; subst h1
        exact snd_call ho (hc f) (argsB_eq h2)
      · cases h1
    · cases h
  case callv a as =>
    split at h
    · rename_i c ho
      simp only [Bool.and_eq_true] at h
      obtain ⟨h1, h2⟩ := h
      obtain ⟨callee, args, tys⟩ := c
      simp only at h1 h2
      split at h1
      · exact snd_callv ho hc (yP h1) (argsB_eq h2)
      · cases h1
    · cases h
  case lenS a =>
    split at h
    · rename_i c ho
      simp only [Bool.and_eq_true] at h
      obtain ⟨h1, h2⟩ := h
      obtain ⟨callee, args, tys⟩ := c
      obtain ⟨args⟩ := args
      obtain ⟨tys⟩ := tys
      simp only at h1 h2
      split at h1
      · split at h2
        · rename_i x t
          simp only [Bool.and_eq_true] at h2
          obtain ⟨q1, q2⟩ := h2
          split at q1
          · rename_i ht; exact snd_lenS ho ht (yP q2)
          · cases q1
        · cases h2
      · cases h1
    · cases h
  case lenL a =>
    split at h
    · rename_i c ho
      simp only [Bool.and_eq_true] at h
      obtain ⟨h1, h2⟩ := h
      obtain ⟨callee, args, tys⟩ := c
      obtain ⟨args⟩ := args
      obtain ⟨tys⟩ := tys
      simp only at h1 h2
      split at h1
      · split at h2
        · rename_i x t
          simp only [Bool.and_eq_true] at h2
          obtain ⟨q1, q2⟩ := h2
          split at q1
          · rename_i ht; exact snd_lenL ho ht (yP q2)
          · cases q1
        · cases h2
      · cases h1
    · cases h
  case app es bytes z a b =>
    split at h
    · rename_i c ho
      simp only [Bool.and_eq_true] at h
      obtain ⟨h1, h2⟩ := h
      obtain ⟨callee, args, tys⟩ := c
      obtain ⟨args⟩ := args
      obtain ⟨tys⟩ := tys
      simp only at h1 h2
      split at h1
      · split at h2
        · rename_i x y t s
          simp only [Bool.and_eq_true] at h2
          obtain ⟨⟨⟨⟨q0, qk⟩, q1⟩, q2⟩, q3⟩ := h2
          have q0 := beq q0; subst q0
          obtain ⟨e, i, r1, r2, r3⟩ := elemB_eq L q1
          simp only [Bool.and_eq_true, Bool.or_eq_true, Bool.not_eq_true'] at r3
          obtain ⟨⟨⟨⟨⟨s0, s1⟩, s2⟩, s3⟩, s4⟩, s5⟩ := r3
          have hk8 : rowKey z es = 1000 → e = L.u8 := fun hk => by
            rcases s0 with s0 | s0
            · rw [hk] at s0; cases s0
            · exact beq s0
          split at s5
          · rename_i zv hz
            have s1 := beq s1; have s2 := beq s2
            subst s1; subst s2
            exact snd_app ho r1 r2 hz (beq s5) (Nat.le_of_ble_eq_true s3) (Nat.le_of_ble_eq_true s4) (beq qk) hk8 (yP q2) (yP q3)
          · cases s5
        · cases h2
      · cases h1
    · cases h
  case appS a b =>
    split at h
    · rename_i c ho
      simp only [Bool.and_eq_true] at h
      obtain ⟨h1, h2⟩ := h
      obtain ⟨callee, args, tys⟩ := c
      obtain ⟨args⟩ := args
      obtain ⟨tys⟩ := tys
      simp only at h1 h2
      split at h1
      · split at h2
        · rename_i x y t s
          simp only [Bool.and_eq_true] at h2
          obtain ⟨⟨⟨q0, q1⟩, q2⟩, q3⟩ := h2
          split at q0
          · rename_i hu
            obtain ⟨e, i, r1, r2, r3⟩ := elemB_eq L q1
            simp only [Bool.and_eq_true] at r3
            obtain ⟨⟨⟨s0, s1⟩, s2⟩, s5⟩ := r3
            split at s5
            · rename_i zv hz; exact snd_appS ho r1 hu r2 hz (beq s5) (beq s1) (beq s2) (beq s0) (yP q2) (yP q3)
            · cases s5
          · cases q0
        · cases h2
      · cases h1
    · cases h
  case sdata a =>
    split at h
    · rename_i c ho
      simp only [Bool.and_eq_true] at h
      obtain ⟨h1, h2⟩ := h
      obtain ⟨callee, args, tys⟩ := c
      obtain ⟨args⟩ := args
      obtain ⟨tys⟩ := tys
      simp only at h1 h2
      split at h1
      · split at h2
        · exact snd_sdata ho (yP h2)
        · cases h2
      · cases h1
    · cases h
  case ustr p m =>
    split at h
    · rename_i c ho
      simp only [Bool.and_eq_true] at h
      obtain ⟨h1, h2⟩ := h
      obtain ⟨callee, args, tys⟩ := c
      obtain ⟨args⟩ := args
      obtain ⟨tys⟩ := tys
      simp only at h1 h2
      split at h1
      · split at h2
        · rename_i x y t s
          simp only [Bool.and_eq_true] at h2
          obtain ⟨⟨⟨q0, q1⟩, q2⟩, q3⟩ := h2
          split at q0
          · rename_i e ht
            have q0 := beq q0; subst q0
            exact snd_ustr ho ht (beq q1) (yP q2) (yP q3)
          · cases q0
        · cases h2
      · cases h1
    · cases h
  case other => intro σ K g a w next Q _ hev; exact hev.elim
  case mkif t a =>
    split at h
    · rename_i u x ho
      simp only [Bool.and_eq_true] at h
      obtain ⟨⟨h1, h2⟩, h3⟩ := h
      have h1 := beq h1; subst h1
      split at h2
      · cases h2
      · rename_i d hd hne; exact snd_mkif ho hne hd (yP h3)
      · cases h2
    · cases h
  all_goals cases h
end
end Go.Ab
namespace Go.Ab
open Go
def optN : Option Nat → Option Nat → Bool
  | none, none => true
  | some a, some b => Nat.beq a b
  | _, _ => false
theorem optN_eq {a b : Option Nat} (h : optN a b = true) : a = b := by
  unfold optN at h
  split at h
  · rfl
  · rw [Nat.eq_of_beq_eq_true h]
  · cases h
def ltO (d : Option Nat) (n : Nat) : Bool :=
  match d with
  | none => true
  | some i => Nat.ble (i + 1) n
def guardB (ops : List Oper) : Option (Nat × Bool) → Option (Nat × Bool) → Bool
  | none, none => true
  | some (j, w), some (s, w') => (w == w') && (match ops[j]? with
    | some o => optN o.dst (some s)
    | none => false)
  | _, _ => false
def insB (L : Lk) (n : Nat) (ops : List Oper) (o : Oper) (ai : AI) : Bool := optN o.dst ai.d && ltO ai.d n && guardB ops o.guard ai.g && opB L o ai.o
def regB (L : Lk) (n : Nat) (ops : List Oper) : List Oper → List AI → Bool
  | [], [] => true
  | o :: r, ai :: s => insB L n ops o ai && regB L n ops r s
  | _, _ => false
section
variable {L : Lk} {n : Nat} (hc : ∀ f, CallOk L f)
include hc
theorem insB_eq {ops : Array Oper} {o : Oper} {ai : AI} (h : insB L n ops.toList o ai = true) : InsR L n ops o ai := by
  simp only [insB, Bool.and_eq_true] at h
  obtain ⟨⟨⟨h1, h2⟩, h3⟩, h4⟩ := h
  refine ⟨optN_eq h1, fun i hi => ?_, opB_eq hc h4, ?_⟩
  · rw [hi] at h2; exact Nat.le_of_ble_eq_true h2
  · unfold guardB at h3
    split at h3
    · rename_i g1 g2; exact .inl ⟨g1, g2⟩
    · rename_i j w s w' g1 g2
      simp only [Bool.and_eq_true, beq_iff_eq] at h3
      obtain ⟨h5, h6⟩ := h3
      split at h6
      · rename_i o' ho'
        refine .inr ⟨j, w, s, o', g1, by simpa using ho', optN_eq h6, by rw [g2, h5]⟩
      · cases h6
    · cases h3
theorem regB_eq' {ops : Array Oper} : ∀ {os : List Oper} {ais : List AI}, regB L n ops.toList os ais = true → os.length = ais.length ∧ ∀ (i : Nat) (ai : AI), ais[i]? = some ai → ∃ o, os[i]? = some o ∧ InsR L n ops o ai
  | [], [], _ => ⟨rfl, fun i ai h => by simp at h⟩
  | o :: r, ai :: s, h => by
    simp only [regB, Bool.and_eq_true] at h
    obtain ⟨h1, h2⟩ := regB_eq' h.2
    refine ⟨by simp [h1], fun i aj hj => ?_⟩
    cases i with
    | zero => simp at hj; subst hj; exact ⟨o, rfl, insB_eq hc h.1⟩
    | succ i => exact h2 i aj (by simpa using hj)
  | [], _ :: _, h => by simp [regB] at h
  | _ :: _, [], h => by simp [regB] at h
theorem regB_eq {ops : Array Oper} {ais : List AI} (h : regB L n ops.toList ops.toList ais = true) : RegR L n ops ais := by
  obtain ⟨h1, h2⟩ := regB_eq' hc h
  exact ⟨by simpa using h1, fun i ai hi => by obtain ⟨o, q1, q2⟩ := h2 i ai hi; exact ⟨o, by simpa using q1, q2⟩⟩
end
def masks : List Oper → List Nat → List Nat
  | [], acc => acc
  | o :: r, acc => masks r (acc ++ [o.after.toList.foldl (fun m e => if Region.binds .any e then m ||| 2 ^ e.on ||| acc.getD e.on 0 else m) 0])
def bit (ms : List Nat) (i j : Nat) : Bool := Nat.ble (i + 1) j && Nat.testBit (ms.getD j 0) i
def looksB (ai : AI) (s : Nat) : Bool :=
  ((opArgs ai.o).any fun a => match a with | .t i => Nat.beq i s | _ => false) || (match ai.g with | some (i, _) => Nat.beq i s | none => false)
def isLoad : AOp → Bool
  | .load .. => true
  | _ => false
def viaB (ms : List Nat) (ops : List Oper) : Bool :=
  ops.zipIdx.all fun p => (p.1.after.toList.all fun e => !Region.binds .any e || Nat.ble (e.on + 1) p.2) &&
    (List.range p.2).all fun i => !bit ms i p.2 || p.1.after.toList.any fun e => Region.binds .any e && (Nat.beq e.on i || bit ms i e.on)
def slotsB (ms : List Nat) (ais : List AI) : Bool :=
  ais.zipIdx.all fun p => match p.1.d with
    | none => true
    | some s => ais.zipIdx.all fun q => Nat.beq q.2 p.2 || !(looksB q.1 s || optN q.1.d (some s)) || bit ms q.2 p.2 || bit ms p.2 q.2
def mutsB (ms : List Nat) (mu : List Nat) (N : Nat) : Bool :=
  (List.range N).all fun j => !memN mu j || (List.range j).all fun i => !memN mu i || bit ms i j
def readsB (ms : List Nat) (mu : List Nat) (inc : List (Nat × Nat)) (ais : List AI) : Bool :=
  ais.zipIdx.all fun p => !isLoad p.1.o || (List.range ais.length).all fun m => Nat.beq p.2 m || !memN mu m || bit ms p.2 m || bit ms m p.2 || memP inc p.2 m
def mutopB (mu : List Nat) (ais : List AI) : Bool := ais.zipIdx.all fun p => !memN mu p.2 || mutOp p.1.o
def drawB (L : Lk) (n : Nat) (all ops : List Oper) (ais : List AI) (mu : List Nat) (inc : List (Nat × Nat)) : Bool :=
  regB L n all ops ais && (let ms := masks ops []
    viaB ms ops && slotsB ms ais && mutsB ms mu ais.length && readsB ms mu inc ais && mutopB mu ais)
theorem zipIdx_mem {α : Type} {xs : List α} {i : Nat} {x : α} (h : xs[i]? = some x) : (x, i) ∈ xs.zipIdx := by
  rw [List.mem_zipIdx_iff_getElem?]; exact h
theorem looksB_eq {ai : AI} {s : Nat} (h : looks ai s) : looksB ai s = true := by
  simp only [looksB, Bool.or_eq_true, List.any_eq_true]
  rcases h with h | ⟨w, h⟩
  · exact .inl ⟨.t s, h, by simp⟩
  · refine .inr ?_; rw [h]; simp
section
variable {L : Lk} {n : Nat} (hc : ∀ f, CallOk L f)
include hc
theorem drawB_eq {ops : Array Oper} {os : List Oper} {ais : List AI} {mu : List Nat} {inc : List (Nat × Nat)} (hos : os.length ≤ ops.size) (hat : ∀ i, i < os.length → ops[i]? = os[i]?) (h : drawB L n ops.toList os ais mu inc = true) :
    RegDR L n ops ais mu inc (bit (masks os [])) ∧ os.length = ais.length := by
  simp only [drawB, Bool.and_eq_true] at h
  obtain ⟨h0, ⟨⟨⟨h1, h2⟩, h3⟩, h4⟩, h5⟩ := h
  generalize masks os [] = ms at *
  obtain ⟨r1, r2⟩ := regB_eq' hc h0
  have lt : ∀ {i j : Nat}, bit ms i j = true → i < j := fun {i j} h => by
    simp only [bit, Bool.and_eq_true] at h; exact Nat.le_of_ble_eq_true h.1
  refine ⟨⟨by omega, fun i ai hi => by
    obtain ⟨o, q1, q2⟩ := r2 i ai hi
    have := (List.getElem?_eq_some_iff.1 q1).1
    exact ⟨o, by rw [hat i this]; exact q1, q2⟩, fun i j => lt, ?_, ?_, ?_, ?_, ?_, ?_⟩, r1⟩
  · intro i j o hj ho hb
    have ho : os[j]? = some o := by rw [← hat j (by omega)]; exact ho
    have q := List.all_eq_true.1 h1 _ (zipIdx_mem (xs := os) (i := j) (x := o) ho)
    simp only [Bool.and_eq_true] at q
    have q2 := List.all_eq_true.1 q.2 i (List.mem_range.2 (lt hb))
    simp only [hb, Bool.not_true, Bool.false_or, List.any_eq_true, Bool.and_eq_true, Bool.or_eq_true] at q2
    obtain ⟨e, he, hb2, h6⟩ := q2
    exact ⟨e, by simpa using he, hb2, h6.imp (fun h => Nat.eq_of_beq_eq_true h) id⟩
  · intro j o e hj ho he hb
    have ho : os[j]? = some o := by rw [← hat j (by omega)]; exact ho
    have q := List.all_eq_true.1 h1 _ (zipIdx_mem (xs := os) (i := j) (x := o) ho)
    simp only [Bool.and_eq_true] at q
    have q2 := List.all_eq_true.1 q.1 e (by simpa using he)
    simp only [hb, Bool.not_true, Bool.false_or] at q2
    exact Nat.le_of_ble_eq_true q2
  · intro i j ai aj s hi hj hne hd hl
    have q := List.all_eq_true.1 h2 _ (zipIdx_mem hj)
    simp only [hd] at q
    have q2 := List.all_eq_true.1 q _ (zipIdx_mem hi)
    simp only [Bool.or_eq_true, Bool.not_eq_true'] at q2
    rcases q2 with ((q2 | q2) | q2) | q2
    · exact absurd (Nat.eq_of_beq_eq_true q2) hne
    · rcases hl with hl | hl
      · rw [looksB_eq hl] at q2; simp at q2
      · rw [hl] at q2; simp [optN] at q2
    · exact .inl q2
    · exact .inr q2
  · intro i j hij hj hmi hmj
    have q := List.all_eq_true.1 h3 j (List.mem_range.2 hj)
    simp only [hmj, Bool.not_true, Bool.false_or] at q
    have q2 := List.all_eq_true.1 q i (List.mem_range.2 hij)
    simpa [hmi] using q2
  · intro i m k ag x ai hi ho hm hne hmm
    have q := List.all_eq_true.1 h4 _ (zipIdx_mem hi)
    simp only [ho, isLoad, Bool.not_true, Bool.false_or] at q
    have q2 := List.all_eq_true.1 q m (List.mem_range.2 hm)
    simp only [hmm, Bool.not_true, Bool.or_false, Bool.or_eq_true] at q2
    rcases q2 with ((q2 | q2) | q2) | q2
    · exact absurd (Nat.eq_of_beq_eq_true q2) hne
    · exact .inl q2
    · exact .inr (.inl q2)
    · exact .inr (.inr q2)
  · intro k ai hk hm
    have q := List.all_eq_true.1 h5 _ (zipIdx_mem hk)
    simpa [hm] using q
end
def edgeB (o : Oper) (q : Nat) : Bool := o.after.toList.any fun e => Region.binds .any e && Nat.beq e.on q
theorem edgeB_eq {o : Oper} {q : Nat} (h : edgeB o q = true) : ∃ e, e ∈ o.after ∧ Region.binds .any e = true ∧ e.on = q := by
  simp only [edgeB, List.any_eq_true, Bool.and_eq_true] at h
  obtain ⟨e, h1, h2, h3⟩ := h
  exact ⟨e, by simpa using h1, h2, Nat.eq_of_beq_eq_true h3⟩
def backB (o : Oper) (j : Nat) : Bool := o.after.toList.all fun e => !Region.binds .any e || Nat.ble (e.on + 1) j
theorem backB_eq {o : Oper} {j : Nat} (h : backB o j = true) (e : Edge) (he : e ∈ o.after) (hb : Region.binds .any e = true) : e.on < j := by
  have := List.all_eq_true.1 h e (by simpa using he)
  simp only [hb, Bool.not_true, Bool.false_or] at this
  exact Nat.le_of_ble_eq_true this
def notTmp (x : Operand) (d : Nat) : Bool := match x with | .tmp s => !Nat.beq s d | _ => true
theorem notTmp_eq {x : Operand} {d : Nat} (h : notTmp x d = true) : x ≠ .tmp d := by
  intro e; subst e; simp [notTmp] at h
def noneB {α : Type} : Option α → Bool | none => true | some _ => false
theorem noneB_eq {α : Type} {x : Option α} (h : noneB x = true) : x = none := by cases x with | none => rfl | some _ => cases h
def tailB (L : Lk) (n : Nat) (ops : List Oper) (p : Nat) (T : ATail) : Bool :=
  match ops.drop p with
  | [o8, o9, o10, o11, o12] => match o8.op, o9.op, o10.op, o11.op, o12.op with
    | .call c, .indexAddr t9 x9 nn, .store e10 x10 v, .fieldAddr s base fj, .store th x12 y12 =>
      (match c.callee with | .builtin .append => true | _ => false) && (match c.args.toList, c.argTypes.toList with
      | [x, y], [t, t2] => Nat.beq t t2 && Nat.beq t9 t && (match x9, x10, x12, y12 with | .tmp a, .tmp b, .tmp c, .tmp d => Nat.beq a T.d && Nat.beq b T.e && Nat.beq c T.q && Nat.beq d T.d | _, _, _, _ => false) &&
        elemB L t (fun e i => Nat.beq e10 e && (!Nat.beq (rowKey T.z i.size) 1000 || Nat.beq e L.u8) && Nat.beq T.es i.size && Nat.beq T.bytes i.bytes && Nat.ble 1 i.size && Nat.ble 1 i.bytes && Nat.beq (esz (rowKey T.z i.size)) i.size && (match i.zero with | some zv => Nat.beq zv.cells.size i.size | none => false)) &&
        argB L x T.x && argB L nn T.n && argB L y T.y && argB L v T.v && argB L base T.base &&
        (match L.P.underlying s with
          | some (.struct fs) => (match fs[fj]? with
            | some f => Nat.beq f.offset T.off && (match L.P.info? f.type with | some fi => Nat.ble 1 fi.size | none => false)
            | none => false)
          | _ => false) && sizeB L th 1
      | _, _ => false) &&
      optN o8.dst (some T.d) && optN o9.dst (some T.e) && optN o10.dst none && optN o11.dst (some T.q) && optN o12.dst none && noneB o8.guard && noneB o9.guard && noneB o10.guard && noneB o11.guard && noneB o12.guard &&
      Nat.ble (T.d + 1) n && Nat.ble (T.e + 1) n && Nat.ble (T.q + 1) n && !Nat.beq T.d T.e && !Nat.beq T.d T.q && !Nat.beq T.e T.q &&
      notTmp nn T.d && notTmp nn T.e && notTmp nn T.q && notTmp v T.d && notTmp v T.e && notTmp v T.q && notTmp base T.d && notTmp base T.e && notTmp base T.q &&
      ((List.range p).all fun i => edgeB o8 i) && edgeB o9 p && edgeB o10 (p + 1) && edgeB o11 p && edgeB o12 (p + 3) &&
      backB o8 p && backB o9 (p + 1) && backB o10 (p + 2) && backB o11 (p + 3) && backB o12 (p + 4)
    | _, _, _, _, _ => false
  | _ => false
theorem drop_get {α : Type} {xs : List α} {p : Nat} {r : List α} (h : xs.drop p = r) (i : Nat) : xs[p + i]? = r[i]? := by rw [← h, List.getElem?_drop]
set_option maxHeartbeats 1000000 in
theorem tailB_eq {L : Lk} {n : Nat} {ops : Array Oper} {p : Nat} {T : ATail} (hp : p ≤ ops.size) (h : tailB L n ops.toList p T = true) : ∃ D, TailR L n ops p T D := by
  unfold tailB at h
  split at h
  rotate_left
  · cases h
  rename_i o8 o9 o10 o11 o12 hd
  split at h
  rotate_left
  · cases h
  rename_i c t9 x9 nn e10 x10 v s base fj th x12 y12 q8 q9 q10 q11 q12
  simp only [Bool.and_eq_true] at h
  obtain ⟨⟨⟨⟨⟨⟨⟨⟨⟨⟨⟨⟨⟨⟨⟨⟨⟨⟨⟨⟨⟨⟨⟨⟨⟨⟨⟨⟨⟨⟨⟨⟨⟨⟨⟨⟨hc, hm⟩, d8⟩, d9⟩, d10⟩, d11⟩, d12⟩, g8⟩, g9⟩, g10⟩, g11⟩, g12⟩, l1⟩, l2⟩, l3⟩, n1⟩, n2⟩, n3⟩, m1⟩, m2⟩, m3⟩, m4⟩, m5⟩, m6⟩, m7⟩, m8⟩, m9⟩, e8⟩, e9⟩, e10'⟩, e11⟩, e12⟩, b8⟩, b9⟩, b10⟩, b11⟩, b12⟩ := h
  obtain ⟨callee, args, tys⟩ := c
  obtain ⟨args⟩ := args
  obtain ⟨tys⟩ := tys
  simp only at hc hm
  split at hc
  rotate_left
  · cases hc
  split at hm
  rotate_left
  · cases hm
  rename_i x y t t2
  simp only [Bool.and_eq_true] at hm
  obtain ⟨⟨⟨⟨⟨⟨⟨⟨⟨⟨k1, k2⟩, k3⟩, k4⟩, a1⟩, a2⟩, a3⟩, a4⟩, a5⟩, k5⟩, k6⟩ := hm
  have k1 := Nat.eq_of_beq_eq_true k1; subst k1
  have k2 := Nat.eq_of_beq_eq_true k2; subst k2
  split at k3
  rotate_left
  · cases k3
  simp only [Bool.and_eq_true] at k3
  obtain ⟨⟨⟨r1, r2⟩, r3⟩, r4⟩ := k3
  have r1 := Nat.eq_of_beq_eq_true r1; have r2 := Nat.eq_of_beq_eq_true r2; have r3 := Nat.eq_of_beq_eq_true r3; have r4 := Nat.eq_of_beq_eq_true r4
  subst r1; subst r2; subst r3; subst r4
  obtain ⟨e, i, s1, s2, s3⟩ := elemB_eq L k4
  simp only [Bool.and_eq_true] at s3
  obtain ⟨⟨⟨⟨⟨⟨⟨u1, u2⟩, u3⟩, u4⟩, u5⟩, u6⟩, u7⟩, u8⟩ := s3
  have u1 := Nat.eq_of_beq_eq_true u1; subst u1
  split at u8
  rotate_left
  · cases u8
  rename_i zv hz
  split at k5
  rotate_left
  · cases k5
  rename_i fs hfs
  split at k5
  rotate_left
  · cases k5
  rename_i f hf
  simp only [Bool.and_eq_true] at k5
  obtain ⟨v1, v2⟩ := k5
  split at v2
  rotate_left
  · cases v2
  rename_i fi hfi
  obtain ⟨ih, w1, w2⟩ := sizeB_eq L k6
  have hat : ∀ i, ops[p + i]? = [o8, o9, o10, o11, o12][i]? := fun i => by rw [← drop_get hd i]; simp
  have hsz : ops.size = p + 5 := by
    have := congrArg List.length hd
    simp at this; omega
  refine ⟨⟨o8, o9, o10, o11, o12, x, nn, y, v, base, t9, e10, s, th, i, ih, fi, zv, fs, f, fj⟩, ?_⟩
  exact {
    size := hsz
    h8 := hat 0
    h9 := hat 1
    h10 := hat 2
    h11 := hat 3
    h12 := hat 4
    op8 := q8
    op9 := q9
    op10 := q10
    op11 := q11
    op12 := q12
    d8 := optN_eq d8
    d9 := optN_eq d9
    d10 := optN_eq d10
    d11 := optN_eq d11
    d12 := optN_eq d12
    g8 := noneB_eq g8
    g9 := noneB_eq g9
    g10 := noneB_eq g10
    g11 := noneB_eq g11
    g12 := noneB_eq g12
    ht := s1
    hi := s2
    hz := hz
    hzs := Nat.eq_of_beq_eq_true u8
    hpos := Nat.le_of_ble_eq_true u5
    hb1 := Nat.le_of_ble_eq_true u6
    hkey := Nat.eq_of_beq_eq_true u7
    hk8 := fun hk => by
      simp only [Bool.or_eq_true, Bool.not_eq_true'] at u2
      rcases u2 with u2 | u2
      · simp only at hk; rw [hk] at u2; cases u2
      · exact Nat.eq_of_beq_eq_true u2
    hes := Nat.eq_of_beq_eq_true u3
    hby := Nat.eq_of_beq_eq_true u4
    hx := yP a1
    hn := yP a2
    hy := yP a3
    hv := yP a4
    hbase := yP a5
    hs := hfs
    hf := hf
    hfi := hfi
    hsz := by have := Nat.le_of_ble_eq_true v2; simp only; omega
    hoff := Nat.eq_of_beq_eq_true v1
    hth := w1
    hih := w2
    ltd := Nat.le_of_ble_eq_true l1
    lte := Nat.le_of_ble_eq_true l2
    ltq := Nat.le_of_ble_eq_true l3
    de := fun e => by rw [e] at n1; simp at n1
    dq := fun e => by rw [e] at n2; simp at n2
    eq := fun e => by rw [e] at n3; simp at n3
    nnd := notTmp_eq m1
    nne := notTmp_eq m2
    nnq := notTmp_eq m3
    vd := notTmp_eq m4
    ve := notTmp_eq m5
    vq := notTmp_eq m6
    bd := notTmp_eq m7
    be := notTmp_eq m8
    bq := notTmp_eq m9
    e8 := fun i hi => edgeB_eq (List.all_eq_true.1 e8 i (List.mem_range.2 hi))
    e9 := edgeB_eq e9
    e10 := edgeB_eq e10'
    e11 := edgeB_eq e11
    e12 := edgeB_eq e12
    back := fun j o e hj ho he hb => by
      have hlt := (Array.getElem?_eq_some_iff.1 ho).1
      have hcase : ∃ q, j = p + q ∧ q < 5 := ⟨j - p, by omega, by omega⟩
      obtain ⟨q, rfl, hq⟩ := hcase
      rw [hat q] at ho
      match q, hq with
      | 0, _ => cases ho; exact backB_eq b8 e he hb
      | 1, _ => cases ho; exact backB_eq b9 e he hb
      | 2, _ => cases ho; exact backB_eq b10 e he hb
      | 3, _ => cases ho; exact backB_eq b11 e he hb
      | 4, _ => cases ho; exact backB_eq b12 e he hb }
def codeB (L : Lk) (n : Nat) : Code → AC → Bool
  | _, .bad => true
  | .skip, .skip => true
  | .seq x y, .seq a b => codeB L n x a && codeB L n y b
  | .cond c x y, .cond ac a b => argB L c ac && codeB L n x a && codeB L n y b
  | .block i x, .block j a => Nat.beq i j && codeB L n x a
  | .loop x, .loop a => codeB L n x a
  | .exit i, .exit j => Nat.beq i j
  | .ret, .ret => true
  | .region _ ops false, .reg ais false => regB L n ops.toList ops.toList ais
  | .region _ ops true, .regD ais mu inc => drawB L n ops.toList ops.toList ais mu inc
  | .region _ ops true, .regA ais mu inc T => drawB L n ops.toList (ops.toList.take ais.length) ais mu inc && tailB L n ops.toList ais.length T
  | _, _ => false
section
variable {L : Lk} {n : Nat} (hc : ∀ f, CallOk L f) (hm : L.P.follows .mixedOrders = true)
include hc hm
theorem codeB_eq : ∀ (c : Code) (a : AC), codeB L n c a = true → CodeR L n c a := by
  intro c
  induction c with
  | skip => intro a h; cases a <;> first | exact .bad _ | exact .skip | (simp [codeB] at h; done)
  | ret => intro a h; cases a <;> first | exact .bad _ | exact .ret | (simp [codeB] at h; done)
  | exit i => intro a h; cases a <;> first | exact .bad _ | (simp [codeB] at h; done) | (rw [Nat.eq_of_beq_eq_true h]; exact .exit _)
  | seq x y ihx ihy =>
    intro a h
    cases a <;> first | exact .bad _ | (simp [codeB] at h; done) | skip
    simp only [codeB, Bool.and_eq_true] at h
    exact .seq (ihx _ h.1) (ihy _ h.2)
  | cond c x y ihx ihy =>
    intro a h
    cases a <;> first | exact .bad _ | (simp [codeB] at h; done) | skip
    simp only [codeB, Bool.and_eq_true] at h
    exact .cond (yP h.1.1) (ihx _ h.1.2) (ihy _ h.2)
  | block i x ih =>
    intro a h
    cases a <;> first | exact .bad _ | (simp [codeB] at h; done) | skip
    simp only [codeB, Bool.and_eq_true] at h
    rw [Nat.eq_of_beq_eq_true h.1]
    exact .block (ih _ h.2)
  | loop x ih =>
    intro a h
    cases a <;> first | exact .bad _ | (simp [codeB] at h; done) | skip
    exact .loop (ih _ h)
  | region i ops d =>
    intro a h
    cases d with
    | false =>
      cases a with
      | reg ais d' =>
        cases d' with
        | false => exact .reg (regB_eq hc h)
        | true => simp [codeB] at h
      | bad => exact .bad _
      | _ => simp [codeB] at h
    | true =>
      cases a with
      | regD ais mu inc =>
        obtain ⟨h1, h2⟩ := drawB_eq hc (by simp) (fun i _ => by simp) h
        exact .regD hm h1 (by simpa using h2)
      | regA ais mu inc T =>
        simp only [codeB, Bool.and_eq_true] at h
        obtain ⟨h1, h2⟩ := drawB_eq hc (by simp; omega) (fun i hi => by rw [List.length_take] at hi; rw [List.getElem?_take_of_lt (by omega)]; simp) h.1
        obtain ⟨D, hD⟩ := tailB_eq (by simp at h2; omega) h.2
        exact .regA hm h1 hD
      | bad => exact .bad _
      | _ => simp [codeB] at h
  | _ => intro a h; cases a <;> first | exact .bad _ | (simp [codeB] at h; done)
end
def resB (L : Lk) : List ResultVar → List ARes → Bool
  | [], [] => true
  | .tmp i :: r, .t j :: s => Nat.beq i j && resB L r s
  | .cell i t :: r, .c j m ag :: s => Nat.beq i j && tyB L t m ag && resB L r s
  | _, _ => false
theorem resB_eq' {L : Lk} : ∀ {rs : List ResultVar} {as : List ARes}, resB L rs as = true → rs.length = as.length ∧ ∀ (j : Nat) (r : ResultVar) (a : ARes), rs[j]? = some r → as[j]? = some a → ResR1 L r a
  | [], [], _ => ⟨rfl, fun j r a h => by simp at h⟩
  | .tmp i :: r, .t j :: s, h => by
    simp only [resB, Bool.and_eq_true] at h
    obtain ⟨h1, h2⟩ := resB_eq' h.2
    refine ⟨by simp [h1], fun k x y hx hy => ?_⟩
    cases k with
    | zero => simp at hx hy; subst hx; subst hy; rw [Nat.eq_of_beq_eq_true h.1]; exact .t _
    | succ k => exact h2 k x y (by simpa using hx) (by simpa using hy)
  | .cell i t :: r, .c j m ag :: s, h => by
    simp only [resB, Bool.and_eq_true] at h
    obtain ⟨h1, h2⟩ := resB_eq' h.2
    refine ⟨by simp [h1], fun k x y hx hy => ?_⟩
    cases k with
    | zero => simp at hx hy; subst hx; subst hy; rw [Nat.eq_of_beq_eq_true h.1.1]; exact .c _ _ _ _ (tyB_eq L h.1.2)
    | succ k => exact h2 k x y (by simpa using hx) (by simpa using hy)
  | [], _ :: _, h => by simp [resB] at h
  | .tmp _ :: _, [], h => by simp [resB] at h
  | .cell _ _ :: _, [], h => by simp [resB] at h
  | .tmp _ :: _, .c _ _ _ :: _, h => by simp [resB] at h
  | .cell _ _ :: _, .t _ :: _, h => by simp [resB] at h
def fnB (L : Lk) (f : Nat) (af : AF) : Bool :=
  match L.P.funcs[L.fn f]? with
  | some fn => match fn.body with
    | some code => codeB L af.nt code af.body && Nat.beq fn.ntmps af.nt && resB L fn.results.toList af.res && Nat.ble af.np af.nt
    | none => false
  | none => false
theorem yQ {L : Lk} (hc : ∀ f, CallOk L f) (hm : L.P.follows .mixedOrders = true) {f : Nat} {af : AF} (h : fnB L f af = true) : FnR L f af := by
  unfold fnB at h
  split at h
  · rename_i fn hf
    split at h
    · rename_i code hb
      simp only [Bool.and_eq_true] at h
      obtain ⟨⟨⟨h1, h2⟩, h3⟩, h4⟩ := h
      obtain ⟨r1, r2⟩ := resB_eq' h3
      exact ⟨⟨fn, code, hf, hb, codeB_eq hc hm code _ h1, Nat.eq_of_beq_eq_true h2, by simpa using r1, fun j r a hr ha => r2 j r a (by simpa using hr) ha⟩, Nat.le_of_ble_eq_true h4⟩
    · cases h
  · cases h
def callOkB (P : Program) (f : FuncId) : Bool :=
  match P.funcs[f]? with
  | some fn => (fn.name != "runtime.NumGoroutine") && fn.body.isSome
  | none => false
theorem callOkB_eq {L : Lk} {f : Nat} (h : callOkB L.P (L.fn f) = true) : CallOk L f := by
  unfold callOkB at h
  split at h
  · rename_i fn hf
    simp only [Bool.and_eq_true, bne_iff_ne, ne_eq] at h
    obtain ⟨h1, h2⟩ := h
    obtain ⟨c, hcode⟩ := Option.isSome_iff_exists.1 h2
    intro args w
    simp [callFunc, hf, h1, hcode]
  · cases h
end Go.Ab
namespace Go.Ab
open Go
set_option maxHeartbeats 4000000
attribute [local irreducible] Need IdxK FinK NextK CKs CQs ltS
theorem yN {a b : Str} (h : a = b) : DV.str a = DV.str b := congrArg _ h
def joinK (form : Bool) (ns ts : List Str) : Nat → Str
  | 0 => []
  | i + 1 => (match form with
      | true => (if 0 < i then joinK form ns ts i ++ [44] else joinK form ns ts i) ++ ns.getD i [] ++ [58]
      | false => (if 0 < i then joinK form ns ts i ++ [44] else joinK form ns ts i)) ++ ts.getD i []
theorem joinK_tp {ns : List Str} {ks : List Nd} {f : Nd → Str} {i : Nat} (h0 : 0 < i) (hn : i < ns.length) (hk : i < ks.length) :
    joinK true ns (ks.map f) (i + 1) = joinK true ns (ks.map f) i ++ [44] ++ ns[i] ++ [58] ++ f ks[i] := by
  simp [joinK, h0, hn, hk]
theorem joinK_tz {ns : List Str} {ks : List Nd} {f : Nd → Str} {i : Nat} (h0 : ¬ 0 < i) (hn : i < ns.length) (hk : i < ks.length) :
    joinK true ns (ks.map f) (i + 1) = joinK true ns (ks.map f) i ++ ns[i] ++ [58] ++ f ks[i] := by
  simp [joinK, h0, hn, hk]
theorem joinK_fp {ns : List Str} {ks : List Nd} {f : Nd → Str} {i : Nat} (h0 : 0 < i) (hk : i < ks.length) :
    joinK false ns (ks.map f) (i + 1) = joinK false ns (ks.map f) i ++ [44] ++ f ks[i] := by
  simp [joinK, h0, hk]
theorem joinK_fz {ns : List Str} {ks : List Nd} {f : Nd → Str} {i : Nat} (h0 : ¬ 0 < i) (hk : i < ks.length) :
    joinK false ns (ks.map f) (i + 1) = joinK false ns (ks.map f) i ++ f ks[i] := by
  simp [joinK, h0, hk]
mutual
def txK : Nd → Str
  | .mk s _ _ ns ks => if s = 1 then [110, 117, 109] else if s = 2 then [116, 101, 120, 116] else if s = 3 then [102, 108, 97, 103] else
    if s = 4 then [91] ++ (txKs ks).headD [] ++ [93] else if s = 6 then [63] ++ (txKs ks).headD [] else [123] ++ joinK true ns (txKs ks) ks.length ++ [125]
def txKs : List Nd → List Str
  | [] => []
  | k :: r => txK k :: txKs r
end
theorem txKs_eq : ∀ l, txKs l = l.map txK
  | [] => rfl
  | k :: r => by rw [txKs, txKs_eq r]; rfl
theorem txK_eq (t : Nd) : txK t = if t.sort = 1 then [110, 117, 109] else if t.sort = 2 then [116, 101, 120, 116] else if t.sort = 3 then [102, 108, 97, 103] else
    if t.sort = 4 then [91] ++ (t.kids.map txK).headD [] ++ [93] else if t.sort = 6 then [63] ++ (t.kids.map txK).headD [] else [123] ++ joinK true t.names (t.kids.map txK) t.kids.length ++ [125] := by
  cases t; rw [txK, txKs_eq]; rfl
theorem headD_map {f : Nd → Str} {ks : List Nd} (h : 0 < ks.length) : (ks.map f).headD [] = f ks[0] := by
  cases ks with
  | nil => simp at h
  | cons k r => rfl
theorem joinK_len {ns : List Str} {ks : List Nd} {f : Nd → Str} {c : Nat} (hn : AllB ns.length fun i => ∀ h : i < ns.length, ns[i].length ≤ 8) (hl : ns.length = ks.length)
    (hk : ∀ i (h : i < ks.length), (f ks[i]).length + 10 ≤ c * ks[i].size) : ∀ i, i ≤ ks.length → (joinK true ns (ks.map f) i).length ≤ c * sizes (ks.take i) := by
  intro i
  induction i with
  | zero => intro _; simp [joinK]
  | succ i ih =>
    intro h
    have h1 := ih (by omega)
    have h2 := hk i (by omega)
    have h3 := hn i (by omega) (by omega)
    have h4 := sizes_take (l := ks) (i := i) (by omega)
    rw [h4, Nat.mul_add]
    by_cases h0 : 0 < i
    · rw [joinK_tp h0 (by omega) (by omega)]; simp only [List.length_append, List.length_cons, List.length_nil]; omega
    · rw [joinK_tz h0 (by omega) (by omega)]; simp only [List.length_append, List.length_cons, List.length_nil]; omega
theorem joinK_lenF {ns : List Str} {ks : List Nd} {f : Nd → Str} {c : Nat}
    (hk : ∀ i (h : i < ks.length), (f ks[i]).length + 10 ≤ c * ks[i].size) : ∀ i, i ≤ ks.length → (joinK false ns (ks.map f) i).length ≤ c * sizes (ks.take i) := by
  intro i
  induction i with
  | zero => intro _; simp [joinK]
  | succ i ih =>
    intro h
    have h1 := ih (by omega)
    have h2 := hk i (by omega)
    have h4 := sizes_take (l := ks) (i := i) (by omega)
    rw [h4, Nat.mul_add]
    by_cases h0 : 0 < i
    · rw [joinK_fp h0 (by omega)]; simp only [List.length_append, List.length_cons, List.length_nil]; omega
    · rw [joinK_fz h0 (by omega)]; simp only [List.length_append]; omega
theorem rise_len {l : List Str} (h : rise l) : AllB l.length fun i => ∀ h : i < l.length, l[i].length ≤ 8 := fun i hi h2 => ((h i hi h2).1).1.2
theorem okK_any {d : Int} {t : Nd} (h : okK d t) {i : Nat} (hi : i < t.kids.length) : okK (d + 1) t.kids[i] := (okK_kid ⟨h, Nat.le_refl _⟩ hi).1
theorem txK_len : ∀ (t : Nd) (d : Int), okK d t → (txK t).length + 10 ≤ 14 * t.size := by
  refine Nd.ind fun t ih => fun d h => ?_
  have hk : ∀ i (h : i < t.kids.length), (txK t.kids[i]).length + 10 ≤ 14 * t.kids[i].size := fun i hi => ih _ (List.getElem_mem hi) _ (okK_any h hi)
  have ha := (okK_top h).2
  have hs := t.size_eq
  rw [txK_eq]
  unfold aloneK at ha
  have h0 : ∀ hh : 0 < t.kids.length, t.kids.length = 1 → t.kids[0].size = sizes t.kids := fun hh h1 => by
    have := sizes_take (l := t.kids) (i := 0) hh
    rw [sizes_all (by omega)] at this
    simpa [sizes] using this.symm
  repeat' split
  · simp; omega
  · simp; omega
  · simp; omega
  · have := h0 (by omega) (by omega); have := hk 0 (by omega); rw [headD_map (by omega)]; simp; omega
  · have := h0 (by omega) (by omega); have := hk 0 (by omega); rw [headD_map (by omega)]; simp; omega
  · have hr : t.names.length = t.kids.length ∧ rise t.names := by grind
    have := joinK_len (rise_len hr.2) hr.1 hk t.kids.length (Nat.le_refl _)
    rw [sizes_all (Nat.le_refl _)] at this
    simp; omega
def K_textK (L : Lk) (f : Nat) : Prop := ∀ (t : Nd) (d : Int), okK d t ∧ t.size ≤ 40 → CP L f [aK t] (.d (.str (txK t)))
theorem k_l2Text {L : Lk} (hf : FnR L 79 c79) : K_textK L 79 := by
  refine Nd.ind fun t ihT => ?_
  intro d hd
  have hk : ∀ i (h : i < t.kids.length), (txK t.kids[i]).length + 10 ≤ 14 * t.kids[i].size := fun i hi => txK_len _ _ (okK_any hd.1 hi)
  have ha := (okK_top hd.1).2
  have hr : t.sort = 5 → Pf (t.names.length = t.kids.length ∧ rise t.names) := fun h5 => ⟨by unfold aloneK at ha; grind⟩
  have hks : ∀ i (h : i < t.kids.length), okK (d + 1) t.kids[i] ∧ t.kids[i].size ≤ 40 := fun i hi => by have := okK_kid hd hi; exact ⟨this.1, by omega⟩
  have hsz := t.size_eq
  have hA : Pf ((t.sort = 1 ∨ t.sort = 2 ∨ t.sort = 3 ∨ t.sort = 4 ∨ t.sort = 5 ∨ t.sort = 6) ∧ (t.sort = 4 ∨ t.sort = 6 → t.kids.length = 1) ∧ (t.sort = 5 → t.names.length = t.kids.length)) := ⟨by unfold aloneK at ha; grind⟩
  have hj : t.sort = 5 → ∀ i, i ≤ t.kids.length → (joinK true t.names (t.kids.map txK) i).length ≤ 14 * sizes (t.kids.take i) ∧ sizes (t.kids.take i) ≤ sizes t.kids := fun h5 i hi =>
    ⟨joinK_len (rise_len (hr h5).get.2) (hr h5).get.1 hk i hi, sizes_le _ _⟩
  have hn8 : t.sort = 5 → ∀ i (h : i < t.names.length), t.names[i].length ≤ 8 := fun h5 i hi => rise_len (hr h5).get.2 i hi hi
  have e := txK_eq t
  refine CP.enter hf rfl rfl rfl ?_
  have h5 : t.sort ≠ 1 → t.sort ≠ 2 → t.sort ≠ 3 → t.sort ≠ 4 → t.sort ≠ 6 → t.sort = 5 := fun _ _ _ _ _ => by have := hA.get; omega
  repeat' ((conv => whnf); first | refine zA (by have := hj h5 i (by omega); have := hn8 h5 i (by have := hA.get.2.2 h5; omega); have := hk i (by omega); have := hks i (by omega); (try simp only [List.length_append, List.length_cons, List.length_nil]); omega) ?_ | refine zA (by have := hj h5 i (by omega); (try simp only [List.length_append, List.length_cons, List.length_nil]); omega) ?_ | refine zA (by have := hk 0 (by have := hA.get.2.1; omega); have := hks 0 (by have := hA.get.2.1; omega); (try simp only [List.length_append, List.length_cons, List.length_nil]); omega) ?_ | refine ih _ (by omega) trivial (by refine ⟨?_, ?_, ?_⟩ <;> (repeat' (first | exact trivial | exact yM (by omega) | exact yN (joinK_tp (by omega) (by have := hA.get.2.2 h5; omega) (by omega)).symm | exact yN (joinK_tz (by omega) (by have := hA.get.2.2 h5; omega) (by omega)).symm | exact rfl | exact Nat.le_of_ble_eq_true rfl | exact Or.inl rfl | apply And.intro))) | refine zI (fun _ => ?_) (fun _ => ?_) | refine zG (fun _ => ?_) (fun _ => ?_) | (rw [zZ]; intro _) | refine zA (by first | omega | exact rfl | decide) ?_ | refine yG (by omega) ?_ | refine zC (ihT _ (List.getElem_mem (by omega)) (d + 1) (hks _ (by omega))) ?_ | refine zB (ihT _ (List.getElem_mem (by have := hA.get.2.1; omega)) (d + 1) (hks _ (by have := hA.get.2.1; omega))) ?_ | refine yA (by have := hA.get.2.1; omega) ?_ | refine yE (by have := hA.get.2.2 h5; omega) ?_ | (have h5 := h5 (by assumption) (by assumption) (by assumption) (by assumption) (by assumption); refine LW.count t.kids.length (fun i => True) (fun i => ⟨[(4, .d (.int .i64 i)), (3, .d (.str (joinK true t.names (t.kids.map txK) i))), (1, .ptr 0 0)], 1, [.var 0 [.d (.int .i64 t.sort), .d (.sl (encS t.names)), .d (.sl (t.kids.map cK))]], []⟩) (fun _ => ⟨rfl, rfl, rfl⟩) (fun i hi hI ih => ?_) trivial _ (by refine ⟨?_, ?_, ?_⟩ <;> (repeat' (first | exact trivial | exact rfl | exact Nat.le_of_ble_eq_true rfl | exact Or.inl rfl | apply And.intro)))) | fail)
  all_goals (conv => whnf)
  all_goals try first
    | exact yJ (yN (by rw [e, if_pos (by assumption)]))
    | exact yJ (yN (by rw [e, if_neg (by assumption), if_pos (by assumption)]))
    | exact yJ (yN (by rw [e, if_neg (by assumption), if_neg (by assumption), if_pos (by assumption)]))
    | exact yJ (yN (by rw [e, if_neg (by assumption), if_neg (by assumption), if_neg (by assumption), if_pos (by assumption), headD_map (by have := hA.get.2.1; omega)]))
    | exact yJ (yN (by rw [e, if_neg (by assumption), if_neg (by assumption), if_neg (by assumption), if_neg (by assumption), if_pos (by assumption), headD_map (by have := hA.get.2.1; omega)]))
    | exact yJ (yN (by rw [e, if_neg (by assumption), if_neg (by assumption), if_neg (by assumption), if_neg (by assumption), if_neg (by assumption), show i = t.kids.length by omega]))
end Go.Ab
namespace Go.Ab
open Go
set_option maxHeartbeats 4000000
attribute [local irreducible] Need IdxK FinK NextK CKs CQs ltS
mutual
def txT : Nd → Str
  | .mk s n t ns ks => if s = 1 then dec n else if s = 2 then [34] ++ t ++ [34] else if s = 3 then (if n = 1 then [121, 101, 115] else [110, 111]) else
    if s = 6 then (if ks.length = 0 then [126] else [63] ++ (txTs ks).headD []) else if s = 5 then [123] ++ joinK true ns (txTs ks) ks.length ++ [125] else [91] ++ joinK false ns (txTs ks) ks.length ++ [93]
def txTs : List Nd → List Str
  | [] => []
  | k :: r => txT k :: txTs r
end
theorem txTs_eq : ∀ l, txTs l = l.map txT
  | [] => rfl
  | k :: r => by rw [txTs, txTs_eq r]; rfl
theorem txT_eq (t : Nd) : txT t = if t.sort = 1 then dec t.num else if t.sort = 2 then [34] ++ t.text ++ [34] else if t.sort = 3 then (if t.num = 1 then [121, 101, 115] else [110, 111]) else
    if t.sort = 6 then (if t.kids.length = 0 then [126] else [63] ++ (t.kids.map txT).headD []) else if t.sort = 5 then [123] ++ joinK true t.names (t.kids.map txT) t.kids.length ++ [125] else [91] ++ joinK false t.names (t.kids.map txT) t.kids.length ++ [93] := by
  cases t; rw [txT, txTs_eq]; rfl
theorem okT_any {d : Int} {t : Nd} (h : okT d t) {i : Nat} (hi : i < t.kids.length) : okT (d + 1) t.kids[i] := (okT_kid ⟨h, Nat.le_refl _⟩ hi).1
structure ShT (t : Nd) : Prop where
  any : t.sort = 1 ∨ t.sort = 2 ∨ t.sort = 3 ∨ t.sort = 4 ∨ t.sort = 5 ∨ t.sort = 6
  num : t.sort = 1 → inR .i64 t.num
  text : t.sort = 2 → t.text.length ≤ 60
  form : t.sort = 5 → t.names.length = t.kids.length ∧ AllB t.names.length fun i => ∀ h : i < t.names.length, t.names[i].length ≤ 8
  maybe : t.sort = 6 → t.kids.length ≤ 1
theorem shT {d : Int} {t : Nd} (h : okT d t) : ShT t := by
  have ha := (okT_top h).2
  unfold aloneT at ha
  refine ⟨by omega, fun h => ?_, fun h => ?_, fun h => ?_, by omega⟩
  · unfold inR; simp only; omega
  · have : textOk t.text := by grind
    exact this.1
  · have : rise t.names := by grind
    exact ⟨by omega, rise_len this⟩
theorem txT_len : ∀ (t : Nd) (d : Int), okT d t → (txT t).length + 10 ≤ 72 * t.size := by
  refine Nd.ind fun t ih => fun d h => ?_
  have hk : ∀ i (h : i < t.kids.length), (txT t.kids[i]).length + 10 ≤ 72 * t.kids[i].size := fun i hi => ih _ (List.getElem_mem hi) _ (okT_any h hi)
  have ha := shT h
  have hs := t.size_eq
  rw [txT_eq]
  have h0 : ∀ hh : 0 < t.kids.length, t.kids.length = 1 → t.kids[0].size = sizes t.kids := fun hh h1 => by
    have := sizes_take (l := t.kids) (i := 0) hh
    rw [sizes_all (by omega)] at this
    simpa [sizes] using this.symm
  repeat' split
  · have := dec_len (ha.num (by assumption)); omega
  · have := ha.text (by assumption); simp; omega
  · simp; omega
  · simp; omega
  · simp; omega
  · have := ha.maybe (by assumption); have := h0 (by omega) (by omega); have := hk 0 (by omega); rw [headD_map (by omega)]; simp; omega
  · have hr := ha.form (by assumption)
    have := joinK_len hr.2 hr.1 hk t.kids.length (Nat.le_refl _)
    rw [sizes_all (Nat.le_refl _)] at this
    simp; omega
  · have := joinK_lenF (ns := t.names) hk t.kids.length (Nat.le_refl _)
    rw [sizes_all (Nat.le_refl _)] at this
    simp; omega
def K_textT (L : Lk) (f : Nat) : Prop := ∀ (t : Nd) (d : Int), okT d t ∧ t.size ≤ 120 → CP L f [aT t] (.d (.str (txT t)))
theorem k_l1Text {L : Lk} (hf : FnR L 154 c154) (hD : K_l6Dec L) : K_textT L 154 := by
  refine Nd.ind fun t ihT => ?_
  intro d hd
  have hk : ∀ i (h : i < t.kids.length), (txT t.kids[i]).length + 10 ≤ 72 * t.kids[i].size := fun i hi => txT_len _ _ (okT_any hd.1 hi)
  have ha := shT hd.1
  have hks : ∀ i (h : i < t.kids.length), okT (d + 1) t.kids[i] ∧ t.kids[i].size ≤ 120 := fun i hi => by have := okT_kid hd hi; exact ⟨this.1, by omega⟩
  have hsz := t.size_eq
  have hjF : ∀ i, i ≤ t.kids.length → (joinK false t.names (t.kids.map txT) i).length ≤ 72 * sizes (t.kids.take i) ∧ sizes (t.kids.take i) ≤ sizes t.kids := fun i hi => ⟨joinK_lenF (ns := t.names) hk i hi, sizes_le _ _⟩
  have e := txT_eq t
  by_cases h5 : t.sort = 5
  · have hj : ∀ i, i ≤ t.kids.length → (joinK true t.names (t.kids.map txT) i).length ≤ 72 * sizes (t.kids.take i) ∧ sizes (t.kids.take i) ≤ sizes t.kids := fun i hi => ⟨joinK_len (ha.form h5).2 (ha.form h5).1 hk i hi, sizes_le _ _⟩
    have hn8 : ∀ i (h : i < t.names.length), t.names[i].length ≤ 8 := fun i hi => (ha.form h5).2 i hi hi
    have hnl := (ha.form h5).1
    refine CP.enter hf rfl rfl rfl ?_
    repeat' ((conv => whnf); first | refine zA (by have := hj i (by omega); have := hn8 i (by omega); have := hk i (by omega); have := hks i (by omega); (try simp only [List.length_append, List.length_cons, List.length_nil]); omega) ?_ | refine zA (by have := hj i (by omega); (try simp only [List.length_append, List.length_cons, List.length_nil]); omega) ?_ | (exfalso; omega) | refine zI (fun _ => ?_) (fun _ => ?_) | refine zG (fun _ => ?_) (fun _ => ?_) | (rw [zY]; intro _) | refine zA (by first | omega | exact rfl | decide) ?_ | refine yF (by omega) ?_ | refine yE (by omega) ?_ | refine zB (ihT _ (List.getElem_mem (by omega)) (d + 1) (hks _ (by omega))) ?_ | refine ih _ (by omega) (trivial) (by refine ⟨?_, ?_, ?_⟩ <;> (repeat' (first | exact trivial | exact yM (by omega) | exact yN (joinK_tp (by omega) (by omega) (by omega)).symm | exact yN (joinK_tz (by omega) (by omega) (by omega)).symm | exact rfl | exact Nat.le_of_ble_eq_true rfl | exact Or.inl rfl | apply And.intro))) | ((fail_if_success (have _h := ih)); refine LW.count t.kids.length (fun i => True) (fun i => ⟨[(4, .d (.int .i64 i)), (3, .d (.str (joinK true t.names (t.kids.map txT) i))), (1, .ptr 0 0)], 1, [.var 0 [.d (.int .i64 t.sort), .d (.int .i64 t.num), .d (.str t.text), .d (.sl (encS t.names)), .d (.sl (t.kids.map cT))]], []⟩) (fun _ => ⟨rfl, rfl, rfl⟩) (fun i hi hI ih => ?_) (trivial) _ (by refine ⟨?_, ?_, ?_⟩ <;> (repeat' (first | exact trivial | exact rfl | exact Nat.le_of_ble_eq_true rfl | exact Or.inl rfl | apply And.intro)))) | fail)
    all_goals (conv => whnf)
    all_goals try first
      | exact yJ (yN (by rw [e]; simp [h5, show i = t.kids.length by omega]))
  · refine CP.enter hf rfl rfl rfl ?_
    repeat' ((conv => whnf); first | (exact absurd (by assumption) h5) | refine zA (by have := hjF i (by omega); have := hk i (by omega); have := hks i (by omega); (try simp only [List.length_append, List.length_cons, List.length_nil]); omega) ?_ | refine zA (by have := hjF i (by omega); (try simp only [List.length_append, List.length_cons, List.length_nil]); omega) ?_ | refine zA (by have := ha.text (by assumption); (try simp only [List.length_append, List.length_cons, List.length_nil]); omega) ?_ | refine zA (by have := hk 0 (by omega); have := hks 0 (by omega); (try simp only [List.length_cons, List.length_nil]); omega) ?_ | refine zI (fun _ => ?_) (fun _ => ?_) | refine zG (fun _ => ?_) (fun _ => ?_) | (rw [zY]; intro _) | refine zA (by first | omega | exact rfl | decide) ?_ | refine yC (by omega) ?_ | refine yF (by omega) ?_ | refine zB (ihT _ (List.getElem_mem (by omega)) (d + 1) (hks _ (by omega))) ?_ | refine zB (hD t.num (ha.num (by assumption))) ?_ | refine ih _ (by omega) (trivial) (by refine ⟨?_, ?_, ?_⟩ <;> (repeat' (first | exact trivial | exact yM (by omega) | exact yN (joinK_fp (by omega) (by omega)).symm | exact yN (joinK_fz (by omega) (by omega)).symm | exact rfl | exact Nat.le_of_ble_eq_true rfl | exact Or.inl rfl | apply And.intro))) | ((fail_if_success (have _h := ih)); refine LW.count t.kids.length (fun i => True) (fun i => ⟨[(4, .d (.int .i64 i)), (3, .d (.str (joinK false t.names (t.kids.map txT) i))), (1, .ptr 0 0)], 1, [.var 0 [.d (.int .i64 t.sort), .d (.int .i64 t.num), .d (.str t.text), .d (.sl (encS t.names)), .d (.sl (t.kids.map cT))]], []⟩) (fun _ => ⟨rfl, rfl, rfl⟩) (fun i hi hI ih => ?_) (trivial) _ (by refine ⟨?_, ?_, ?_⟩ <;> (repeat' (first | exact trivial | exact rfl | exact Nat.le_of_ble_eq_true rfl | exact Or.inl rfl | apply And.intro)))) | fail)
    all_goals (conv => whnf)
    all_goals try first
      | exact absurd (by assumption) h5
      | (have hi' : i = t.kids.length := by omega
         exact yJ (yN (by rw [e, hi']; simp_all)))
      | exact yJ (yN (by rw [e, if_neg (by assumption), if_neg (by assumption), if_neg (by assumption), if_pos (by assumption), if_neg (by omega), headD_map (by omega)]))
      | exact yJ (yN (by rw [e]; simp_all))
end Go.Ab
namespace Go.Ab
open Go
set_option maxHeartbeats 4000000
attribute [local irreducible] Need IdxK FinK NextK CKs CQs ltS
def rdBx (s : Str) (p : Nat) (b : Bool) : Bx := .var 0 [.d (.str s), .d (.int .i64 p), .d (.bool b)]
def lookN (s : Str) (p : Nat) : Nat := match s[p]? with | some c => c.toNat | none => 0
theorem lookN_lt {s : Str} {p : Nat} (h : p < s.length) : lookN s p = s[p].toNat := by simp [lookN, h]
theorem lookN_ge {s : Str} {p : Nat} (h : s.length ≤ p) : lookN s p = 0 := by simp [lookN, h]
def K_look1 (L : Lk) : Prop := ∀ (s : Str) (p : Nat) (b : Bool), s.length ≤ 1000000 → CT L 259 [.ptr 0 0] 1 [rdBx s p b] [] (.d (.int .u8 (lookN s p))) 1 [rdBx s p b] []
theorem k_look1 {L : Lk} (hf : FnR L 259 c259) : K_look1 L := by
  intro s p b hs
  refine CT.enter hf rfl (Nat.le_refl _) (Nat.le_refl _) ?_
  repeat' ((conv => whnf); first | refine zI (fun _ => ?_) (fun _ => ?_) | refine zA (by first | omega | exact rfl | decide) ?_ | refine yI (by omega) ?_ | fail)
  all_goals (conv => whnf)
  all_goals try first
    | (refine yK ?_ ?_ ?_ ?_ <;> (repeat' (first | exact trivial | (refine zW ?_; rw [lookN_lt (by omega)]) | exact rfl  | exact Or.inl rfl  | apply And.intro)); done)
    | (refine yK ?_ ?_ ?_ ?_ <;> (repeat' (first | exact trivial | (refine zW ?_; rw [lookN_ge (by omega)]; rfl) | exact rfl  | exact Or.inl rfl  | apply And.intro)); done)
def at1 (s w : Str) (p : Nat) : Prop := p + w.length ≤ s.length ∧ (s.take (p + w.length)).drop p = w
def K_eat (L : Lk) : Prop := ∀ (s w : Str) (p : Nat) (b : Bool), s.length ≤ 1000000 → w.length ≤ 100 → p ≤ s.length + 7 →
  (at1 s w p → CT L 191 [.ptr 0 0, .d (.str w)] 1 [rdBx s p b] [] (.tup []) 1 [rdBx s (p + w.length) b] []) ∧
  (¬ at1 s w p → CT L 191 [.ptr 0 0, .d (.str w)] 1 [rdBx s p b] [] (.tup []) 1 [rdBx s p true] [])
theorem k_eat {L : Lk} (hf : FnR L 191 c191) : K_eat L := by
  intro s w p b hs hw hr
  refine ⟨fun ha => ?_, fun ha => ?_⟩
  · have h1 := ha.1
    refine CT.enter hf rfl (Nat.le_refl _) (Nat.le_refl _) ?_
    repeat' ((conv => whnf); first | (rw [wrap64 (by omega)]) | refine zI (fun _ => ?_) (fun _ => ?_) | refine zF (fun _ => ?_) (fun _ => ?_) | refine zH ?_ | intro _ | refine zA (by first | omega | exact rfl | decide) ?_ | fail)
    all_goals (conv => whnf)
    all_goals try first
      | (exfalso; omega)
      | exact absurd ha.2 (by assumption)
      | (refine yK ?_ ?_ ?_ ?_ <;> (repeat' (first | exact trivial | (refine zW ?_; omega) | exact rfl  | exact Or.inl rfl  | apply And.intro)); done)
  · refine CT.enter hf rfl (Nat.le_refl _) (Nat.le_refl _) ?_
    repeat' ((conv => whnf); first | (rw [wrap64 (by omega)]) | refine zI (fun _ => ?_) (fun _ => ?_) | refine zF (fun _ => ?_) (fun _ => ?_) | refine zH ?_ | intro _ | refine zA (by first | omega | exact rfl | decide) ?_ | fail)
    all_goals (conv => whnf)
    all_goals try first
      | exact absurd ⟨by omega, by assumption⟩ ha
      | (refine yK ?_ ?_ ?_ ?_ <;> (repeat' (first | exact trivial | exact rfl  | exact Or.inl rfl  | apply And.intro)); done)
def nmC (n : Nat) : Prop := (97 ≤ n ∧ n ≤ 122) ∨ (48 ≤ n ∧ n ≤ 57)
def NameEnd (s : Str) (p q : Nat) : Prop := p ≤ q ∧ q ≤ s.length ∧ (∀ i, p ≤ i → i < q → nmC (lookN s i)) ∧ ¬ nmC (lookN s q)
def K_name1 (L : Lk) : Prop := ∀ (s : Str) (p : Nat) (b : Bool) (q : Nat), s.length ≤ 1000000 → NameEnd s p q → CT L 190 [.ptr 0 0] 1 [rdBx s p b] [] (.d (.str ((s.take q).drop p))) 1 [rdBx s q b] []
theorem k_name1 {L : Lk} (hf : FnR L 190 c190) (hL : K_look1 L) : K_name1 L := by
  intro s p b q hs hq
  obtain ⟨q1, q2, q3, q4⟩ := hq
  have hlt : ∀ i, i ≤ q - p → nmC (lookN s (p + i)) → i < q - p := fun i hi hn => by
    by_cases h : i = q - p
    · rw [h, show p + (q - p) = q by omega] at hn; exact absurd hn q4
    · omega
  have hge : ∀ i, i ≤ q - p → ¬ nmC (lookN s (p + i)) → p + i = q := fun i hi hn => by
    by_cases h : i = q - p
    · omega
    · exact absurd (q3 _ (by omega) (by omega)) hn
  refine CT.enter hf rfl (Nat.le_refl _) (Nat.le_refl _) ?_
  repeat' ((conv => whnf); first | (rw [wrap64 (by omega)]) | refine zM (fun _ => ?_) (fun _ => ?_) | refine zA (by first | omega | exact rfl | decide) ?_ | refine zD (hL s (p + i) b hs) [0] [] rfl rfl rfl rfl rfl ⟨rfl, trivial⟩ trivial ?_ | refine ih _ (hlt i hi (by unfold nmC; omega)) trivial (by refine ⟨?_, ?_, ?_⟩ <;> (repeat' (first | exact trivial | (refine zW ?_; omega) | exact rfl | exact Nat.le_of_ble_eq_true rfl | exact Or.inl rfl | apply And.intro))) | ((fail_if_success (have _h := ih)); refine LW.count (q - p) (fun _ => True) (fun i => ⟨[(0, .ptr 0 0), (3, .d (.int .i64 p))], 1, [rdBx s (p + i) b], []⟩) (fun _ => ⟨rfl, rfl, rfl⟩) (fun i hi hI ih => ?_) trivial _ (by refine ⟨?_, ?_, ?_⟩ <;> (repeat' (first | exact trivial | exact rfl | exact Nat.le_of_ble_eq_true rfl | exact Or.inl rfl | apply And.intro)))) | fail)
  all_goals (conv => whnf)
  all_goals try first
    | (rw [← hge i hi (by unfold nmC; omega)]; (refine yK ?_ ?_ ?_ ?_ <;> (repeat' (first | exact trivial | exact rfl  | exact Or.inl rfl  | apply And.intro)); done))
    | (exfalso; omega)
end Go.Ab
