import GoSem.Core.Sem
import GoSem.Op.String
import Derived.Below
import Derived.Laws.CopyRow
import Derived.Laws.Tables
import Derived.ChangeReads
import GoSem.ClaimJoined
import Derived.Laws.Cells
import Derived.Laws.AppendOwn
import Derived.Laws.Concat
namespace Go.Ab
open Go
inductive DV where
  | bool (b : Bool)
  | int (k : IntKind) (n : Int)
  | str (s : List UInt8)
  | sl (xs : List (List DV))
  | nilp
  | nili
  | nilf
  | nilm
inductive Tag where
  | nil
  | full
  | row (k : Nat)
inductive AV where
  | d (v : DV)
  | ptr (b j : Nat)
  | rptr (b es i j : Nat)
  | elt (cs : List DV)
  | rsl (xs : List (List DV)) (t : Tag)
  | bsl (b n : Nat)
  | rdat (xs : List (List DV)) (t : Tag)
  | agg (cs : List AV)
  | tup (vs : List AV)
  | fn (f : Nat) (caps : List AV)
  | ifc (t : Nat) (v : AV)
  | itr (b : Nat)
  | junk
inductive Bx where
  | var (ty : Nat) (cs : List AV)
  | row (es : Nat) (xs : List (List DV))
  | iter (s : List UInt8) (pos : Nat)
  | dead
inductive Arg where
  | t (i : Nat)
  | k (v : DV)
  | ka (vs : List DV)
  | g (i : Nat)
  | f (i : Nat)
inductive BOp where
  | add | sub | mul | quo | rem | and | or | xor | andNot | shl | shr | eql | neq | lss | leq | gtr | geq
inductive AOp where
  | mov (x : Arg)
  | pick (c a b : Arg)
  | alloc (ty : Nat) (z : List DV)
  | box (x : Arg)
  | build (z : List DV) (ps : List (Nat × Nat × Arg))
  | bslice (es : Nat) (z : List DV) (len : Nat) (ps : List (Nat × Arg))
  | load (n : Nat) (ag : Bool) (x : Arg)
  | store (n : Nat) (x v : Arg)
  | nilchk (x : Arg)
  | bini (k : IntKind) (op : BOp) (x y : Arg)
  | bins (op : BOp) (x y : Arg)
  | binb (ne : Bool) (x y : Arg)
  | binp (ne : Bool) (x y : Arg)
  | bing (ne : Bool) (fs : List (Nat × Nat)) (x y : Arg)
  | not (x : Arg)
  | neg (x : Arg)
  | conv (k : IntKind) (x : Arg)
  | b2s (x : Arg)
  | s2b (x : Arg)
  | same (x : Arg)
  | mkfn (f : Nat) (caps : List Arg)
  | mkslice (es bytes : Nat) (z : List DV) (len cap : Arg)
  | cutS (x : Arg) (lo hi : Option Arg)
  | cutL (es : Nat) (x : Arg) (lo hi : Option Arg)
  | cutA (es n : Nat) (x : Arg) (lo hi : Option Arg)
  | faddr (off : Nat) (x : Arg)
  | fld (off n : Nat) (ag : Bool) (x : Arg)
  | iaddrL (es : Nat) (x i : Arg)
  | iaddrA (es n : Nat) (x i : Arg)
  | idxS (x i : Arg)
  | idxA (es n : Nat) (ag : Bool) (x i : Arg)
  | range (x : Arg)
  | next (x : Arg)
  | ext (x : Arg) (i : Nat)
  | call (f : Nat) (xs : List Arg)
  | callv (x : Arg) (xs : List Arg)
  | lenS (x : Arg)
  | lenL (x : Arg)
  | app (es bytes : Nat) (z : List DV) (x y : Arg)
  | appS (x y : Arg)
  | mkif (t : Nat) (x : Arg)
  | sdata (x : Arg)
  | ustr (p m : Arg)
  | other
structure AI where
  d : Option Nat
  g : Option (Nat × Bool)
  o : AOp
structure ATail where
  x : Arg
  n : Arg
  y : Arg
  v : Arg
  es : Nat
  bytes : Nat
  z : List DV
  d : Nat
  e : Nat
  base : Arg
  off : Nat
  q : Nat
inductive AC where
  | skip
  | seq (a b : AC)
  | cond (c : Arg) (a b : AC)
  | block (id : Nat) (a : AC)
  | loop (a : AC)
  | exit (id : Nat)
  | ret
  | reg (ops : List AI) (draw : Bool)
  | regD (ops : List AI) (ms : List Nat) (inc : List (Nat × Nat))
  | regA (ops : List AI) (ms : List Nat) (inc : List (Nat × Nat)) (t : ATail)
  | bad
inductive ARes where
  | t (i : Nat)
  | c (i n : Nat) (ag : Bool)
structure AF where
  np : Nat
  nt : Nat
  res : List ARes
  body : AC
inductive AE where
  | normal
  | exit (id : Nat)
  | ret
def nth {α : Type} : List α → Nat → Option α
  | [], _ => none
  | x :: _, 0 => some x
  | _ :: r, n + 1 => nth r n
def setNth {α : Type} : List α → Nat → α → List α
  | [], _, _ => []
  | _ :: r, 0, v => v :: r
  | x :: r, n + 1, v => x :: setNth r n v
def look : List (Nat × AV) → Nat → AV
  | [], _ => .junk
  | (k, v) :: r, s => match Nat.beq k s with | true => v | false => look r s
def zs (n : Nat) (o : AOp) : AI := ⟨some n, none, o⟩
def zm (n m : Nat) : AI := ⟨some n, none, .mov (.t m)⟩
def zn (o : AOp) : AI := ⟨none, none, o⟩
def zf (n a b : Nat) : AI := ⟨some n, none, .faddr a (.t b)⟩
def zl (n a b : Nat) : AI := ⟨some n, none, .load a false (.t b)⟩
def zi (n : Int) : Arg := .k (.int .i64 n)
def zr (l : List AI) : AC := .reg l false
end Go.Ab
namespace Go.Ab
open Go
def sel (b : Bool) (x y : Prop) : Prop := match b with | true => x | false => y
theorem zJ {b : Bool} {x y : Prop} (h1 : b = true → x) (h2 : b = false → y) : sel b x y := by cases b <;> simp_all [sel]
def IdxK {α : Type} (xs : List α) (i : Int) (K : α → Prop) : Prop := ∃ x, 0 ≤ i ∧ xs[i.toNat]? = some x ∧ K x
def ieq (a b : Int) : Bool := decide (a = b)
def ilt (a b : Int) : Bool := decide (a < b)
def ile (a b : Int) : Bool := decide (a ≤ b)
def beqS (a b : List UInt8) : Bool := a == b
def ltS (a b : List UInt8) : Bool := Op.bytesLess a b
def Need (p : Prop) (K : Prop) : Prop := p ∧ K
theorem zA {p K : Prop} (h : p) (k : K) : Need p K := ⟨h, k⟩
def force (v : AV) (K : AV → Prop) : Prop :=
  match v with
  | .d x => K (.d x) | .ptr b j => K (.ptr b j) | .rptr b e i j => K (.rptr b e i j) | .elt cs => K (.elt cs) | .rsl xs t => K (.rsl xs t)
  | .bsl b n => K (.bsl b n) | .agg cs => K (.agg cs) | .tup vs => K (.tup vs) | .fn f c => K (.fn f c) | .ifc t v => K (.ifc t v) | .itr b => K (.itr b) | .junk => K .junk | .rdat xs t => K (.rdat xs t)
def kindK (a b : IntKind) (K : Prop) : Prop :=
  match a, b with
  | .i8, .i8 => K | .i16, .i16 => K | .i32, .i32 => K | .i64, .i64 => K | .u8, .u8 => K | .u16, .u16 => K | .u32, .u32 => K | .u64, .u64 => K
  | _, _ => False
def intop (k : IntKind) (op : BOp) (a b : Int) (K : DV → Prop) : Prop :=
  match op with
  | .add => K (.int k (k.wrap (a + b)))
  | .sub => K (.int k (k.wrap (a - b)))
  | .mul => K (.int k (k.wrap (a * b)))
  | .quo => Need (b ≠ 0) (K (.int k (k.wrap (Int.tdiv a b))))
  | .rem => Need (b ≠ 0) (K (.int k (Int.tmod a b)))
  | .eql => K (.bool (ieq a b))
  | .neq => K (.bool (!ieq a b))
  | .lss => K (.bool (ilt a b))
  | .leq => K (.bool (ile a b))
  | .gtr => K (.bool (ilt b a))
  | .geq => K (.bool (ile b a))
  | _ => False
def strop (op : BOp) (a b : List UInt8) (K : DV → Prop) : Prop :=
  match op with
  | .add => Need (a.length + b.length ≤ 140737488355328) (K (.str (a ++ b)))
  | .eql => K (.bool (beqS a b))
  | .neq => K (.bool (!beqS a b))
  | .lss => K (.bool (ltS a b))
  | .leq => K (.bool (ltS a b || beqS a b))
  | .gtr => K (.bool (!(ltS a b || beqS a b)))
  | .geq => K (.bool (!ltS a b))
  | _ => False
def setK {α : Type} : List α → Nat → α → (List α → Prop) → Prop
  | [], _, _, _ => False
  | _ :: r, 0, v, K => K (v :: r)
  | x :: r, n + 1, v, K => setK r n v fun l => K (x :: l)
def snocK {α : Type} : List α → α → (List α → Prop) → Prop
  | [], v, K => K [v]
  | x :: r, v, K => snocK r v fun l => K (x :: l)
def appK {α : Type} : List α → List α → (List α → Prop) → Prop
  | [], ys, K => K ys
  | x :: r, ys, K => appK r ys fun l => K (x :: l)
def rlen {α : Type} : List α → Nat
  | [] => 0
  | _ :: r => rlen r + 1
def NextK (s : List UInt8) (p : Nat) (A : Int → Prop) (B : Prop) : Prop :=
  (∀ b, s[p]? = some b → b.toNat < 128 ∧ A b.toNat) ∧ (s.length ≤ p → B)
def cellsK {α : Type} : List α → (j n : Nat) → (List α → Prop) → Prop
  | [], _, 0, K => K []
  | [], _, _ + 1, _ => False
  | _ :: r, j + 1, n, K => cellsK r j n K
  | _ :: _, 0, 0, K => K []
  | x :: r, 0, n + 1, K => cellsK r 0 n fun l => K (x :: l)
def dropK {α : Type} : List α → Nat → (List α → Prop) → Prop
  | l, 0, K => K l
  | _ :: r, n + 1, K => dropK r n K
  | [], _ + 1, _ => False
def lenK {α : Type} : List α → Nat → Prop → Prop
  | [], 0, K => K
  | _ :: r, n + 1, K => lenK r n K
  | _, _, _ => False
def toAVsK : List DV → (List AV → Prop) → Prop
  | [], K => K []
  | x :: r, K => toAVsK r fun l => K (.d x :: l)
def zAV : DV → AV
  | .sl [] => .rsl [] .nil
  | v => .d v
def zAVs : List DV → List AV
  | [] => []
  | x :: r => zAV x :: zAVs r
def zAVsK : List DV → (List AV → Prop) → Prop
  | [], K => K []
  | x :: r, K => force (zAV x) fun v => zAVsK r fun l => K (v :: l)
def putK {α : Type} : List α → (j : Nat) → List α → (List α → Prop) → Prop
  | cs, _, [], K => K cs
  | [], _, _ :: _, _ => False
  | x :: r, j + 1, v :: vs, K => putK r j (v :: vs) fun l => K (x :: l)
  | _ :: r, 0, v :: vs, K => putK r 0 vs fun l => K (v :: l)
def onesK : List AV → Prop → Prop
  | [], K => K
  | .agg _ :: _, _ => False
  | .tup _ :: _, _ => False
  | .junk :: _, _ => False
  | _ :: r, K => onesK r K
def cellsOf : AV → (List AV → Prop) → Prop
  | .agg cs, K => onesK cs (K cs)
  | v, K => force v fun v => onesK [v] (K [v])
def pureK : AV → (DV → Prop) → Prop
  | .d v, K => K v
  | .rsl xs _, K => K (.sl xs)
  | _, _ => False
def puresK : List AV → (List DV → Prop) → Prop
  | [], K => K []
  | v :: r, K => pureK v fun d => puresK r fun l => K (d :: l)
def byteCell (b : UInt8) : List DV := [.int .u8 b.toNat]
def cellByte : List DV → UInt8
  | [.int _ n] => UInt8.ofNat n.toNat
  | _ => 0
def chunks (es : Nat) : Nat → List DV → List (List DV)
  | 0, _ => []
  | n + 1, cs => cs.take es :: chunks es n (cs.drop es)
def elemsK : AV → (List (List DV) → Prop) → Prop
  | .d (.sl xs), K => K xs
  | .rsl xs _, K => K xs
  | _, _ => False
def lenIs : List (List DV) → Nat
  | [] => 0
  | _ :: r => lenIs r + 1
abbrev Env := List (Nat × AV)
structure St where
  env : Env
  nb : Nat
  bx : List Bx
  rl : List (Nat × Nat)
def partsK (gv : Arg → AV) : List AV → List (Nat × Nat × Arg) → (List AV → Prop) → Prop
  | cs, [], K => K cs
  | cs, (off, m, x) :: r, K => cellsOf (gv x) fun vs => lenK vs m <| putK cs off vs fun cs => partsK gv cs r K
def elsK (gv : Arg → AV) (es : Nat) : Nat → List (Nat × Arg) → (List (List DV) → Prop) → Prop
  | _, [], K => K []
  | i, (j, x) :: r, K => match Nat.beq i j with
    | true => cellsOf (gv x) fun vs => lenK vs es <| puresK vs fun ds => elsK gv es (i + 1) r fun l => K (ds :: l)
    | false => False
def boundK (gv : Arg → AV) (x : Option Arg) (dflt : Int) (K : Int → Prop) : Prop :=
  match x with
  | none => K dflt
  | some a => match gv a with
    | .d (.int _ n) => K n
    | _ => False
section
variable (gl : Nat → List DV) (CQ : Nat → List AV → (AV → Prop) → Prop) (CK : Nat → List AV → Nat → List Bx → List (Nat × Nat) → (AV → Nat → List Bx → List (Nat × Nat) → Prop) → Prop) (LW : AC → St → (AE → St → Prop) → Prop)
def argV (env : Env) : Arg → AV
  | .t i => look env i
  | .k v => zAV v
  | .ka vs => .agg (zAVs vs)
  | .g i => .elt (gl i)
  | .f i => .fn i []
def argsK (env : Env) : List Arg → (List AV → Prop) → Prop
  | [], K => K []
  | x :: r, K => force (argV gl env x) fun v => argsK env r fun l => K (v :: l)
def withCells (ag : Bool) (cs : List AV) (K : AV → Prop) : Prop :=
  match ag with
  | true => K (.agg cs)
  | false => match cs with | [v] => force v K | _ => False
def rowKey (z : List DV) (es : Nat) : Nat :=
  match z with
  | [.int .u8 _] => 1000
  | _ => es
def esz (key : Nat) : Nat :=
  match Nat.beq key 1000 with
  | true => 1
  | false => key
def appRow (es bytes key : Nat) (v : AV) (ys : List (List DV)) (rl : List (Nat × Nat)) (K : AV → List (Nat × Nat) → Prop) : Prop :=
  match v with
  | .rsl xs t => Need ((xs.length + ys.length) * bytes ≤ 140737488355328 ∧ ∀ y, y ∈ ys → y.length = es) <| match t with
    | .nil => snocK rl (ys.length, key) fun rl' => K (.rsl ys (.row (rlen rl))) rl'
    | .full => match ys with
      | _ :: _ => Need (∀ x, x ∈ xs → x.length = es) <| snocK rl (xs.length + ys.length, key) fun rl' => K (.rsl (xs ++ ys) (.row (rlen rl))) rl'
      | [] => K (.rsl xs .full) rl
    | .row k => match nth rl k with
      | some (n, e) => Need (xs.length = n ∧ e = key) (setK rl k (n + ys.length, key) fun rl => K (.rsl (xs ++ ys) (.row k)) rl)
      | none => False
  | _ => False
def selArg (c : Arg) (t : Bool) (env : Env) (A B : Env → Prop) : Prop :=
  match c with
  | .t i => sel t (A ((i, .d (.bool true)) :: env)) (B ((i, .d (.bool false)) :: env))
  | _ => sel t (A env) (B env)
def evOp (o : AOp) : St → (AV → St → Prop) → Prop
  | ⟨env, nb, bx, rl⟩, K => match o with
    | .mov x => force (argV gl env x) fun v => K v ⟨env, nb, bx, rl⟩
    | .pick c a b => match argV gl env c with
      | .d (.bool t) => selArg c t env (fun env => force (argV gl env a) fun v => K v ⟨env, nb, bx, rl⟩) (fun env => force (argV gl env b) fun v => K v ⟨env, nb, bx, rl⟩)
      | _ => False
    | .alloc ty z => zAVsK z fun cs => snocK bx (.var ty cs) fun bx => K (.ptr nb 0) ⟨env, nb + 1, bx, rl⟩
    | .box x => cellsOf (argV gl env x) fun cs => snocK bx (.var 0 cs) fun bx => K (.ptr nb 0) ⟨env, nb + 1, bx, rl⟩
    | .load n ag x => match argV gl env x with
      | .elt cs => cellsK cs 0 n fun cs => toAVsK cs fun cs => withCells ag cs fun v => K v ⟨env, nb, bx, rl⟩
      | .ptr b j => match nth bx b with
        | some (.var _ cs) => cellsK cs j n fun cs => withCells ag cs fun v => K v ⟨env, nb, bx, rl⟩
        | _ => False
      | _ => False
    | .store m x v => match argV gl env x with
      | .ptr b j => match nth bx b with
        | some (.var ty cs) => cellsOf (argV gl env v) fun vs => lenK vs m <| putK cs j vs fun cs => setK bx b (.var ty cs) fun bx => K .junk ⟨env, nb, bx, rl⟩
        | _ => False
      | .rptr b es i j => match nth bx b with
        | some (.row e xs) => cellsOf (argV gl env v) fun vs => lenK vs m <| puresK vs fun ds => Need (e = es ∧ m = es ∧ j = 0 ∧ i < xs.length) (setK bx b (.row e (xs.set i ds)) fun bx => K .junk ⟨env, nb, bx, rl⟩)
        | _ => False
      | _ => False
    | .nilchk x => match argV gl env x with
      | .ptr b j => K (.ptr b j) ⟨env, nb, bx, rl⟩
      | .elt cs => K (.elt cs) ⟨env, nb, bx, rl⟩
      | .fn f c => K (.fn f c) ⟨env, nb, bx, rl⟩
      | _ => False
    | .bini _ op x y => match argV gl env x, argV gl env y with
      | .d (.int k1 a), .d (.int k2 b) => kindK k1 k2 <| intop k1 op a b fun v => K (.d v) ⟨env, nb, bx, rl⟩
      | _, _ => False
    | .bins op x y => match argV gl env x, argV gl env y with
      | .d (.str a), .d (.str b) => strop op a b fun v => K (.d v) ⟨env, nb, bx, rl⟩
      | _, _ => False
    | .not x => match argV gl env x with
      | .d (.bool t) => match x with
        | .t i => sel t (K (.d (.bool false)) ⟨(i, .d (.bool true)) :: env, nb, bx, rl⟩) (K (.d (.bool true)) ⟨(i, .d (.bool false)) :: env, nb, bx, rl⟩)
        | _ => K (.d (.bool (!t))) ⟨env, nb, bx, rl⟩
      | _ => False
    | .faddr off x => match argV gl env x with
      | .ptr b j => K (.ptr b (j + off)) ⟨env, nb, bx, rl⟩
      | .elt cs => dropK cs off fun cs => K (.elt cs) ⟨env, nb, bx, rl⟩
      | _ => False
    | .iaddrL es x i => match argV gl env x, argV gl env i with
      | .d (.sl xs), .d (.int _ n) => IdxK xs n fun cs => Need (cs.length = es) (K (.elt cs) ⟨env, nb, bx, rl⟩)
      | .rsl xs _, .d (.int _ n) => IdxK xs n fun cs => Need (cs.length = es) (K (.elt cs) ⟨env, nb, bx, rl⟩)
      | .bsl b m, .d (.int _ n) => Need (0 ≤ n ∧ n < m) (K (.rptr b es n.toNat 0) ⟨env, nb, bx, rl⟩)
      | _, _ => False
    | .ext x i => match argV gl env x with
      | .tup vs => match nth vs i with | some v => force v fun v => K v ⟨env, nb, bx, rl⟩ | none => False
      | _ => False
    | .call f xs => argsK gl env xs fun as => CK f as nb bx rl fun v nb bx rl => K v ⟨env, nb, bx, rl⟩
    | .lenS x => match argV gl env x with
      | .d (.str s) => (s.length ≤ 140737488355328 → K (.d (.int .i64 s.length)) ⟨env, nb, bx, rl⟩)
      | _ => False
    | .lenL x => match argV gl env x with
      | .d (.sl xs) => (xs.length ≤ 140737488355328 → K (.d (.int .i64 xs.length)) ⟨env, nb, bx, rl⟩)
      | .rsl xs _ => (xs.length ≤ 140737488355328 → K (.d (.int .i64 xs.length)) ⟨env, nb, bx, rl⟩)
      | .bsl _ n => (n ≤ 140737488355328 → K (.d (.int .i64 n)) ⟨env, nb, bx, rl⟩)
      | _ => False
    | .neg x => match argV gl env x with
      | .d (.int k n) => K (.d (.int k (k.wrap (0 - n)))) ⟨env, nb, bx, rl⟩
      | _ => False
    | .conv k x => match argV gl env x with
      | .d (.int _ n) => K (.d (.int k (k.wrap n))) ⟨env, nb, bx, rl⟩
      | _ => False
    | .same x => match argV gl env x with
      | .d (.str s) => K (.d (.str s)) ⟨env, nb, bx, rl⟩
      | _ => False
    | .binb ne x y => match argV gl env x, argV gl env y with
      | .d (.bool a), .d (.bool b) => match ne with
        | true => K (.d (.bool (a != b))) ⟨env, nb, bx, rl⟩
        | false => K (.d (.bool (a == b))) ⟨env, nb, bx, rl⟩
      | _, _ => False
    | .binp ne x y => match argV gl env x, argV gl env y with
      | .ptr _ _, .d .nilp => K (.d (.bool ne)) ⟨env, nb, bx, rl⟩
      | .d .nilp, .d .nilp => K (.d (.bool (!ne))) ⟨env, nb, bx, rl⟩
      | _, _ => False
    | .idxS x i => match argV gl env x, argV gl env i with
      | .d (.str s), .d (.int _ n) => IdxK s n fun b => K (.d (.int .u8 b.toNat)) ⟨env, nb, bx, rl⟩
      | _, _ => False
    | .idxA es n ag x i => match argV gl env x, argV gl env i with
      | .agg cs, .d (.int _ m) => match es with
        | 1 => match ag with
          | false => lenK cs n <| IdxK cs m fun v => K v ⟨env, nb, bx, rl⟩
          | true => False
        | _ => False
      | _, _ => False
    | .cutS x lo hi => match argV gl env x with
      | .d (.str s) => boundK (argV gl env) lo 0 fun l => boundK (argV gl env) hi s.length fun h =>
        Need (0 ≤ l ∧ l ≤ h ∧ h ≤ s.length) (K (.d (.str ((s.take h.toNat).drop l.toNat))) ⟨env, nb, bx, rl⟩)
      | _ => False
    | .cutL es x lo hi => elemsK (argV gl env x) fun xs => boundK (argV gl env) lo 0 fun l => boundK (argV gl env) hi xs.length fun h =>
        Need (0 ≤ l ∧ l ≤ h ∧ h ≤ xs.length ∧ ∀ x, x ∈ xs → x.length = es) (K (.d (.sl ((xs.take h.toNat).drop l.toNat))) ⟨env, nb, bx, rl⟩)
    | .cutA es n x lo hi => match argV gl env x, lo, hi with
      | .elt cs, none, none => Need (cs.length = es * n) (K (.d (.sl (chunks es n cs))) ⟨env, nb, bx, rl⟩)
      | _, _, _ => False
    | .iaddrA es n x i => match argV gl env x, argV gl env i with
      | .elt cs, .d (.int _ m) => Need (cs.length = es * n) (IdxK (chunks es n cs) m fun c => K (.elt c) ⟨env, nb, bx, rl⟩)
      | _, _ => False
    | .build z ps => zAVsK z fun cs => partsK (argV gl env) cs ps fun cs => K (.agg cs) ⟨env, nb, bx, rl⟩
    | .bslice es _ n ps => lenK ps n <| elsK (argV gl env) es 0 ps fun xs => K (.rsl xs .full) ⟨env, nb, bx, rl⟩
    | .fld off m ag x => match argV gl env x with
      | .agg cs => cellsK cs off m fun cs => withCells ag cs fun v => K v ⟨env, nb, bx, rl⟩
      | _ => False
    | .app es bytes z x y => elemsK (argV gl env y) fun ys => appRow es bytes (rowKey z es) (argV gl env x) ys rl fun v rl => K v ⟨env, nb, bx, rl⟩
    | .appS x y => match argV gl env y with
      | .d (.str s) => appRow 1 1 1000 (argV gl env x) (s.map byteCell) rl fun v rl => K v ⟨env, nb, bx, rl⟩
      | _ => False
    | .b2s x => elemsK (argV gl env x) fun xs => Need (∀ x, x ∈ xs → ∃ n, x = [.int .u8 n]) (K (.d (.str (xs.map cellByte))) ⟨env, nb, bx, rl⟩)
    | .mkfn f caps => argsK gl env caps fun vs => K (.fn f vs) ⟨env, nb, bx, rl⟩
    | .callv x xs => match argV gl env x with
      | .fn f caps => argsK gl env xs fun as => appK as caps fun as => CK f as nb bx rl fun v nb bx rl => K v ⟨env, nb, bx, rl⟩
      | _ => False
    | .mkif t x => force (argV gl env x) fun v => K (.ifc t v) ⟨env, nb, bx, rl⟩
    | .sdata x => match argV gl env x with
      | .rsl xs .nil => K (.rdat xs .nil) ⟨env, nb, bx, rl⟩
      | .rsl xs (.row k) => match nth rl k with
        | some (n, _) => Need (xs.length = n) (K (.rdat xs (.row k)) ⟨env, nb, bx, rl⟩)
        | none => False
      | _ => False
    | .ustr p m => match argV gl env p, argV gl env m with
      | .rdat xs .nil, .d (.int .i64 n) => Need (n = xs.length) (K (.d (.str [])) ⟨env, nb, bx, rl⟩)
      | .rdat xs (.row k), .d (.int .i64 n) => match nth rl k with
        | some (q, e) => Need (n = xs.length ∧ xs.length = q ∧ e = 1000 ∧ ∀ x, x ∈ xs → ∃ b : UInt8, x = byteCell b) (K (.d (.str (xs.map cellByte))) ⟨env, nb, bx, rl⟩)
        | none => False
      | _, _ => False
    | .mkslice es bytes z len cap => match argV gl env len, argV gl env cap with
      | .d (.int _ m), .d (.int _ c) => Need (m = c ∧ 0 ≤ m ∧ m * bytes ≤ 140737488355328 ∧ 0 < bytes ∧ z.length = es) (snocK bx (.row es (List.replicate m.toNat z)) fun bx => K (.bsl nb m.toNat) ⟨env, nb + 1, bx, rl⟩)
      | _, _ => False
    | .range x => match argV gl env x with
      | .d (.str s) => snocK bx (.iter s 0) fun bx => K (.itr nb) ⟨env, nb + 1, bx, rl⟩
      | _ => False
    | .next x => match argV gl env x with
      | .itr b => match nth bx b with
        | some (.iter s p) => NextK s p (fun c => setK bx b (.iter s (p + 1)) fun bx => K (.tup [.d (.bool true), .d (.int .i64 p), .d (.int .i32 c)]) ⟨env, nb, bx, rl⟩) (K (.tup [.d (.bool false)]) ⟨env, nb, bx, rl⟩)
        | _ => False
      | _ => False
    | _ => False
def und : AV := .tup []
def nxt (d : Option Nat) (v : AV) (env : Env) (K : Env → Prop) : Prop :=
  match d with
  | some i => K ((i, v) :: env)
  | none => K env
def evOps : List AI → St → (St → Prop) → Prop
  | [], σ, K => K σ
  | ⟨d, g, o⟩ :: r, ⟨env, nb, bx, rl⟩, K =>
    match g with
    | none => evOp gl CK o ⟨env, nb, bx, rl⟩ fun v σ => match σ with
      | ⟨env, nb, bx, rl⟩ => nxt d v env fun env => evOps r ⟨env, nb, bx, rl⟩ K
    | some (s, w) =>
      match look env s with
      | .d (.bool t) => match w with
        | true => sel t (evOp gl CK o ⟨(s, .d (.bool true)) :: env, nb, bx, rl⟩ fun v σ => match σ with
            | ⟨env, nb, bx, rl⟩ => nxt d v env fun env => evOps r ⟨env, nb, bx, rl⟩ K)
          (nxt d und ((s, .d (.bool false)) :: env) fun env => evOps r ⟨env, nb, bx, rl⟩ K)
        | false => sel t (nxt d und ((s, .d (.bool true)) :: env) fun env => evOps r ⟨env, nb, bx, rl⟩ K)
          (evOp gl CK o ⟨(s, .d (.bool false)) :: env, nb, bx, rl⟩ fun v σ => match σ with
            | ⟨env, nb, bx, rl⟩ => nxt d v env fun env => evOps r ⟨env, nb, bx, rl⟩ K)
      | .tup vs => match vs with
        | [] => nxt d und env fun env => evOps r ⟨env, nb, bx, rl⟩ K
        | _ :: _ => False
      | _ => False
def opArgs : AOp → List Arg
  | .mov x => [x] | .pick c a b => [c, a, b] | .alloc .. => [] | .box x => [x] | .build _ ps => ps.map fun p => p.2.2 | .bslice _ _ _ ps => ps.map fun p => p.2
  | .load _ _ x => [x] | .store _ x v => [x, v] | .nilchk x => [x] | .bini _ _ x y => [x, y] | .bins _ x y => [x, y] | .binb _ x y => [x, y] | .binp _ x y => [x, y] | .bing _ _ x y => [x, y]
  | .not x => [x] | .neg x => [x] | .conv _ x => [x] | .b2s x => [x] | .s2b x => [x] | .same x => [x] | .mkfn _ cs => cs | .mkslice _ _ _ a b => [a, b]
  | .cutS x a b => x :: (a.toList ++ b.toList) | .cutL _ x a b => x :: (a.toList ++ b.toList) | .cutA _ _ x a b => x :: (a.toList ++ b.toList)
  | .faddr _ x => [x] | .fld _ _ _ x => [x] | .iaddrL _ x i => [x, i] | .iaddrA _ _ x i => [x, i] | .idxS x i => [x, i] | .idxA _ _ _ x i => [x, i]
  | .range x => [x] | .next x => [x] | .ext x _ => [x] | .call _ xs => xs | .callv x xs => x :: xs | .lenS x => [x] | .lenL x => [x] | .app _ _ _ x y => [x, y] | .appS x y => [x, y]
  | .mkif _ x => [x] | .sdata x => [x] | .ustr p m => [p, m] | .other => []
def cutEnv (env : Env) : List Arg → (Env → Prop) → Prop
  | [], K => K []
  | .t i :: r, K => force (look env i) fun v => cutEnv env r fun e => K ((i, v) :: e)
  | _ :: r, K => cutEnv env r K
def quietOp : AOp → Bool
  | .mov _ | .pick .. | .build .. | .bslice .. | .nilchk _ | .bini .. | .bins .. | .binb .. | .binp .. | .not _ | .neg _ | .conv .. | .b2s _ | .same _ | .mkfn .. | .cutS .. | .cutL .. | .cutA ..
  | .faddr .. | .fld .. | .iaddrL .. | .iaddrA .. | .idxS .. | .idxA .. | .ext .. | .mkif .. => true
  | _ => false
def evQ (o : AOp) (env : Env) (K : AV → Prop) : Prop :=
  match o with
  | .load n ag x => match argV gl env x with
    | .elt cs => cellsK cs 0 n fun cs => toAVsK cs fun cs => withCells ag cs K
    | _ => False
  | .lenS x => match argV gl env x with
    | .d (.str s) => Need (s.length ≤ 140737488355328) (K (.d (.int .i64 s.length)))
    | _ => False
  | .lenL x => match argV gl env x with
    | .d (.sl xs) => Need (xs.length ≤ 140737488355328) (K (.d (.int .i64 xs.length)))
    | .rsl xs _ => Need (xs.length ≤ 140737488355328) (K (.d (.int .i64 xs.length)))
    | _ => False
  | .call f xs => argsK gl env xs fun as => CQ f as K
  | .callv x xs => match argV gl env x with
    | .fn f caps => argsK gl env xs fun as => appK as caps fun as => CQ f as K
    | _ => False
  | o => match quietOp o with
    | true => evOp gl CK o ⟨env, 0, [], []⟩ fun v _ => K v
    | false => False
def memN : List Nat → Nat → Bool
  | [], _ => false
  | x :: r, i => match Nat.beq x i with | true => true | false => memN r i
def memP : List (Nat × Nat) → Nat → Nat → Bool
  | [], _, _ => false
  | (x, y) :: r, i, m => match Nat.beq x i with
    | true => match Nat.beq y m with | true => true | false => memP r i m
    | false => memP r i m
def cellsAt (bx : List Bx) (b j n : Nat) (cs : List AV) : Prop :=
  match nth bx b with
  | some (.var _ ds) => cellsK ds j n fun l => l = cs
  | _ => False
structure Rd where
  i : Nat
  b : Nat
  j : Nat
  n : Nat
  cs : List AV
def chkR (inc : List (Nat × Nat)) (m : Nat) (bx : List Bx) : List Rd → Prop → Prop
  | [], K => K
  | ⟨i, b, j, n, cs⟩ :: r, K => match memP inc i m with
    | true => Need (cellsAt bx b j n cs) (chkR inc m bx r K)
    | false => chkR inc m bx r K
def chkH (inc : List (Nat × Nat)) (i b j n : Nat) (cs : List AV) : List (Nat × List Bx) → Prop → Prop
  | [], K => K
  | (m, bx) :: r, K => match memP inc i m with
    | true => Need (cellsAt bx b j n cs) (chkH inc i b j n cs r K)
    | false => chkH inc i b j n cs r K
def guardK (g : Option (Nat × Bool)) (env : Env) (A B : Env → Prop) : Prop :=
  match g with
  | none => A env
  | some (s, w) => match look env s with
    | .d (.bool t) => match w with
      | true => sel t (A ((s, .d (.bool true)) :: env)) (B ((s, .d (.bool false)) :: env))
      | false => sel t (B ((s, .d (.bool true)) :: env)) (A ((s, .d (.bool false)) :: env))
    | .tup vs => match vs with
      | [] => B env
      | _ :: _ => False
    | _ => False
def evD (ms : List Nat) (inc : List (Nat × Nat)) : Nat → List AI → St → List (Nat × List Bx) → List Rd → (St → Prop) → Prop
  | _, [], σ, _, _, K => K σ
  | i, ⟨d, g, o⟩ :: r, ⟨env, nb, bx, rl⟩, hs, rs, K => guardK g env
      (fun env => match memN ms i with
        | true => cutEnv env (opArgs o) fun e => evOp gl CK o ⟨e, nb, bx, rl⟩ fun v σ => match σ with
          | ⟨_, nb', bx', rl'⟩ => chkR inc i bx' rs (nxt d v env fun env => evD ms inc (i + 1) r ⟨env, nb', bx', rl'⟩ ((i, bx) :: hs) rs K)
        | false => match o with
          | .load n ag x => match argV gl env x with
            | .ptr b j => match nth bx b with
              | some (.var _ cs) => cellsK cs j n fun cs => chkH inc i b j n cs hs (withCells ag cs fun v => nxt d v env fun env => evD ms inc (i + 1) r ⟨env, nb, bx, rl⟩ hs (⟨i, b, j, n, cs⟩ :: rs) K)
              | _ => False
            | _ => cutEnv env [x] fun e => evQ gl CQ CK (.load n ag x) e fun v => nxt d v env fun env => evD ms inc (i + 1) r ⟨env, nb, bx, rl⟩ hs rs K
          | o => cutEnv env (opArgs o) fun e => evQ gl CQ CK o e fun v => nxt d v env fun env => evD ms inc (i + 1) r ⟨env, nb, bx, rl⟩ hs rs K)
      (fun env => match memN ms i with
        | true => chkR inc i bx rs (nxt d und env fun env => evD ms inc (i + 1) r ⟨env, nb, bx, rl⟩ ((i, bx) :: hs) rs K)
        | false => nxt d und env fun env => evD ms inc (i + 1) r ⟨env, nb, bx, rl⟩ hs rs K)
def oneK (ys : List (List DV)) (es : Nat) (K : Prop) : Prop :=
  match ys with
  | [y] => lenK y es K
  | _ => False
def evT (T : ATail) : St → (St → Prop) → Prop
  | ⟨env, nb, bx, rl⟩, K => match argV gl env T.x with
    | .rsl xs (.row k) => match argV gl env T.n with
      | .d (.int _ m) => elemsK (argV gl env T.y) fun ys => oneK ys T.es <| Need (m = xs.length) <| cellsOf (argV gl env T.v) fun vs => lenK vs T.es <| puresK vs fun ds =>
        match argV gl env T.base with
        | .ptr b j => match nth bx b with
          | some (.var ty cs) => appRow T.es T.bytes (rowKey T.z T.es) (.rsl xs (.row k)) [ds] rl fun w rl => putK cs (j + T.off) [w] fun cs => setK bx b (.var ty cs) fun bx =>
            K ⟨(T.q, .ptr b (j + T.off)) :: (T.e, .junk) :: (T.d, w) :: env, nb, bx, rl⟩
          | _ => False
        | _ => False
      | _ => False
    | _ => False
def ev : AC → St → (AE → St → Prop) → Prop
  | .skip, σ, Q => Q .normal σ
  | .seq a b, σ, Q => ev a σ fun e σ' => match e with | .normal => ev b σ' Q | .exit i => Q (.exit i) σ' | .ret => Q .ret σ'
  | .cond c a b, ⟨env, nb, bx, rl⟩, Q => match argV gl env c with
    | .d (.bool t) => selArg c t env (fun env => ev a ⟨env, nb, bx, rl⟩ Q) (fun env => ev b ⟨env, nb, bx, rl⟩ Q)
    | _ => False
  | .block id a, σ, Q => ev a σ fun e σ' => match e with | .normal => Q .normal σ' | .exit i => (match Nat.beq i id with | true => Q .normal σ' | false => Q (.exit i) σ') | .ret => Q .ret σ'
  | .loop a, σ, Q => LW a σ Q
  | .exit id, σ, Q => Q (.exit id) σ
  | .ret, σ, Q => Q .ret σ
  | .reg ops _, σ, Q => evOps gl CK ops σ fun σ' => Q .normal σ'
  | .regD ops ms inc, σ, Q => evD gl CQ CK ms inc 0 ops σ [] [] fun σ' => Q .normal σ'
  | .regA ops ms inc t, σ, Q => evD gl CQ CK ms inc 0 ops σ [] [] fun σ' => evT gl t σ' fun σ' => Q .normal σ'
  | .bad, _, _ => False
end
end Go.Ab
namespace Go.Ab
open Go
def big : Nat := 140737488355328
def inR : IntKind → Int → Prop
  | .i8, n => -128 ≤ n ∧ n ≤ 127
  | .i16, n => -32768 ≤ n ∧ n ≤ 32767
  | .i32, n => -2147483648 ≤ n ∧ n ≤ 2147483647
  | .i64, n => -9223372036854775808 ≤ n ∧ n ≤ 9223372036854775807
  | .u8, n => 0 ≤ n ∧ n ≤ 255
  | .u16, n => 0 ≤ n ∧ n ≤ 65535
  | .u32, n => 0 ≤ n ∧ n ≤ 4294967295
  | .u64, n => 0 ≤ n ∧ n ≤ 18446744073709551615
inductive DR (mk : Nat → Nat) (w : World) : DV → Value → Prop where
  | bool (b : Bool) : DR mk w (.bool b) (.bool b)
  | int (k : IntKind) (n : Int) (h : inR k n) : DR mk w (.int k n) (.int k n)
  | str (s : List UInt8) (h : s.length ≤ big) : DR mk w (.str s) (.string ⟨s.toArray⟩)
  | nilp : DR mk w .nilp (.pointer none)
  | nili : DR mk w .nili .nilIface
  | nilf : DR mk w .nilf .nilFunc
  | nilm : DR mk w .nilm (.map none)
  | slnil : DR mk w (.sl []) (.slice none 0 0)
  | sle (a : Addr) : DR mk w (.sl []) (.slice (some a) 0 0)
  | sl (xs : List (List DV)) (blk off cap es : Nat) (c : Nat → Nat → Value) (hlen : xs.length ≤ big) (hcap : xs.length ≤ cap)
      (hes : ∀ x, x ∈ xs → x.length = es) (hmk : off + xs.length * es ≤ mk blk)
      (hc : ∀ i j, i < xs.length → j < es → w.cell? ⟨blk, off + (i * es + j), none⟩ = some (c i j))
      (hv : ∀ i j x y, xs[i]? = some x → x[j]? = some y → DR mk w y (c i j)) :
      DR mk w (.sl xs) (.slice (some ⟨blk, off, none⟩) xs.length cap)
structure Gh where
  bk : List Nat
  mrk : Nat → Nat
  rw : List (Option Nat)
structure Lk where
  P : Program
  fn : Nat → FuncId
  gn : Nat → Nat
  gl : Nat → List DV
  tn : Nat → TypeId
  u8 : TypeId
def TagOk (g : Gh) (rl : List (Nat × Nat)) (w : World) (xs : List (List DV)) : Tag → Value → Prop
  | .nil, v => v = .slice none 0 0
  | .full, v => v = .slice none 0 0 ∨ ∃ a, v = .slice (some a) xs.length xs.length
  | .row k, v => ∃ L e, rl[k]? = some (L, e) ∧ (∀ x, x ∈ xs → x.length = esz e) ∧ xs.length ≤ L ∧ (xs.length = L → (v = .slice none 0 0 ∧ g.rw[k]? = some none) ∨
      ∃ blk cap t, v = .slice (some ⟨blk, 0, none⟩) xs.length cap ∧ g.rw[k]? = some (some blk) ∧ w.shape? blk = some (t, cap * esz e))
inductive VR (L : Lk) (g : Gh) (rl : List (Nat × Nat)) (w : World) : AV → Value → Prop where
  | d (v : DV) (c : Value) (h : DR g.mrk w v c) : VR L g rl w (.d v) c
  | ptr (b j blk : Nat) (h : g.bk[b]? = some blk) : VR L g rl w (.ptr b j) (.pointer (some ⟨blk, j, none⟩))
  | rptr (b es i j blk : Nat) (h : g.bk[b]? = some blk) : VR L g rl w (.rptr b es i j) (.pointer (some ⟨blk, i * es + j, none⟩))
  | elt (cs : List DV) (blk off : Nat) (c : Nat → Value) (hmk : off + cs.length ≤ g.mrk blk)
      (hc : ∀ j, j < cs.length → w.cell? ⟨blk, off + j, none⟩ = some (c j)) (hv : ∀ j y, cs[j]? = some y → DR g.mrk w y (c j)) :
      VR L g rl w (.elt cs) (.pointer (some ⟨blk, off, none⟩))
  | rsl (xs : List (List DV)) (t : Tag) (v : Value) (h : DR g.mrk w (.sl xs) v) (ht : TagOk g rl w xs t v) : VR L g rl w (.rsl xs t) v
  | bsl (b n blk : Nat) (h : g.bk[b]? = some blk) (hn : n ≤ big) : VR L g rl w (.bsl b n) (.slice (some ⟨blk, 0, none⟩) n n)
  | agg (cs : List AV) (vs : Array Value) (hn : vs.size = cs.length) (h : ∀ (j : Nat) (x : AV) (y : Value), cs[j]? = some x → vs[j]? = some y → VR L g rl w x y) : VR L g rl w (.agg cs) (.agg vs)
  | tup (cs : List AV) (vs : Array Value) (hn : vs.size = cs.length) (h : ∀ (j : Nat) (x : AV) (y : Value), cs[j]? = some x → vs[j]? = some y → VR L g rl w x y) : VR L g rl w (.tup cs) (.tuple vs)
  | fn (f : Nat) (cs : List AV) (vs : Array Value) (hn : vs.size = cs.length) (h : ∀ (j : Nat) (x : AV) (y : Value), cs[j]? = some x → vs[j]? = some y → VR L g rl w x y) :
      VR L g rl w (.fn f cs) (.func (.func (L.fn f)) #[] vs)
  | ifc (t : Nat) (v : AV) (y : Value) (h : VR L g rl w v y) : VR L g rl w (.ifc t v) (.iface (L.tn t) y)
  | rdat (xs : List (List DV)) (t : Tag) (a : Option Addr) (ln cap : Nat) (h : DR g.mrk w (.sl xs) (.slice a ln cap)) (ht : TagOk g rl w xs t (.slice a ln cap)) : VR L g rl w (.rdat xs t) (.pointer a)
  | itr (b blk : Nat) (h : g.bk[b]? = some blk) : VR L g rl w (.itr b) (.pointer (some ⟨blk, 0, none⟩))
  | junk (v : Value) : VR L g rl w .junk v
structure Step (g : Gh) (rl : List (Nat × Nat)) (w : World) (g' : Gh) (rl' : List (Nat × Nat)) (w' : World) : Prop where
  os : w'.os = w.os
  tape : w'.tape = w.tape
  output : w'.output = w.output
  size : w.heap.size ≤ w'.heap.size
  mrk : ∀ b, g.mrk b ≤ g'.mrk b
  cell : ∀ b o, o < g.mrk b → w'.cell? ⟨b, o, none⟩ = w.cell? ⟨b, o, none⟩
  bk : ∀ (i b : Nat), g.bk[i]? = some b → g'.bk[i]? = some b
  row : ∀ (k n e : Nat), rl[k]? = some (n, e) → ∃ n', rl'[k]? = some (n', e) ∧ n ≤ n' ∧ (n' = n → g'.rw[k]? = g.rw[k]?)
  shape : ∀ b, b < w.heap.size → w'.shape? b = w.shape? b
  newbk : ∀ b, b ∈ g'.bk → b ∈ g.bk ∨ w.heap.size ≤ b
  newrw : ∀ b, some b ∈ g'.rw → some b ∈ g.rw ∨ w.heap.size ≤ b
  frame : ∀ b, b < w.heap.size → b ∉ g.bk → some b ∉ g.rw → w'.heap[b]? = w.heap[b]?
  mold : ∀ b, b < w.heap.size → b ∉ g.bk → some b ∉ g.rw → g'.mrk b = g.mrk b
theorem Step.refl (g : Gh) (rl : List (Nat × Nat)) (w : World) : Step g rl w g rl w :=
  ⟨rfl, rfl, rfl, Nat.le_refl _, fun _ => Nat.le_refl _, fun _ _ _ => rfl, fun _ _ h => h, fun _ n _ h => ⟨n, h, Nat.le_refl _, fun _ => rfl⟩, fun _ _ => rfl, fun _ h => .inl h, fun _ h => .inl h, fun _ _ _ _ => rfl, fun _ _ _ _ => rfl⟩
theorem Step.trans {g g1 g2 : Gh} {rl rl1 rl2 : List (Nat × Nat)} {w w1 w2 : World} (h : Step g rl w g1 rl1 w1) (k : Step g1 rl1 w1 g2 rl2 w2) : Step g rl w g2 rl2 w2 where
  os := k.os.trans h.os
  tape := k.tape.trans h.tape
  output := k.output.trans h.output
  size := Nat.le_trans h.size k.size
  mrk b := Nat.le_trans (h.mrk b) (k.mrk b)
  cell b o ho := (k.cell b o (Nat.lt_of_lt_of_le ho (h.mrk b))).trans (h.cell b o ho)
  bk i b hb := k.bk i b (h.bk i b hb)
  row i n e h1 := by
    obtain ⟨n1, q1, q3, q4⟩ := h.row i n e h1
    obtain ⟨n2, p1, p3, p4⟩ := k.row i n1 e q1
    exact ⟨n2, p1, Nat.le_trans q3 p3, fun hn => (p4 (by omega)).trans (q4 (by omega))⟩
  shape b hb := (k.shape b (Nat.lt_of_lt_of_le hb h.size)).trans (h.shape b hb)
  newbk b hb := by
    rcases k.newbk b hb with h1 | h1
    · exact h.newbk b h1
    · exact .inr (Nat.le_trans h.size h1)
  newrw b hb := by
    rcases k.newrw b hb with h1 | h1
    · exact h.newrw b h1
    · exact .inr (Nat.le_trans h.size h1)
  frame b hb h1 h2 := by
    rw [k.frame b (Nat.lt_of_lt_of_le hb h.size) (fun h3 => (h.newbk b h3).elim h1 (fun h4 => by omega)) (fun h3 => (h.newrw b h3).elim h2 (fun h4 => by omega)), h.frame b hb h1 h2]
  mold b hb h1 h2 := by
    rw [k.mold b (Nat.lt_of_lt_of_le hb h.size) (fun h3 => (h.newbk b h3).elim h1 (fun h4 => by omega)) (fun h3 => (h.newrw b h3).elim h2 (fun h4 => by omega)), h.mold b hb h1 h2]
theorem DR.keep {mk mk' : Nat → Nat} {w w' : World} (hm : ∀ b, mk b ≤ mk' b) (hc : ∀ b o, o < mk b → w'.cell? ⟨b, o, none⟩ = w.cell? ⟨b, o, none⟩)
    {v : DV} {c : Value} (h : DR mk w v c) : DR mk' w' v c := by
  induction h with
  | bool b => exact .bool b
  | int k n h => exact .int k n h
  | str s h => exact .str s h
  | nilp => exact .nilp
  | nili => exact .nili
  | nilf => exact .nilf
  | nilm => exact .nilm
  | slnil => exact .slnil
  | sle a => exact .sle a
  | sl xs blk off cap es c hlen hcap hes hmk hcell hv ih =>
    refine .sl xs blk off cap es c hlen hcap hes (Nat.le_trans hmk (hm blk)) ?_ ih
    intro i j hi hj
    rw [hc blk _ ?_, hcell i j hi hj]
    have : (i + 1) * es ≤ xs.length * es := Nat.mul_le_mul_right _ hi
    rw [Nat.add_mul] at this
    omega
theorem TagOk.keep {g g' : Gh} {rl rl' : List (Nat × Nat)} {w w' : World} (s : Step g rl w g' rl' w') {xs : List (List DV)} {t : Tag} {v : Value} (h : TagOk g rl w xs t v) : TagOk g' rl' w' xs t v := by
  cases t with
  | nil => exact h
  | full => exact h
  | row k =>
    obtain ⟨L, e, h1, hw, h2, h3⟩ := h
    obtain ⟨n', q1, q3, q4⟩ := s.row k L e h1
    refine ⟨n', e, q1, hw, by omega, fun hn => ?_⟩
    have hL : xs.length = L := by omega
    rw [q4 (by omega)]
    rcases h3 hL with ⟨hv, hr⟩ | ⟨blk, cap, t, hv, hr, hs⟩
    · exact .inl ⟨hv, hr⟩
    · refine .inr ⟨blk, cap, t, hv, hr, ?_⟩
      rw [s.shape blk ?_, hs]
      simp only [World.shape?] at hs
      cases hh : w.heap[blk]? with
      | none => simp [hh] at hs
      | some o => exact (Array.getElem?_eq_some_iff.1 hh).1
theorem VR.keep {L : Lk} {g g' : Gh} {rl rl' : List (Nat × Nat)} {w w' : World} (s : Step g rl w g' rl' w') {v : AV} {c : Value} (h : VR L g rl w v c) : VR L g' rl' w' v c := by
  induction h with
  | d v c h => exact .d v c (h.keep s.mrk s.cell)
  | ptr b j blk h => exact .ptr b j blk (s.bk _ _ h)
  | rptr b es i j blk h => exact .rptr b es i j blk (s.bk _ _ h)
  | elt cs blk off c hmk hc hv =>
    exact .elt cs blk off c (Nat.le_trans hmk (s.mrk blk)) (fun j hj => by rw [s.cell blk _ (by omega), hc j hj]) (fun j y hy => (hv j y hy).keep s.mrk s.cell)
  | rsl xs t v h ht => exact .rsl xs t v (h.keep s.mrk s.cell) (ht.keep s)
  | bsl b n blk h hn => exact .bsl b n blk (s.bk _ _ h) hn
  | agg cs vs hn h ih => exact .agg cs vs hn ih
  | tup cs vs hn h ih => exact .tup cs vs hn ih
  | fn f cs vs hn h ih => exact .fn f cs vs hn ih
  | ifc t v y h ih => exact .ifc t v y ih
  | rdat xs t a ln cap h ht => exact .rdat xs t a ln cap (h.keep s.mrk s.cell) (ht.keep s)
  | itr b blk h => exact .itr b blk (s.bk _ _ h)
  | junk v => exact .junk v
end Go.Ab
namespace Go.Ab
open Go
def BxR (L : Lk) (g : Gh) (rl : List (Nat × Nat)) (w : World) : Bx → Nat → Prop
  | .var ty cs, blk => ∃ (arr : Array Value) (t : TypeId), w.heap[blk]? = some (.cells arr t (0, 0)) ∧ arr.size = cs.length ∧
      (∀ (j : Nat) (x : AV) (y : Value), cs[j]? = some x → arr[j]? = some y → VR L g rl w x y) ∧ (ty = 0 ∨ t = L.tn ty)
  | .row es xs, blk => ∃ (arr : Array Value) (t : TypeId), w.heap[blk]? = some (.cells arr t (0, 0)) ∧ arr.size = xs.length * es ∧ (∀ x, x ∈ xs → x.length = es) ∧ xs.length ≤ big ∧
      ∀ (i j : Nat) (x : List DV) (y : DV) (v : Value), xs[i]? = some x → x[j]? = some y → arr[i * es + j]? = some v → DR g.mrk w y v
  | .iter s p, blk => w.heap[blk]? = some (.stringIter ⟨s.toArray⟩ p) ∧ s.length ≤ big
  | .dead, blk => blk < w.heap.size
def GlobR (L : Lk) (g : Gh) (rl : List (Nat × Nat)) (w : World) (i : Nat) : Prop :=
  VR L g rl w (.elt (L.gl i)) (.pointer (some ⟨L.gn i, 0, none⟩)) ∧ (L.gl i ≠ [] → ∃ t, w.shape? (L.gn i) = some (t, (L.gl i).length))
theorem GlobR.keep {L : Lk} {g g' : Gh} {rl rl' : List (Nat × Nat)} {w w' : World} {i : Nat} (h : GlobR L g rl w i) (s : Step g rl w g' rl' w') : GlobR L g' rl' w' i := by
  refine ⟨h.1.keep s, fun hn => ?_⟩
  obtain ⟨t, ht⟩ := h.2 hn
  refine ⟨t, ?_⟩
  rw [s.shape _ ?_, ht]
  simp only [World.shape?] at ht
  cases hh : w.heap[L.gn i]? with
  | none => simp [hh] at ht
  | some o => exact (Array.getElem?_eq_some_iff.1 hh).1
structure RelSh (L : Lk) (g : Gh) (nb : Nat) (bx : List Bx) (rl : List (Nat × Nat)) (w : World) : Prop where
  nb : nb = bx.length
  bkl : g.bk.length = bx.length
  box : ∀ (i : Nat) (x : Bx) (blk : Nat), bx[i]? = some x → g.bk[i]? = some blk → (x ≠ .dead → g.mrk blk = 0) ∧ BxR L g rl w x blk
  inj : ∀ (i j blk : Nat), g.bk[i]? = some blk → g.bk[j]? = some blk → i = j
  rwl : g.rw.length = rl.length
  row : ∀ (k n e : Nat), rl[k]? = some (n, e) → 0 < esz e ∧ ((g.rw[k]? = some none ∧ n = 0) ∨
      ∃ (blk : Nat) (arr : Array Value) (t : TypeId) (fr : Nat × Nat), g.rw[k]? = some (some blk) ∧ w.heap[blk]? = some (.cells arr t fr) ∧ g.mrk blk = n * esz e ∧ n * esz e ≤ arr.size ∧ blk ∉ g.bk ∧ fr.2 ≤ n * esz e ∧ 0 < n ∧ (e = 1000 → t = L.u8))
  rinj : ∀ (i j b : Nat), g.rw[i]? = some (some b) → g.rw[j]? = some (some b) → i = j
  fresh : ∀ b, w.heap.size ≤ b → g.mrk b = 0
  glob : ∀ i, GlobR L g rl w i
theorem lt_of_heap {w : World} {b : Nat} {o : Obj} (h : w.heap[b]? = some o) : b < w.heap.size := (Array.getElem?_eq_some_iff.1 h).1
theorem RelSh.bk_lt {L : Lk} {g : Gh} {nb : Nat} {bx : List Bx} {rl : List (Nat × Nat)} {w : World} (h : RelSh L g nb bx rl w) {b : Nat} (hb : b ∈ g.bk) : b < w.heap.size := by
  obtain ⟨i, hi⟩ := List.mem_iff_getElem?.1 hb
  have hl : i < bx.length := by rw [← h.bkl]; exact (List.getElem?_eq_some_iff.1 hi).1
  have hr := (h.box i bx[i] b (List.getElem?_eq_getElem hl) hi).2
  revert hr
  cases bx[i] with
  | var ty cs => rintro ⟨arr, t, h1, _⟩; exact lt_of_heap h1
  | row es xs => rintro ⟨arr, t, h1, _⟩; exact lt_of_heap h1
  | iter s p => rintro ⟨h1, _⟩; exact lt_of_heap h1
  | dead => exact fun h1 => h1
theorem RelSh.rw_lt {L : Lk} {g : Gh} {nb : Nat} {bx : List Bx} {rl : List (Nat × Nat)} {w : World} (h : RelSh L g nb bx rl w) {b : Nat} (hb : some b ∈ g.rw) : b < w.heap.size ∧ b ∉ g.bk := by
  obtain ⟨i, hi⟩ := List.mem_iff_getElem?.1 hb
  have hl : i < rl.length := by rw [← h.rwl]; exact (List.getElem?_eq_some_iff.1 hi).1
  rcases (h.row i rl[i].1 rl[i].2 (List.getElem?_eq_getElem hl)).2 with ⟨h1, _⟩ | ⟨blk, arr, t, fr, h1, h2, _, _, h3, _⟩
  · rw [hi] at h1; cases h1
  · rw [hi] at h1; cases h1; exact ⟨lt_of_heap h2, h3⟩
theorem BxR.keep {L : Lk} {g g' : Gh} {rl rl' : List (Nat × Nat)} {w w' : World} (s : Step g rl w g' rl' w') {x : Bx} {b : Nat} (h : BxR L g rl w x b) (hb : w'.heap[b]? = w.heap[b]?) : BxR L g' rl' w' x b := by
  cases x with
  | var ty cs => obtain ⟨arr, t, h1, h2, h3, h4⟩ := h; exact ⟨arr, t, by rw [hb]; exact h1, h2, fun j x y hx hy => (h3 j x y hx hy).keep s, h4⟩
  | row es xs => obtain ⟨arr, t, h1, h2, h3, h5, h4⟩ := h; exact ⟨arr, t, by rw [hb]; exact h1, h2, h3, h5, fun i j x y v hx hy hv => (h4 i j x y v hx hy hv).keep s.mrk s.cell⟩
  | iter s' p => exact ⟨by rw [hb]; exact h.1, h.2⟩
  | dead => exact Nat.lt_of_lt_of_le h s.size
theorem RelSh.move {L : Lk} {g g' : Gh} {nb : Nat} {bx : List Bx} {rl : List (Nat × Nat)} {w w' : World} (h : RelSh L g nb bx rl w) (s : Step g rl w g' rl w')
    (hb : g'.bk = g.bk) (hr : g'.rw = g.rw) (hm : ∀ b, b < w.heap.size → g'.mrk b = g.mrk b) (hh : ∀ b, b < w.heap.size → w'.heap[b]? = w.heap[b]?)
    (hf : ∀ b, w'.heap.size ≤ b → g'.mrk b = 0) : RelSh L g' nb bx rl w' where
  nb := h.nb
  bkl := by rw [hb]; exact h.bkl
  box i x blk hx hk := by
    rw [hb] at hk
    obtain ⟨h1, h2⟩ := h.box i x blk hx hk
    have hlt := h.bk_lt (List.mem_iff_getElem?.2 ⟨i, hk⟩)
    exact ⟨fun hd => by rw [hm blk hlt, h1 hd], h2.keep s (hh blk hlt)⟩
  inj i j blk := by rw [hb]; exact h.inj i j blk
  rwl := by rw [hr]; exact h.rwl
  row k n e hk := by
    obtain ⟨h0, h1⟩ := h.row k n e hk
    refine ⟨h0, ?_⟩
    rw [hr, hb]
    rcases h1 with h1 | ⟨blk, arr, t, fr, h1, h2, h3, h4, h5, h6⟩
    · exact .inl h1
    · exact .inr ⟨blk, arr, t, fr, h1, by rw [hh blk (lt_of_heap h2)]; exact h2, by rw [hm blk (lt_of_heap h2), h3], h4, h5, h6⟩
  rinj i j b := by rw [hr]; exact h.rinj i j b
  fresh := hf
  glob i := (h.glob i).keep s
theorem cell_lt {w : World} (o : Obj) {b o' : Nat} (h : b < w.heap.size) : (w.alloc o).cell? ⟨b, o', none⟩ = w.cell? ⟨b, o', none⟩ := World.cell?_alloc_lt _ _ _ h
theorem shape_alloc {w : World} (o : Obj) {b : Nat} (h : b < w.heap.size) : (w.alloc o).shape? b = w.shape? b := by
  simp only [World.shape?, heap_alloc_old w o b h]
def Gh.data (g : Gh) (b n : Nat) : Gh := { g with mrk := fun x => if x = b then n else g.mrk x }
theorem Step.data (g : Gh) (rl : List (Nat × Nat)) (w : World) (o : Obj) (n : Nat) (hf : ∀ b, w.heap.size ≤ b → g.mrk b = 0) :
    Step g rl w (g.data w.heap.size n) rl (w.alloc o) where
  os := rfl
  tape := rfl
  output := rfl
  size := by simp
  mrk b := by
    simp only [Gh.data]; split
    · rename_i h; rw [hf b (by omega)]; exact Nat.zero_le _
    · exact Nat.le_refl _
  cell b o' ho := by
    by_cases hb : b < w.heap.size
    · exact cell_lt o hb
    · rw [hf b (by omega)] at ho; omega
  bk i b h := h
  row k n e h := ⟨n, h, Nat.le_refl _, fun _ => rfl⟩
  shape b h := shape_alloc o h
  newbk b h := .inl h
  newrw b h := .inl h
  frame b h _ _ := heap_alloc_old w o b h
  mold b h _ _ := by simp only [Gh.data]; rw [if_neg (by omega)]
theorem RelSh.data {L : Lk} {g : Gh} {nb : Nat} {bx : List Bx} {rl : List (Nat × Nat)} {w : World} (h : RelSh L g nb bx rl w) (o : Obj) (n : Nat) :
    RelSh L (g.data w.heap.size n) nb bx rl (w.alloc o) :=
  h.move (Step.data g rl w o n h.fresh) rfl rfl (fun b hb => by simp only [Gh.data]; rw [if_neg (by omega)]) (fun b hb => heap_alloc_old w o b hb)
    (fun b hb => by simp at hb; simp only [Gh.data]; rw [if_neg (by omega), h.fresh b (by omega)])
def Gh.box (g : Gh) (b : Nat) : Gh := { g with bk := g.bk ++ [b] }
theorem Step.box (g : Gh) (rl : List (Nat × Nat)) (w : World) (o : Obj) (hf : ∀ b, w.heap.size ≤ b → g.mrk b = 0) : Step g rl w (g.box w.heap.size) rl (w.alloc o) where
  os := rfl
  tape := rfl
  output := rfl
  size := by simp
  mrk b := Nat.le_refl _
  cell b o' ho := by
    by_cases hb : b < w.heap.size
    · exact cell_lt o hb
    · rw [hf b (by omega)] at ho; omega
  bk i b h := by
    simp only [Gh.box]
    rw [List.getElem?_append_left (List.getElem?_eq_some_iff.1 h).1]; exact h
  row k n e h := ⟨n, h, Nat.le_refl _, fun _ => rfl⟩
  shape b h := shape_alloc o h
  newbk b h := by
    simp only [Gh.box, List.mem_append, List.mem_singleton] at h
    rcases h with h | h
    · exact .inl h
    · exact .inr (by omega)
  newrw b h := .inl h
  frame b h _ _ := heap_alloc_old w o b h
  mold _ _ _ _ := rfl
theorem RelSh.box' {L : Lk} {g : Gh} {nb : Nat} {bx : List Bx} {rl : List (Nat × Nat)} {w : World} (h : RelSh L g nb bx rl w) (o : Obj) (x : Bx)
    (hx : BxR L (g.box w.heap.size) rl (w.alloc o) x w.heap.size) : RelSh L (g.box w.heap.size) (nb + 1) (bx ++ [x]) rl (w.alloc o) := by
  have s := Step.box g rl w o h.fresh
  have hge : ∀ i b, g.bk[i]? = some b → b < w.heap.size := fun i b hi => h.bk_lt (List.mem_iff_getElem?.2 ⟨i, hi⟩)
  refine ⟨by simp [h.nb], by simp [Gh.box, h.bkl], ?_, ?_, h.rwl, ?_, h.rinj, fun b hb => h.fresh b (by simp at hb; omega), fun i => (h.glob i).keep s⟩
  · intro i y blk hy hk
    simp only [Gh.box] at hk
    by_cases hi : i < bx.length
    · rw [List.getElem?_append_left hi] at hy
      rw [List.getElem?_append_left (by rw [h.bkl]; exact hi)] at hk
      obtain ⟨h1, h2⟩ := h.box i y blk hy hk
      exact ⟨h1, h2.keep s (heap_alloc_old w o blk (hge i blk hk))⟩
    · have hi' : i = bx.length := by
        have := (List.getElem?_eq_some_iff.1 hy).1; simp at this; omega
      subst hi'
      rw [← h.bkl, List.getElem?_concat_length] at hk
      rw [List.getElem?_concat_length] at hy
      cases hk; cases hy
      exact ⟨fun _ => h.fresh _ (Nat.le_refl _), hx⟩
  · intro i j blk hi hj
    simp only [Gh.box] at hi hj
    rw [List.getElem?_append] at hi hj
    by_cases h1 : i < g.bk.length <;> by_cases h2 : j < g.bk.length <;> simp only [h1, h2, if_true, if_false] at hi hj
    · exact h.inj i j blk hi hj
    · have := hge i blk hi
      have : blk = w.heap.size := by
        have h3 := List.getElem?_eq_some_iff.1 hj; obtain ⟨h4, h5⟩ := h3; simp at h4; simp [h4] at h5; omega
      omega
    · have := hge j blk hj
      have : blk = w.heap.size := by
        have h3 := List.getElem?_eq_some_iff.1 hi; obtain ⟨h4, h5⟩ := h3; simp at h4; simp [h4] at h5; omega
      omega
    · have h3 := (List.getElem?_eq_some_iff.1 hi).1
      have h4 := (List.getElem?_eq_some_iff.1 hj).1
      simp at h3 h4; omega
  · intro k n e hk
    obtain ⟨h0, h1⟩ := h.row k n e hk
    refine ⟨h0, ?_⟩
    rcases h1 with h1 | ⟨blk, arr, t, fr, h1, h2, h3, h4, h5, h6⟩
    · exact .inl h1
    · refine .inr ⟨blk, arr, t, fr, h1, by rw [heap_alloc_old w o blk (lt_of_heap h2)]; exact h2, h3, h4, ?_, h6⟩
      simp only [Gh.box, List.mem_append, List.mem_singleton]
      rintro (h6 | h6)
      · exact h5 h6
      · have := lt_of_heap h2; omega
theorem Step.drew (g : Gh) (rl : List (Nat × Nat)) (w : World) : Step g rl w g rl w.drew :=
  ⟨rfl, rfl, rfl, Nat.le_refl _, fun _ => Nat.le_refl _, fun _ _ _ => rfl, fun _ _ h => h, fun _ n _ h => ⟨n, h, Nat.le_refl _, fun _ => rfl⟩, fun _ _ => rfl, fun _ h => .inl h, fun _ h => .inl h, fun _ _ _ _ => rfl, fun _ _ _ _ => rfl⟩
theorem RelSh.drew {L : Lk} {g : Gh} {nb : Nat} {bx : List Bx} {rl : List (Nat × Nat)} {w : World} (h : RelSh L g nb bx rl w) : RelSh L g nb bx rl w.drew :=
  h.move (Step.drew g rl w) rfl rfl (fun _ _ => rfl) (fun _ _ => rfl) h.fresh
theorem Step.setBox {g : Gh} {rl : List (Nat × Nat)} {w : World} {b : Nat} (hb : b ∈ g.bk) (hm : g.mrk b = 0) (old cs : Array Value) (t : TypeId) (fr : Nat × Nat)
    (hg : w.heap[b]? = some (.cells old t fr)) (hs : cs.size = old.size) : Step g rl w g rl (w.setRow b cs) where
  os := rfl
  tape := rfl
  output := rfl
  size := by simp
  mrk b := Nat.le_refl _
  cell b' o ho := by
    by_cases h : b' = b
    · subst h; omega
    · exact World.cell?_of_block (a := ⟨b', o, none⟩) (setRow_other w b b' cs h)
  bk i b h := h
  row k n e h := ⟨n, h, Nat.le_refl _, fun _ => rfl⟩
  shape b' h' := by
    by_cases h : b' = b
    · subst h; simp only [World.shape?, setRow_heap w b' old cs t fr hg, hg, hs]
    · simp only [World.shape?, setRow_other w b b' cs h]
  newbk b h := .inl h
  newrw b h := .inl h
  frame b' _ h1 _ := setRow_other w b b' cs (fun h => h1 (h ▸ hb))
  mold _ _ _ _ := rfl
theorem RelSh.setBox {L : Lk} {g : Gh} {nb : Nat} {bx : List Bx} {rl : List (Nat × Nat)} {w : World} (h : RelSh L g nb bx rl w) {i b : Nat} (hi : g.bk[i]? = some b)
    (old cs : Array Value) (t : TypeId) (fr : Nat × Nat) (hg : w.heap[b]? = some (.cells old t fr)) (hs : cs.size = old.size) (hm : g.mrk b = 0) (x : Bx) (hx : BxR L g rl (w.setRow b cs) x b) :
    RelSh L g nb (bx.set i x) rl (w.setRow b cs) := by
  have hmem : b ∈ g.bk := List.mem_iff_getElem?.2 ⟨i, hi⟩
  have s := Step.setBox (rl := rl) hmem hm old cs t fr hg hs
  refine ⟨by simp [h.nb], by simp [h.bkl], ?_, h.inj, h.rwl, ?_, h.rinj, fun b hb => h.fresh b (by simpa using hb), fun i => (h.glob i).keep s⟩
  · intro j y blk hy hk
    by_cases hj : j = i
    · subst hj
      rw [hi] at hk; cases hk
      rw [List.getElem?_set] at hy
      split at hy
      · split at hy
        · cases hy; exact ⟨fun _ => hm, hx⟩
        · cases hy
      · exact absurd rfl ‹_›
    · rw [List.getElem?_set_ne (Ne.symm hj)] at hy
      obtain ⟨h1, h2⟩ := h.box j y blk hy hk
      exact ⟨h1, h2.keep s (setRow_other w b blk cs (fun hb => hj (h.inj j i b (hb ▸ hk) hi)))⟩
  · intro k n e hk
    obtain ⟨h0, h1⟩ := h.row k n e hk
    refine ⟨h0, ?_⟩
    rcases h1 with h1 | ⟨blk, arr, t, fr, h1, h2, h3, h4, h5, h6⟩
    · exact .inl h1
    · exact .inr ⟨blk, arr, t, fr, h1, by rw [setRow_other w b blk cs (fun hb => h5 (hb ▸ hmem))]; exact h2, h3, h4, h5, h6⟩
end Go.Ab
namespace Go.Ab
open Go
def mk0 (w : World) (b : Nat) : Nat := match w.heap[b]? with | some (.cells arr _ _) => arr.size | _ => 0
section
variable {H : Type}
mutual
def dvs : DataW H → List DV
  | .lit (.bool b) => [.bool b]
  | .lit (.int k n) => [.int k n]
  | .lit (.string s) => [.str s]
  | .nil => [.sl []]
  | .slice es _ => [.sl (dvsL es)]
  | .agg ps => (dvsL ps).flatten
  | _ => []
def dvsL : List (DataW H) → List (List DV)
  | [] => []
  | d :: r => dvs d :: dvsL r
end
theorem dvsL_map : ∀ l : List (DataW H), dvsL l = l.map dvs
  | [] => rfl
  | d :: r => by rw [dvsL, dvsL_map r]; rfl
end
def offs {α : Type} (ty : α → Nat) (off : α → Nat) : Nat → List α → Nat → Bool
  | o, [], n => Nat.beq o n
  | o, f :: r, n => Nat.beq (off f) o && offs ty off (o + ty f) r n
def okTy (P : Program) (S : List TypeId) (t : TypeId) : Bool :=
  match P.underlying t with
  | some .bool => Nat.beq (P.cellsOf t) 1
  | some .string => Nat.beq (P.cellsOf t) 1
  | some (.int _) => Nat.beq (P.cellsOf t) 1
  | some (.slice e) => Nat.beq (P.cellsOf t) 1 && Nat.blt 0 (P.cellsOf e) && Nat.blt 0 (P.bytesOf e) && S.contains e
  | some (.struct fs) => fs.toList.all (fun f => S.contains f.type) && offs (fun f => P.cellsOf f.type) Field.offset 0 fs.toList (P.cellsOf t)
  | some (.array n e) => S.contains e && Nat.beq (n * P.cellsOf e) (P.cellsOf t)
  | _ => false
def fitL (F : TypeId → List DV → Prop) : List TypeId → List (List DV) → Prop
  | [], [] => True
  | t :: ts, l :: ls => F t l ∧ fitL F ts ls
  | _, _ => False
def fit (P : Program) : Nat → TypeId → List DV → Prop
  | 0, _, _ => False
  | n + 1, t, l => match P.underlying t with
    | some .bool => ∃ b, l = [.bool b]
    | some (.int k) => ∃ i, inR k i ∧ l = [.int k i]
    | some .string => ∃ s : List UInt8, s.length ≤ big ∧ l = [.str s]
    | some (.slice e) => ∃ xs : List (List DV), xs.length ≤ big ∧ l = [.sl xs] ∧ ∀ x, x ∈ xs → fit P n e x
    | some (.struct fs) => ∃ ls, l = ls.flatten ∧ fitL (fit P n) (fs.toList.map (·.type)) ls
    | some (.array _ e) => ∃ ls : List (List DV), l = ls.flatten ∧ ∀ x, x ∈ ls → fit P n e x
    | _ => False
def RL (mk : Nat → Nat) (w : World) (l : List DV) (cs : List Value) : Prop :=
  l.length = cs.length ∧ ∀ (j : Nat) (y : DV) (c : Value), l[j]? = some y → cs[j]? = some c → DR mk w y c
section
variable {H : Type} {mk : Nat → Nat} {w : World}
theorem RL.nil : RL mk w [] [] := ⟨rfl, fun j y c h => by simp at h⟩
theorem RL.one {y : DV} {c : Value} (h : DR mk w y c) : RL mk w [y] [c] := ⟨rfl, fun j y' c' h1 h2 => by
  cases j with
  | zero => simp at h1 h2; subst h1; subst h2; exact h
  | succ j => simp at h1⟩
theorem RL.app {a b : List DV} {x y : List Value} (h1 : RL mk w a x) (h2 : RL mk w b y) : RL mk w (a ++ b) (x ++ y) := by
  refine ⟨by simp [h1.1, h2.1], fun j d c hd hc => ?_⟩
  by_cases hj : j < a.length
  · rw [List.getElem?_append_left hj] at hd
    rw [List.getElem?_append_left (by have := h1.1; omega)] at hc
    exact h1.2 j d c hd hc
  · have e := h1.1
    rw [List.getElem?_append_right (by omega)] at hd
    rw [List.getElem?_append_right (by omega), ← e] at hc
    exact h2.2 _ d c hd hc
theorem lit_inR {k : IntKind} {n : Int} (h : (Lit.int k n).wf = true) : inR k n := by
  simp only [Lit.wf, Bool.and_eq_true, decide_eq_true_eq] at h
  obtain ⟨h1, h2⟩ := h
  cases k <;> exact ⟨h1, h2⟩
theorem mem_weightsAll {P : Program} {e : TypeId} {x : Nat} {d : DataW H} : ∀ {l : List (DataW H)}, d ∈ l → x ∈ d.weights P e → x ∈ DataW.weightsAll P e l
  | a :: r, h, hx => by
    unfold DataW.weightsAll
    rcases List.mem_cons.1 h with rfl | h
    · exact List.mem_append_left _ hx
    · exact List.mem_append_right _ (mem_weightsAll h hx)
theorem mem_weightsEach {P : Program} {x : Nat} : ∀ {ts : List TypeId} {ds : List (DataW H)} {j : Nat} {t : TypeId} {d : DataW H}, ts[j]? = some t → ds[j]? = some d → x ∈ d.weights P t → x ∈ DataW.weightsEach P ts ds
  | [], _, _, _, _, h, _, _ => by simp at h
  | _ :: _, [], _, _, _, _, h, _ => by simp at h
  | t :: ts, d :: ds, 0, t', d', h1, h2, hx => by
    simp at h1 h2
    subst h1
    subst h2
    unfold DataW.weightsEach
    exact List.mem_append_left _ hx
  | t :: ts, d :: ds, j + 1, t', d', h1, h2, hx => by
    unfold DataW.weightsEach
    exact List.mem_append_right _ (mem_weightsEach (j := j) (by simpa using h1) (by simpa using h2) hx)
theorem offs_range (e : Nat) : ∀ (k s : Nat), offs (fun _ : Nat => e) (fun i => i * e) (s * e) (List.range' s k) ((s + k) * e) = true
  | 0, s => by simp [offs]
  | k + 1, s => by
    have := offs_range e k (s + 1)
    rw [show s + 1 + k = s + (k + 1) by omega, Nat.add_mul s 1 e, Nat.one_mul] at this
    rw [List.range'_succ]
    simp only [offs, Bool.and_eq_true]
    exact ⟨Nat.beq_refl _, this⟩
theorem mapM_cons_some {α β : Type} {f : α → Option β} {a : α} {r : List α} {ys : List β} (h : (a :: r).mapM f = some ys) : ∃ y zs, f a = some y ∧ r.mapM f = some zs ∧ ys = y :: zs := by
  rw [List.mapM_cons] at h
  cases ha : f a with
  | none => simp [ha] at h
  | some y =>
    cases hr : r.mapM f with
    | none => simp [ha, hr] at h
    | some zs => simp [ha, hr] at h; exact ⟨y, zs, rfl, rfl, h.symm⟩
theorem parts_open {α : Type} {P : Program} {r : TypeId → List Value → Option (DataW H × List MemPlace)} (ty : α → TypeId) (off : α → Nat) (F : TypeId → List DV → Prop) (ok : TypeId → DataW H → Prop)
    (hr : ∀ t c x, ok t x.1 → r t c = some x → RL mk w (dvs x.1) c ∧ F t (dvs x.1)) (cs : List Value) : ∀ (L : List α) (o : Nat) (xs : List (DataW H × List MemPlace)),
    L.mapM (fun a => r (ty a) ((cs.drop (off a)).take (P.cellsOf (ty a)))) = some xs → offs (fun a => P.cellsOf (ty a)) off o L cs.length = true →
    (∀ (j : Nat) (a : α) (x : DataW H × List MemPlace), L[j]? = some a → xs[j]? = some x → ok (ty a) x.1) →
    RL mk w (dvsL (xs.map (·.1))).flatten (cs.drop o) ∧ fitL F (L.map ty) (dvsL (xs.map (·.1)))
  | [], o, xs, h, ho, _ => by
    simp at h
    subst h
    have : o = cs.length := Nat.eq_of_beq_eq_true ho
    subst this
    exact ⟨by simpa [dvsL] using RL.nil, trivial⟩
  | a :: L, o, xs, h, ho, hk => by
    obtain ⟨x, zs, h1, h2, rfl⟩ := mapM_cons_some h
    simp only [offs, Bool.and_eq_true] at ho
    obtain ⟨o1, o2⟩ := ho
    have o1 : off a = o := Nat.eq_of_beq_eq_true o1
    subst o1
    obtain ⟨a1, a2⟩ := hr _ _ _ (hk 0 a x rfl rfl) h1
    obtain ⟨b1, b2⟩ := parts_open ty off F ok hr cs L (off a + P.cellsOf (ty a)) zs h2 o2 (fun j a' x' q1 q2 => hk (j + 1) a' x' (by simpa using q1) (by simpa using q2))
    refine ⟨?_, a2, b2⟩
    have := a1.app b1
    rw [← List.drop_drop, List.take_append_drop] at this
    exact this
theorem fitL_all {F : TypeId → List DV → Prop} {e : TypeId} {α : Type} : ∀ {L : List α} {ls : List (List DV)}, fitL F (L.map fun _ => e) ls → ∀ x, x ∈ ls → F e x
  | [], [], _, x, hx => by simp at hx
  | _ :: L, l :: ls, h, x, hx => by
    rcases List.mem_cons.1 hx with rfl | hx
    · exact h.1
    · exact fitL_all (L := L) h.2 x hx
  | [], _ :: _, h, _, _ => h.elim
  | _ :: _, [], h, _, _ => h.elim
theorem cells_get {base : Nat} {a : Addr} {n : Nat} {cs : List Value} (h : w.cells? base a n = some cs) : cs.length = n ∧ ∀ i, i < n → ∃ c, cs[i]? = some c ∧ w.cell? (a.add i) = some c := by
  unfold World.cells? at h
  split at h
  · refine ⟨by simpa using mapM_some_length h, fun i hi => ?_⟩
    have := mapM_some_get h i i (by simp [hi])
    rw [List.getElem?_eq_getElem (by have := mapM_some_length h; simp at this; omega)] at this ⊢
    exact ⟨_, rfl, this⟩
  · cases h
theorem cell_at {a : Addr} {i : Nat} {c : Value} (h : w.cell? (a.add i) = some c) : (i = 0 → a.spot = none) ∧ w.cell? ⟨a.block, a.off + i, none⟩ = some c ∧ a.off + i < mk0 w a.block := by
  have hspot : (a.add i).spot = none := by
    cases hsp : (a.add i).spot with
    | none => rfl
    | some s =>
      simp only [World.cell?] at h
      split at h
      · simp [hsp] at h
      · cases h
  have e : a.add i = ⟨a.block, a.off + i, none⟩ := by
    unfold Addr.add at hspot ⊢
    split
    · rename_i h0
      subst h0
      rw [if_pos rfl] at hspot
      cases a
      simp_all
    · rfl
  refine ⟨fun h0 => by subst h0; exact hspot, ?_⟩
  rw [e] at h
  refine ⟨h, ?_⟩
  unfold World.cell? at h
  unfold mk0
  split at h
  · rename_i c' t fr hb
    simp only at hb
    rw [hb]
    simp only [Option.isSome_none, Bool.false_eq_true, if_false] at h
    exact (Array.getElem?_eq_some_iff.1 h).1
  · cases h
theorem add_add2 (a : Addr) (i j : Nat) : (a.add i).add j = a.add (i + j) := by
  unfold Addr.add
  by_cases hi : i = 0 <;> by_cases hj : j = 0 <;> simp [hi, hj, Nat.add_assoc]
theorem open_fit {P : Program} {enc : TypeId × Value → H} {held : Bool} (S : List TypeId) (hS : S.all (okTy P S) = true) : ∀ (n : Nat) (t : TypeId) (cs : List Value) (x : DataW H × List MemPlace),
    t ∈ S → (∀ y, y ∈ x.1.weights P t → y ≤ reachBytes) → DataW.trod enc P w 0 (fun _ => true) held n t cs = some x → RL (mk0 w) w (dvs x.1) cs ∧ fit P n t (dvs x.1) := by
  intro n
  induction n with
  | zero => intro t cs x _ _ h; simp [DataW.trod] at h
  | succ n ih =>
    intro t cs x ht hw h
    have hok := List.all_eq_true.1 hS t ht
    unfold okTy at hok
    split at hok
    · rename_i hu
      obtain ⟨b, rfl, rfl⟩ := DataW.trod_bool hu h
      exact ⟨RL.one (.bool b), by unfold fit; rw [hu]; exact ⟨b, rfl⟩⟩
    · rename_i hu
      obtain ⟨s, rfl, rfl, _⟩ := DataW.trod_string hu h
      have hl : s.data.toList.length ≤ big := by
        have := hw s.data.toList.length (by simp [DataW.weights])
        unfold reachBytes at this; unfold big; omega
      refine ⟨RL.one ?_, by unfold fit; rw [hu]; exact ⟨_, hl, rfl⟩⟩
      have := DR.str (mk := mk0 w) (w := w) s.data.toList hl
      simpa using this
    · rename_i k hu
      obtain ⟨i, rfl, rfl, hwf⟩ := DataW.trod_int hu h
      exact ⟨RL.one (.int k i (lit_inR hwf)), by unfold fit; rw [hu]; exact ⟨i, lit_inR hwf, rfl⟩⟩
    · rename_i e hu
      simp only [Bool.and_eq_true] at hok
      obtain ⟨⟨⟨_, hc⟩, hb⟩, he⟩ := hok
      have he := List.contains_iff_mem.1 he
      have hc : 0 < P.cellsOf e := Nat.le_of_ble_eq_true hc
      have hb : 0 < P.bytesOf e := Nat.le_of_ble_eq_true hb
      rcases DataW.trod_slice hu h with ⟨rfl, rfl⟩ | ⟨a, len, cap, elems, rest, m, hm, rfl, rfl, _, hlc, _, hlen, hel, hsp, _⟩
      · exact ⟨RL.one .slnil, by unfold fit; rw [hu]; exact ⟨[], by simp, rfl, fun x hx => by simp at hx⟩⟩
      · obtain rfl : m = n := by omega
        obtain ⟨hrl, hre⟩ := hsp rfl
        have hwt : ∀ y, y ∈ DataW.weightsAll P e (elems.map (·.1)) → y ≤ reachBytes := fun y hy => hw y (by
          unfold DataW.weights; rw [hu]; exact List.mem_cons_of_mem _ (List.mem_append_left _ hy))
        have hbig : (elems.length + rest.length) * P.bytesOf e ≤ reachBytes := hw _ (by
          unfold DataW.weights; rw [hu]; simp)
        have hsz : elems.length ≤ big := by
          have : (elems.length + rest.length) * 1 ≤ (elems.length + rest.length) * P.bytesOf e := Nat.mul_le_mul_left _ hb
          unfold reachBytes at hbig; unfold big; omega
        have one : ∀ (i : Nat) (x : DataW H × List MemPlace), elems[i]? = some x → ∃ c, w.cells? 0 (a.add (i * P.cellsOf e)) (P.cellsOf e) = some c ∧ RL (mk0 w) w (dvs x.1) c ∧ fit P m e (dvs x.1) := by
          intro i x hx
          have hi : i < len := by have := (List.getElem?_eq_some_iff.1 hx).1; omega
          have h1 := hel i hi
          rw [hx] at h1
          obtain ⟨c, hc1, hc2⟩ := Option.bind_eq_some_iff.1 h1
          exact ⟨c, hc1, ih e c x he (fun y hy => hwt y (mem_weightsAll (List.mem_map.2 ⟨x, List.mem_of_getElem? hx, rfl⟩) hy)) hc2⟩
        have efit : ∀ l, l ∈ dvsL (elems.map (·.1)) → fit P m e l := by
          intro l hl
          rw [dvsL_map] at hl
          obtain ⟨d, hd, rfl⟩ := List.mem_map.1 hl
          obtain ⟨x, hx, rfl⟩ := List.mem_map.1 hd
          obtain ⟨i, hi⟩ := List.mem_iff_getElem?.1 hx
          exact (one i x hi).choose_spec.2.2
        have hdl : (dvsL (elems.map (·.1))).length = elems.length := by rw [dvsL_map]; simp
        refine ⟨RL.one ?_, by unfold fit; rw [hu]; exact ⟨_, by rw [hdl]; exact hsz, rfl, efit⟩⟩
        obtain ⟨blk, off, sp⟩ := a
        by_cases h0 : len = 0
        · have hnil : elems = [] := List.eq_nil_of_length_eq_zero (by omega)
          subst hnil
          subst h0
          by_cases hcap : cap = 0
          · subst hcap; exact .sle _
          · have h1 := hre 0 (by omega)
            rw [List.getElem?_eq_getElem (by omega)] at h1
            obtain ⟨c, hc1, _⟩ := Option.bind_eq_some_iff.1 h1
            obtain ⟨v, _, hv⟩ := (cells_get hc1).2 0 hc
            rw [add_add2] at hv
            obtain ⟨q1, q2, q3⟩ := cell_at hv
            have q1 : sp = none := q1 (by simp)
            subst q1
            refine .sl [] blk off cap 0 (fun _ _ => .nilFunc) (by simp) (by simp) (fun x hx => by simp at hx) ?_ (fun i j hi => by simp at hi) (fun i j x y hx => by simp at hx)
            simp at q3 ⊢
            omega
        · have hcell : ∀ i j, i < elems.length → j < P.cellsOf e → ∃ c, w.cell? ((⟨blk, off, sp⟩ : Addr).add (i * P.cellsOf e + j)) = some c ∧
              ∀ y, (dvsL (elems.map (·.1)))[i]? >>= (fun l => l[j]?) = some y → DR (mk0 w) w y c := by
            intro i j hi hj
            obtain ⟨c, hc1, hc2, _⟩ := one i elems[i] (List.getElem?_eq_getElem hi)
            obtain ⟨v, hv1, hv2⟩ := (cells_get hc1).2 j hj
            rw [add_add2] at hv2
            refine ⟨v, hv2, fun y hy => hc2.2 j y v ?_ hv1⟩
            rw [dvsL_map] at hy
            simpa [List.getElem?_eq_getElem hi] using hy
          have hsp0 : sp = none := by
            obtain ⟨c, hc1, _⟩ := hcell 0 0 (by omega) hc
            exact (cell_at hc1).1 (by simp)
          subst hsp0
          have hlast : off + elems.length * P.cellsOf e ≤ mk0 w blk := by
            obtain ⟨c, hc1, _⟩ := hcell (elems.length - 1) (P.cellsOf e - 1) (by omega) (by omega)
            have := (cell_at hc1).2.2
            simp only at this
            have e1 : (elems.length - 1) * P.cellsOf e + P.cellsOf e = elems.length * P.cellsOf e := by
              rw [← Nat.succ_mul]; congr 1; omega
            omega
          have hlen' : ∀ x, x ∈ dvsL (elems.map (·.1)) → x.length = P.cellsOf e := by
            intro l hl
            rw [dvsL_map] at hl
            obtain ⟨d, hd, rfl⟩ := List.mem_map.1 hl
            obtain ⟨x, hx, rfl⟩ := List.mem_map.1 hd
            obtain ⟨i, hi⟩ := List.mem_iff_getElem?.1 hx
            obtain ⟨c, hc1, hc2, _⟩ := one i x hi
            rw [hc2.1, (cells_get hc1).1]
          have key := DR.sl (mk := mk0 w) (w := w) (dvsL (elems.map (·.1))) blk off cap (P.cellsOf e) (fun i j => (w.cell? ⟨blk, off + (i * P.cellsOf e + j), none⟩).getD .nilFunc) (by rw [hdl]; exact hsz) (by rw [hdl]; omega) hlen'
            (by rw [hdl]; exact hlast) (fun i j hi hj => by
              rw [hdl] at hi
              obtain ⟨c, hc1, _⟩ := hcell i j hi hj
              rw [(cell_at hc1).2.1]
              rfl) (fun i j x y hx hy => by
              have hi : i < elems.length := by have := (List.getElem?_eq_some_iff.1 hx).1; omega
              have hj : j < P.cellsOf e := by have := (List.getElem?_eq_some_iff.1 hy).1; rw [hlen' x (List.mem_of_getElem? hx)] at this; exact this
              obtain ⟨c, hc1, hc2⟩ := hcell i j hi hj
              rw [(cell_at hc1).2.1]
              exact hc2 y (by rw [hx]; exact hy))
          rw [hdl, hlen] at key
          exact key
    · rename_i fs hu
      simp only [Bool.and_eq_true] at hok
      obtain ⟨ha, ho⟩ := hok
      rw [DataW.trod_step] at h
      unfold DataW.trodStep at h
      rw [hu] at h
      split at h <;> first | (exfalso; simp_all; done) | skip
      rename_i cs' _ _ fs' hq
      obtain rfl : fs = fs' := by injection hq with hq; injection hq
      split at h
      · rename_i hl
        obtain ⟨xs, hx, rfl⟩ := Option.map_eq_some_iff.1 h
        have hxl : xs.length = fs.toList.length := by simpa using mapM_some_length hx
        have := parts_open (fun f : Field => f.type) Field.offset (fit P n) (fun t d => t ∈ S ∧ ∀ y, y ∈ DataW.weights P t d → y ≤ reachBytes) (fun t c x hk hx => ih t c x hk.1 hk.2 hx) cs' fs.toList 0 xs hx (by rw [hl]; exact ho) (fun j a x hja hjx => by
          refine ⟨List.contains_iff_mem.1 (List.all_eq_true.1 ha a (List.mem_of_getElem? hja)), fun y hy => hw y ?_⟩
          unfold DataW.weights; rw [hu]
          simp only
          refine mem_weightsEach (j := j) (t := a.type) (d := x.1) ?_ ?_ hy
          · rw [List.getElem?_map, hja]; rfl
          · rw [List.getElem?_map, hjx]; rfl)
        refine ⟨by simpa [dvs] using this.1, ?_⟩
        unfold fit; rw [hu]
        exact ⟨_, by rw [dvs], this.2⟩
      · cases h
    · rename_i m e hu
      simp only [Bool.and_eq_true] at hok
      obtain ⟨he, ho⟩ := hok
      have he := List.contains_iff_mem.1 he
      have ho : m * P.cellsOf e = P.cellsOf t := Nat.eq_of_beq_eq_true ho
      rw [DataW.trod_step] at h
      unfold DataW.trodStep at h
      rw [hu] at h
      split at h <;> first | (exfalso; simp_all; done) | skip
      rename_i cs' _ _ m' e' hq
      obtain ⟨rfl, rfl⟩ : m = m' ∧ e = e' := by injection hq with hq; injection hq with q1 q2; exact ⟨q1, q2⟩
      split at h
      · rename_i hl
        obtain ⟨xs, hx, rfl⟩ := Option.map_eq_some_iff.1 h
        have hoff := offs_range (P.cellsOf e) m 0
        rw [Nat.zero_mul, Nat.zero_add, ← List.range_eq_range', ho, ← hl] at hoff
        have := parts_open (fun _ : Nat => e) (fun i => i * P.cellsOf e) (fit P n) (fun t d => t ∈ S ∧ ∀ y, y ∈ DataW.weights P t d → y ≤ reachBytes) (fun t c x hk hx => ih t c x hk.1 hk.2 hx) cs' (List.range m) 0 xs hx hoff (fun j a x hja hjx => by
          refine ⟨he, fun y hy => hw y ?_⟩
          unfold DataW.weights; rw [hu]
          simp only
          exact mem_weightsAll (d := x.1) (List.mem_map.2 ⟨x, List.mem_of_getElem? hjx, rfl⟩) hy)
        refine ⟨by simpa [dvs] using this.1, ?_⟩
        unfold fit; rw [hu]
        exact ⟨_, by rw [dvs], fitL_all this.2⟩
      · cases h
    · cases hok
end
end Go.Ab
namespace Go.Ab
open Go
structure RelSt (L : Lk) (n : Nat) (g : Gh) (σ : St) (a : Act) (w : World) : Prop where
  defers : a.defers = []
  size : a.tmps.size = n
  slot : ∀ s, VR L g σ.rl w (look σ.env s) (a.tmps.getD s undef)
  sh : RelSh L g σ.nb σ.bx σ.rl w
theorem RelSt.keep {L : Lk} {n : Nat} {g g' : Gh} {σ : St} {a : Act} {w w' : World} {nb : Nat} {bx : List Bx} {rl : List (Nat × Nat)} (h : RelSt L n g σ a w) (s : Step g σ.rl w g' rl w')
    (hs : RelSh L g' nb bx rl w') : RelSt L n g' ⟨σ.env, nb, bx, rl⟩ a w' :=
  ⟨h.defers, h.size, fun i => (h.slot i).keep s, hs⟩
theorem look_cons (k : Nat) (v : AV) (env : Env) (s : Nat) : look ((k, v) :: env) s = if k = s then v else look env s := by
  simp only [look]
  by_cases h : k = s
  · subst h; simp
  · have : Nat.beq k s = false := by cases hb : Nat.beq k s with | true => exact absurd (Nat.eq_of_beq_eq_true hb) h | false => rfl
    simp [this, h]
theorem getD_set (xs : Array Value) (d s : Nat) (v : Value) (hd : d < xs.size) : (xs.setIfInBounds d v).getD s undef = if d = s then v else xs.getD s undef := by
  simp only [Array.getD_eq_getD_getElem?, Array.getElem?_setIfInBounds]
  by_cases h : d = s
  · subst h; simp [hd]
  · simp [h]
theorem RelSt.put {L : Lk} {n : Nat} {g : Gh} {σ : St} {a : Act} {w : World} (h : RelSt L n g σ a w) (d : Nat) (hd : d < n) {v : AV} {c : Value} (hv : VR L g σ.rl w v c) :
    RelSt L n g ⟨(d, v) :: σ.env, σ.nb, σ.bx, σ.rl⟩ (a.put (some d) c) w := by
  refine ⟨h.defers, by simp [Act.put, h.size], fun s => ?_, h.sh⟩
  simp only [look_cons, Act.put]
  rw [getD_set _ _ _ _ (by rw [h.size]; exact hd)]
  split
  · exact hv
  · exact h.slot s
theorem RelSt.know {L : Lk} {n : Nat} {g : Gh} {σ : St} {a : Act} {w : World} (h : RelSt L n g σ a w) (i : Nat) (v : AV) (hv : VR L g σ.rl w v (a.tmps.getD i undef)) :
    RelSt L n g ⟨(i, v) :: σ.env, σ.nb, σ.bx, σ.rl⟩ a w := by
  refine ⟨h.defers, h.size, fun s => ?_, h.sh⟩
  simp only [look_cons]
  split
  · rename_i e; subst e; exact hv
  · exact h.slot s
def KR (v : Value) (d : DV) : Prop := ∀ mk w, DR mk w d v
inductive ArgR (L : Lk) : Operand → Arg → Prop where
  | t (i : Nat) : ArgR L (.tmp i) (.t i)
  | k (v : Value) (d : DV) (h : KR v d) (h0 : d = .sl [] → v = .slice none 0 0) : ArgR L (.const v) (.k d)
  | ka (vs : Array Value) (ds : List DV) (hn : vs.size = ds.length) (h : ∀ (j : Nat) (x : DV) (y : Value), ds[j]? = some x → vs[j]? = some y → KR y x ∧ (x = .sl [] → y = .slice none 0 0)) : ArgR L (.const (.agg vs)) (.ka ds)
  | g (i : Nat) : ArgR L (.global (L.gn i)) (.g i)
  | f (i : Nat) : ArgR L (.func (L.fn i)) (.f i)
theorem zAV_ok {L : Lk} {g : Gh} {rl : List (Nat × Nat)} {w : World} {d : DV} {v : Value} (h : DR g.mrk w d v) (h0 : d = .sl [] → v = .slice none 0 0) : VR L g rl w (zAV d) v := by
  unfold zAV
  split
  · have := h0 rfl; subst this; exact .rsl [] .nil _ .slnil rfl
  · exact .d _ _ h
theorem zAVs_eq : ∀ l : List DV, zAVs l = l.map zAV
  | [] => rfl
  | x :: r => by rw [zAVs, zAVs_eq r]; rfl
theorem ArgR.val {L : Lk} {x : Operand} {ax : Arg} (hx : ArgR L x ax) {n : Nat} {g : Gh} {σ : St} {a : Act} {w : World} (h : RelSt L n g σ a w) : VR L g σ.rl w (argV L.gl σ.env ax) (a.eval x) := by
  cases hx with
  | t i => exact h.slot i
  | k v d hk h0 => exact zAV_ok (hk _ _) h0
  | ka vs ds hn hh =>
    refine .agg _ _ (by rw [zAVs_eq]; simpa using hn) fun j x y hx hy => ?_
    rw [zAVs_eq, List.getElem?_map] at hx
    cases hj : ds[j]? with
    | none => rw [hj] at hx; cases hx
    | some d =>
      rw [hj] at hx; cases hx
      obtain ⟨h1, h2⟩ := hh j d y hj hy
      exact zAV_ok (h1 _ _) h2
  | g i => exact (h.sh.glob i).1
  | f i => exact .fn i [] #[] rfl (fun j x y hx => by simp at hx)
def aggD : TypeDesc → Bool
  | .struct _ | .array _ _ => true
  | _ => false
def TyR (L : Lk) (t : TypeId) (n : Nat) (ag : Bool) : Prop :=
  (∃ i, L.P.info? t = some i ∧ i.size = n) ∧ (∃ d, L.P.underlying t = some d ∧ aggD d = ag) ∧ (ag = false → n = 1)
theorem force_eq (v : AV) (K : AV → Prop) : force v K = K v := by cases v <;> rfl
theorem setK_eq {α : Type} (xs : List α) (i : Nat) (v : α) (K : List α → Prop) (h : setK xs i v K) : i < xs.length ∧ K (xs.set i v) := by
  induction xs generalizing i K with
  | nil => exact h.elim
  | cons x r ih =>
    cases i with
    | zero => exact ⟨by simp, h⟩
    | succ i => obtain ⟨h1, h2⟩ := ih i _ h; exact ⟨by simp; omega, h2⟩
theorem snocK_eq {α : Type} (xs : List α) (v : α) (K : List α → Prop) (h : snocK xs v K) : K (xs ++ [v]) := by
  induction xs generalizing K with
  | nil => exact h
  | cons x r ih => exact ih _ h
theorem cellsK_eq {α : Type} (xs : List α) (j n : Nat) (K : List α → Prop) (h : cellsK xs j n K) : (n = 0 ∨ j + n ≤ xs.length) ∧ ∃ ys, ys.length = n ∧ (∀ i, i < n → ys[i]? = xs[j + i]?) ∧ K ys := by
  induction xs generalizing j n K with
  | nil =>
    cases n with
    | zero => exact ⟨.inl rfl, [], rfl, fun i hi => absurd hi (by omega), h⟩
    | succ n => exact h.elim
  | cons x r ih =>
    cases j with
    | succ j =>
      obtain ⟨h1, ys, h2, h3, h4⟩ := ih j n K h
      refine ⟨by simp; omega, ys, h2, fun i hi => ?_, h4⟩
      rw [h3 i hi, show j + 1 + i = (j + i) + 1 by omega, List.getElem?_cons_succ]
    | zero =>
      cases n with
      | zero => exact ⟨.inl rfl, [], rfl, fun i hi => absurd hi (by omega), h⟩
      | succ n =>
        obtain ⟨h1, ys, h2, h3, h4⟩ := ih 0 n _ h
        refine ⟨by simp; omega, x :: ys, by simp [h2], fun i hi => ?_, h4⟩
        cases i with
        | zero => simp
        | succ i => simp only [List.getElem?_cons_succ, Nat.zero_add]; rw [h3 i (by omega), Nat.zero_add]
theorem lenK_eq {α : Type} (xs : List α) (n : Nat) (K : Prop) (h : lenK xs n K) : xs.length = n ∧ K := by
  induction xs generalizing n with
  | nil => cases n with
    | zero => exact ⟨rfl, h⟩
    | succ n => exact h.elim
  | cons x r ih => cases n with
    | zero => exact h.elim
    | succ n => obtain ⟨h1, h2⟩ := ih n h; exact ⟨by simp [h1], h2⟩
theorem dropK_eq {α : Type} (xs : List α) (n : Nat) (K : List α → Prop) (h : dropK xs n K) : n ≤ xs.length ∧ K (xs.drop n) := by
  induction n generalizing xs with
  | zero => exact ⟨Nat.zero_le _, by simpa [dropK] using h⟩
  | succ n ih =>
    cases xs with
    | nil => exact h.elim
    | cons x r => obtain ⟨h1, h2⟩ := ih r h; exact ⟨by simp; omega, h2⟩
theorem zAVsK_eq (xs : List DV) (K : List AV → Prop) (h : zAVsK xs K) : K (xs.map zAV) := by
  induction xs generalizing K with
  | nil => exact h
  | cons x r ih => simp only [zAVsK, force_eq] at h; exact ih _ h
theorem toAVsK_eq (xs : List DV) (K : List AV → Prop) (h : toAVsK xs K) : K (xs.map .d) := by
  induction xs generalizing K with
  | nil => exact h
  | cons x r ih => exact ih _ h
theorem putK_eq {α : Type} (xs : List α) (j : Nat) (vs : List α) (K : List α → Prop) (h : putK xs j vs K) : (vs = [] ∨ j + vs.length ≤ xs.length) ∧ K (xs.take j ++ vs ++ xs.drop (j + vs.length)) := by
  induction xs generalizing j vs K with
  | nil =>
    cases vs with
    | nil => exact ⟨.inl rfl, by simpa [putK] using h⟩
    | cons v vs => exact h.elim
  | cons x r ih =>
    cases vs with
    | nil => refine ⟨.inl rfl, ?_⟩; simpa [putK] using h
    | cons v vs =>
      cases j with
      | succ j =>
        obtain ⟨h1, h2⟩ := ih j (v :: vs) _ h
        refine ⟨.inr (by rcases h1 with h1 | h1 <;> simp_all <;> omega), ?_⟩
        rw [show j + 1 + (v :: vs).length = (j + (v :: vs).length) + 1 by omega]
        simpa using h2
      | zero =>
        obtain ⟨h1, h2⟩ := ih 0 vs _ h
        refine ⟨.inr (by rcases h1 with h1 | h1 <;> simp_all), ?_⟩
        simpa using h2
def oneV : AV → Prop
  | .agg _ => False
  | .tup _ => False
  | .junk => False
  | _ => True
theorem VR.one {L : Lk} {g : Gh} {rl : List (Nat × Nat)} {w : World} {v : AV} {c : Value} (h : VR L g rl w v c) (h1 : oneV v) : c.oneCell' = true ∧ c.cells = #[c] := by
  cases h with
  | d v c h => cases h <;> exact ⟨rfl, rfl⟩
  | rsl xs t v h ht => cases h <;> exact ⟨rfl, rfl⟩
  | agg cs vs hn h => exact h1.elim
  | tup cs vs hn h => exact h1.elim
  | junk v => exact h1.elim
  | _ => exact ⟨rfl, rfl⟩
theorem onesK_eq (cs : List AV) (K : Prop) (h : onesK cs K) : K ∧ ∀ x, x ∈ cs → oneV x := by
  induction cs with
  | nil => exact ⟨h, fun x hx => by cases hx⟩
  | cons v r ih =>
    have key : onesK r K → oneV v → K ∧ ∀ x, x ∈ v :: r → oneV x := fun h1 h2 =>
      ⟨(ih h1).1, fun x hx => by cases hx with | head => exact h2 | tail _ hx => exact (ih h1).2 x hx⟩
    cases v <;> first | exact h.elim | exact key h trivial
theorem cellsOf_eq {L : Lk} {g : Gh} {rl : List (Nat × Nat)} {w : World} {v : AV} {c : Value} (hv : VR L g rl w v c) (K : List AV → Prop) (h : cellsOf v K) :
    ∃ cs, K cs ∧ c.cells.size = cs.length ∧ (∀ (j : Nat) (x : AV) (y : Value), cs[j]? = some x → c.cells[j]? = some y → VR L g rl w x y) ∧ ∀ y, y ∈ c.cells.toList → y.oneCell' = true := by
  have single : ∀ u : AV, oneV u → u = v → K [u] → ∃ cs, K cs ∧ c.cells.size = cs.length ∧ (∀ (j : Nat) (x : AV) (y : Value), cs[j]? = some x → c.cells[j]? = some y → VR L g rl w x y) ∧ ∀ y, y ∈ c.cells.toList → y.oneCell' = true := by
    intro u hu e hk
    subst e
    obtain ⟨o1, o2⟩ := hv.one hu
    refine ⟨[u], hk, by rw [o2]; rfl, ?_, ?_⟩
    · rw [o2]
      intro j x y hx hy
      cases j with
      | zero => simp at hx hy; subst hx; subst hy; exact hv
      | succ j => simp at hx
    · rw [o2]; intro y hy; simp at hy; subst hy; exact o1
  cases v with
  | agg cs =>
    obtain ⟨h1, h2⟩ := onesK_eq cs _ h
    cases hv with
    | agg _ vs hn hh =>
      refine ⟨cs, h1, hn, hh, fun y hy => ?_⟩
      obtain ⟨j, hj⟩ := List.mem_iff_getElem?.1 hy
      have hj' : vs[j]? = some y := by simpa [Value.cells] using hj
      have hl : j < cs.length := by rw [← hn]; exact (Array.getElem?_eq_some_iff.1 hj').1
      exact ((hh j cs[j] y (List.getElem?_eq_getElem hl) hj').one (h2 _ (List.getElem_mem hl))).1
  | tup cs => exact h.elim
  | junk => exact h.elim
  | d x => exact single (.d x) trivial rfl h
  | ptr b j => exact single (.ptr b j) trivial rfl h
  | rptr b e i j => exact single (.rptr b e i j) trivial rfl h
  | elt cs => exact single (.elt cs) trivial rfl h
  | rsl xs t => exact single (.rsl xs t) trivial rfl h
  | bsl b n => exact single (.bsl b n) trivial rfl h
  | fn f c => exact single (.fn f c) trivial rfl h
  | ifc t v => exact single (.ifc t v) trivial rfl h
  | itr b => exact single (.itr b) trivial rfl h
  | rdat xs t => exact single (.rdat xs t) trivial rfl h
theorem pureK_eq {L : Lk} {g : Gh} {rl : List (Nat × Nat)} {w : World} {v : AV} {c : Value} (hv : VR L g rl w v c) (K : DV → Prop) (h : pureK v K) : ∃ d, K d ∧ DR g.mrk w d c := by
  cases hv with
  | d v c hd => exact ⟨v, h, hd⟩
  | rsl xs t v hd ht => exact ⟨.sl xs, h, hd⟩
  | _ => exact h.elim
theorem puresK_eq {L : Lk} {g : Gh} {rl : List (Nat × Nat)} {w : World} (vs : List AV) (f : Nat → Value) (hv : ∀ j x, vs[j]? = some x → VR L g rl w x (f j)) (K : List DV → Prop) (h : puresK vs K) :
    ∃ ds, K ds ∧ ds.length = vs.length ∧ ∀ j y, ds[j]? = some y → DR g.mrk w y (f j) := by
  induction vs generalizing f K with
  | nil => exact ⟨[], h, rfl, fun j y hy => by simp at hy⟩
  | cons v r ih =>
    obtain ⟨d, h1, h2⟩ := pureK_eq (hv 0 v rfl) _ h
    obtain ⟨ds, h3, h4, h5⟩ := ih (fun j => f (j + 1)) (fun j x hx => hv (j + 1) x (by simpa using hx)) _ h1
    refine ⟨d :: ds, h3, by simp [h4], fun j y hy => ?_⟩
    cases j with
    | zero => simp at hy; subst hy; exact h2
    | succ j => exact h5 j y (by simpa using hy)
end Go.Ab
