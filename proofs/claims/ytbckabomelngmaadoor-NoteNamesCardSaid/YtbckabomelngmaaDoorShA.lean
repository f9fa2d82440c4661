/- A shallow reading of the program's code: an evaluator that turns a function's body into a predicate over worlds. Definitions alone; the proofs stand in ShB. -/
import Derived.Calls
import Derived.Orders
import Derived.Laws.Entries
namespace Go.Sh

/-! ### types, as far as the evaluator wants to know them -/
inductive T1 where
  | bool | int (k : IntKind) | str | slice | ptr | map | val
inductive TE where
  | one (t : T1)
  | sl (elem esz : Nat)
  | arr (len elem esz : Nat)
  | strct (n : Nat) (leaves : List T1) (flds : List (Nat × Nat))   -- cells; the leaves, or none of them where it is kept shut; fields: offset, type
  | tupl (ts : List Nat)
  | none

def nth {α : Type} (d : α) : List α → Nat → α
  | [], _ => d
  | x :: _, 0 => x
  | _ :: r, n + 1 => nth d r n

/-- Is there a leaf that isn't known by its type? -/
def hasVal : List T1 → Bool
  | [] => false
  | .val :: _ => true
  | _ :: r => hasVal r

abbrev Env := List (Nat × Nat × Value)   -- slot, where its value came from, value
def gets : Env → Nat → Option Value
  | [], _ => .none
  | (s, _, v) :: r, t => cond (Nat.beq s t) (some v) (gets r t)
def orig : Env → Nat → Nat
  | [], t => t
  | (s, o, _) :: r, t => cond (Nat.beq s t) o (orig r t)
/-- A bool that has been decided: wherever it was handed on. -/
def refine (o : Nat) (b : Bool) : Env → Env
  | [] => []
  | (s, p, v) :: r => (s, p, cond (Nat.beq p o) (.bool b) v) :: refine o b r
def evo (e : Env) : Operand → Option Value
  | .tmp t => gets e t
  | .const v => some v
  | .global g => some (.pointer (some ⟨g, 0, .none⟩))
  | .func f => some (.func (.func f) #[] #[])
def evos (e : Env) : List Operand → (List Value → Prop) → Prop
  | [], K => K []
  | x :: r, K => match evo e x with
    | some v => evos e r fun vs => K (v :: vs)
    | .none => False

/-! ### what the words mean -/
/-- The frame holds what the evaluator thinks it does. -/
structure Ag (N : Nat) (e : Env) (a : Act) : Prop where
  size : a.tmps.size = N
  nodef : a.defers = []
  val : ∀ t v, gets e t = some v → a.tmps[t]? = some v
  same : ∀ x y, x ∈ e → y ∈ e → x.2.1 = y.2.1 → x.2.2 = y.2.2
  mark : ∀ x, x ∈ e → x.2.1 < N + e.length

/-- What an operation comes to: its value, and the world behind it; a call is done before it goes on. -/
def Does (P : Program) (s : Sem Next) (w : World) (K : Value → World → Prop) : Prop :=
  match s.run P w with
  | .ok (.value v) w' => K v w'
  | .ok .skip w' => K undef w'
  | .ok (.enter f args) w' => Calls P f args w' fun | .returned v, w'' => K v w'' | _, _ => False
  | _ => False
/-- From here on the function comes to its return. -/
def Fin (P : Program) (f : FuncId) (Q : Value → World → Prop) (a : Act) (todo : List Item) (w : World) : Prop :=
  ∀ (b : Frame) (cs : List Frame), b.fn = f → b.kind = .normal → ∃ v w' fr, Q v w' ∧ Steps P (lone (b.at a todo) cs w) (lone fr cs w') ∧ fr.fn = f ∧ fr.leaving P w' (.returned v)
abbrev PT := Array Value → World → (Value → World → Prop) → Prop
/-- A word that the kernel doesn't look into. -/
noncomputable def lock (c : PT) : PT := Classical.choose (⟨c, rfl⟩ : ∃ d, d = c)
theorem lock_eq (c : PT) : lock c = c := Classical.choose_spec (⟨c, rfl⟩ : ∃ d, d = c)
/-- A call of function f, done: the word for it. -/
noncomputable def doesC (P : Program) (f : FuncId) : PT := lock fun args w Q => Does P (callFunc f args) w Q

/-! ### opening values by their types -/
def opnI (k : IntKind) (v : Option Value) (K : Int → Prop) : Prop := match v with | some (.int k' x) => k' = k ∧ K x | _ => False
def opnB (v : Option Value) (K : Bool → Prop) : Prop := match v with | some (.bool x) => K x | _ => False
def opnS (v : Option Value) (K : ByteArray → Prop) : Prop := match v with | some (.string x) => K x | _ => False
def opnL (v : Option Value) (K : Option Addr → Nat → Nat → Prop) : Prop := match v with | some (.slice a n c) => K a n c | _ => False
def opnP (v : Option Value) (K : Option Addr → Prop) : Prop := match v with | some (.pointer a) => K a | _ => False
def opnM (v : Option Value) (K : Option Nat → Prop) : Prop := match v with | some (.map a) => K a | _ => False
def opnV (v : Option Value) (K : Value → Prop) : Prop := match v with | some v => K v | .none => False
def opnG (v : Option Value) (K : Array Value → Prop) : Prop := match v with | some (.agg cs) => K cs | _ => False
def opnT (v : Option Value) (K : Array Value → Prop) : Prop := match v with | some (.tuple cs) => K cs | _ => False
def opnN (v : Value) (A : Prop) (B : Value → Value → Prop) : Prop := match v with
  | .tuple cs => match cs.toList with
    | [.bool false] => A
    | [.bool true, k, x] => B k x
    | _ => False
  | _ => False
def opnA (v : Option Addr) (K : Addr → Prop) : Prop := match v with | some a => K a | .none => False
def opn1 (t : T1) (v : Option Value) (K : Value → Prop) : Prop :=
  match t with
  | .bool => opnB v fun x => K (.bool x)
  | .int k => opnI k v fun x => K (.int k x)
  | .str => opnS v fun x => K (.string x)
  | .slice => opnL v fun a n c => K (.slice a n c)
  | .ptr => opnP v fun a => K (.pointer a)
  | .map => opnM v fun a => K (.map a)
  | .val => opnV v K
/-- The cells of an aggregate, one by one. -/
def opnC (cs : Array Value) (i : Nat) : List T1 → (List Value → Prop) → Prop
  | [], K => K []
  | t :: r, K => opn1 t cs[i]? fun v => opnC cs (i + 1) r fun vs => K (v :: vs)
def opn (t : TE) (v : Option Value) (K : Value → Prop) : Prop :=
  match t with
  | .one t => opn1 t v K
  | .sl _ _ => opn1 .slice v K
  | .arr _ _ _ => opnG v fun cs => K (.agg cs)
  | .strct _ [] _ => opnG v fun cs => K (.agg cs)
  | .strct _ (l :: ls) _ => opnG v fun cs => cs.size = (l :: ls).length ∧ opnC cs 0 (l :: ls) fun vs => K (.agg vs.toArray)
  | _ => opnV v K
/-- A call's result, by its types. -/
def opnTs (tab : List TE) (cs : Array Value) (i : Nat) : List Nat → (List Value → Prop) → Prop
  | [], K => K []
  | t :: r, K => opn (nth .none tab t) cs[i]? fun v => opnTs tab cs (i + 1) r fun vs => K (v :: vs)
def opnR (tab : List TE) (t : TE) (v : Value) (K : Value → Prop) : Prop :=
  match t with
  | .tupl ts => opnT (some v) fun cs => cs.size = ts.length ∧ opnTs tab cs 0 ts fun vs => K (.tuple vs.toArray)
  | t => opn t (some v) K

/-! ### numbers -/
def guardN (a b : Nat) (p : Prop) : Prop := cond (Nat.blt a b) p False
/-- A count of a shift: not below 0. -/
def nn (b : Int) (p : Prop) : Prop := match b with | .ofNat _ => p | .negSucc _ => False
def kn : IntKind → Nat
  | .i8 => 0 | .i16 => 1 | .i32 => 2 | .i64 => 3 | .u8 => 4 | .u16 => 5 | .u32 => 6 | .u64 => 7
def shlI (k : IntKind) (x y : Int) : Int := k.wrap (x * 2 ^ (min y.toNat k.bits))
def shrI (k : IntKind) (x y : Int) : Int := x.fdiv (2 ^ (min y.toNat k.bits))
def bt (s : ByteArray) (i : Nat) : Int := ((s.data.toList.getD i 0).toNat : Int)
def slA (a : Option Addr) (l m sz : Nat) : Option Addr := if m = l then a else a.map (·.add (l * sz))
def slP (a : Addr) (l m sz : Nat) : Option Addr := some (if m = l then a else a.add (l * sz))

def binI (op : BinOp) (k : IntKind) (x y : Int) (K : Value → Prop) : Prop :=
  match op with
  | .add => K (.int k (k.wrap (x + y)))
  | .sub => K (.int k (k.wrap (x - y)))
  | .mul => K (.int k (k.wrap (x * y)))
  | .quo => y ≠ 0 ∧ K (.int k (k.wrap (x.tdiv y)))
  | .rem => y ≠ 0 ∧ K (.int k (x.tmod y))
  | .and => K (.int k (bits .and k x y))
  | .or => K (.int k (bits .or k x y))
  | .xor => K (.int k (bits .xor k x y))
  | .andNot => K (.int k (bits .andNot k x y))
  | .eql => K (.bool (x == y))
  | .neq => K (.bool (x != y))
  | .lss => K (.bool (decide (x < y)))
  | .leq => K (.bool (decide (x ≤ y)))
  | .gtr => K (.bool (decide (x > y)))
  | .geq => K (.bool (decide (x ≥ y)))
  | _ => False
def binS (op : BinOp) (x y : ByteArray) (K : Value → Prop) : Prop :=
  match op with
  | .add => x.size + y.size ≤ 9223372036854775807 ∧ K (.string (x ++ y))
  | .eql => K (.bool (x.toList == y.toList))
  | .neq => K (.bool (!(x.toList == y.toList)))
  | .lss => K (.bool (Op.bytesLess x.toList y.toList))
  | .leq => K (.bool (Op.bytesLess x.toList y.toList || x.toList == y.toList))
  | .gtr => K (.bool (!(Op.bytesLess x.toList y.toList || x.toList == y.toList)))
  | .geq => K (.bool (!(Op.bytesLess x.toList y.toList)))
  | _ => False
/-- Against nil. -/
def isNilPair (t : TE) (x y : Value) : Option Bool :=
  match t, y with
  | .sl _ _, .slice .none _ _ => (match x with | .slice a _ _ => some a.isNone | _ => .none)
  | .one .map, .map .none => (match x with | .map a => some a.isNone | _ => .none)
  | _, _ => .none

/-- What a piece of the model's own text does, where no nicer form is wanted. -/
def sem (P : Program) (s : Sem Value) (w : World) (K : Value → World → Prop) : Prop := match s.run P w with | .ok v w' => K v w' | _ => False
/-- Of what looks at no memory: in whatever world. -/
def semP (P : Program) (s : Sem Value) (K : Value → Prop) : Prop := match s.run P default with | .ok v _ => K v | _ => False
def semR (P : Program) (s : Sem Value) (w : World) (K : Value → Prop) : Prop := match s.run P w with | .ok v w' => w' = w ∧ K v | _ => False
/-- A call of a function value that is not known by sight. -/
def invk (P : Program) (f : Value) (args : Array Value) (w : World) (K : Value → World → Prop) : Prop :=
  match f with
  | .func (.func g) u v => doesC P g (u ++ args ++ v) w K
  | _ => False
def semU (P : Program) (s : Sem Unit) (w : World) (K : World → Prop) : Prop := match s.run P w with | .ok _ w' => K w' | _ => False

def alC (cs : Array Value) (t : Nat) (w : World) (K : Addr → World → Prop) : Prop := K ⟨w.heap.size, 0, .none⟩ (w.alloc (.cells cs t))
def alZ (P : Program) (t : Nat) (w : World) (K : Addr → World → Prop) : Prop := match (P.info? t).bind (·.zero) with | some z => K ⟨w.heap.size, 0, .none⟩ (w.alloc (.cells z.cells t)) | .none => False
def alM (w : World) (K : Nat → World → Prop) : Prop := K w.heap.size (w.alloc (.map #[] 0))
def drw (w : World) (K : World → Prop) : Prop := K w.drew
def stC (a : Addr) (v : Value) (w : World) (K : World → Prop) : Prop := v.oneCell' = true ∧ (w.cell? a).isSome = true ∧ w.frozen? a = false ∧ K (w.setCell a v)
def stL (a : Addr) (i : Nat) : List Value → World → (World → Prop) → Prop
  | [], w, K => K w
  | v :: r, w, K => stC (a.add i) v w fun w' => stL a (i + 1) r w' K
def ldL (a : Addr) (i : Nat) : List T1 → World → (List Value → Prop) → Prop
  | [], _, K => K []
  | t :: r, w, K => opn1 t (w.cell? (a.add i)) fun v => ldL a (i + 1) r w fun vs => K (v :: vs)
/-- n cells from a on. -/
def rowFrom (w : World) (a : Addr) (i : Nat) : Nat → Option (List Value)
  | 0 => some []
  | n + 1 => match w.cell? (a.add i), rowFrom w a (i + 1) n with
    | some v, some r => some (v :: r)
    | _, _ => .none
def opnRow (w : World) (a : Addr) (n : Nat) (K : Array Value → Prop) : Prop := match rowFrom w a 0 n with | some l => K l.toArray | .none => False
def stRow (a : Addr) (cs : Array Value) (n : Nat) (w : World) (K : World → Prop) : Prop := cs.size = n ∧ stL a 0 cs.toList w K

structure Cx where
  P : Program
  fn : FuncId
  N : Nat
  tab : List TE
  results : List ResultVar
  iter : Nat → TE × TE      -- an iterator's slot: its keys' and its elements' types
  dyn : Nat → Bool         -- a slot that holds a function value that is not known by sight
  live : Nat → Option (List Nat)      -- the cuts: a region's number, the slots that are read from there on

section
variable (cx : Cx)

def ldT (t : TE) (a : Addr) (w : World) (K : Value → Prop) : Prop :=
  match t with
  | .one t => opn1 t (w.cell? a) K
  | .sl _ _ => opn1 .slice (w.cell? a) K
  | .arr n _ s => opnRow w a (n * s) fun cs => K (.agg cs)
  | .strct n [] _ => opnRow w a n fun cs => K (.agg cs)
  | .strct _ (l :: ls) _ => ldL a 0 (l :: ls) w fun vs => K (.agg vs.toArray)
  | _ => False
def stT (t : TE) (a : Addr) (v : Value) (w : World) (K : World → Prop) : Prop :=
  match t, v with
  | .one _, v => stC a v w K
  | .sl _ _, v => stC a v w K
  | .strct n (_ :: _) _, .agg cs => cs.size = n ∧ stL a 0 cs.toList w K
  | .strct n [] _, .agg cs => stRow a cs n w K
  | .arr n _ s, .agg cs => stRow a cs (n * s) w K
  | _, _ => False

/-- Operations that look at no memory. -/
def evP (o : Op) (e : Env) (K : Value → Prop) : Prop :=
  match o with
  | .move x | .assign x => match evo e x with | some v => K v | .none => False
  | .pick c a b => match evo e c with
    | some (.bool t) => cond t (match evo e a with | some v => K v | .none => False) (match evo e b with | some v => K v | .none => False)
    | _ => False
  | .binOp op t x y _ => match evo e x, evo e y with
    | some (.int k a), some (.int k' b) => match op with
      | .shl => nn b <| K (.int k (shlI k a b))
      | .shr => nn b <| K (.int k (shrI k a b))
      | op => cond (Nat.beq (kn k) (kn k')) (binI op k a b K) False
    | some (.string a), some (.string b) => binS op a b K
    | some (.bool a), some (.bool b) => match nth .none cx.tab t, op with
      | .one .bool, .eql => K (.bool (a == b))
      | .one .bool, .neq => K (.bool (!(a == b)))
      | _, _ => False
    | some a, some b => match isNilPair (nth .none cx.tab t) a b, op with
      | some r, .eql => K (.bool r)
      | some r, .neq => K (.bool (!r))
      | _, _ => False
    | _, _ => False
  | .unOp op _ x => match evo e x, op with
    | some (.bool a), .not => K (.bool (!a))
    | some (.int k a), .neg => K (.int k (k.wrap (0 - a)))
    | some (.int k a), .xor => K (.int k (bits .xor k (if k.signed then -1 else k.max) a))
    | _, _ => False
  | .convert s d x => match nth .none cx.tab s, nth .none cx.tab d, evo e x with
    | .one (.int _), .one (.int k), some (.int _ a) => K (.int k (k.wrap a))
    | .one .str, .one .str, some (.string a) => K (.string a)
    | _, _, _ => False
  | .nilCheck x => match evo e x with
    | some (.pointer a) => opnA a fun a => K (.pointer (some a))
    | some (.func (.func f) u v) => K (.func (.func f) u v)
    | _ => False
  | .makeFunc fn u v => evos e u.toList fun us => evos e v.toList fun vs => K (.func fn us.toArray vs.toArray)
  | .fieldAddr t x f => match nth .none cx.tab t, evo e x with
    | .strct _ _ fl, some (.pointer a) => match nth (0, 0) fl f with | (off, _) => guardN f fl.length <| opnA a fun a => K (.pointer (some (a.add off)))
    | _, _ => False
  | .field t x f => match nth .none cx.tab t, evo e x with
    | .strct _ (_ :: _) fl, some (.agg cs) => match nth (0, 0) fl f with
      | (off, ft) => match nth .none cx.tab ft with
        | .strct n (_ :: _) _ => guardN f fl.length <| K (.agg ((cs.toList.drop off).take n).toArray)
        | .one _ => match cs.toList[off]? with | some v => guardN f fl.length <| K v | .none => False
        | .sl _ _ => match cs.toList[off]? with | some v => guardN f fl.length <| K v | .none => False
        | _ => False
    | .strct _ [] fl, some (.agg cs) => match nth (0, 0) fl f with
      | (off, ft) => match nth .none cx.tab ft with
        | .one t => guardN f fl.length <| opn1 t cs[off]? K
        | .sl _ _ => guardN f fl.length <| opn1 .slice cs[off]? K
        | .arr n _ s => guardN f fl.length <| K (.agg (cs.extract off (off + n * s)))
        | .strct n [] _ => guardN f fl.length <| K (.agg (cs.extract off (off + n)))
        | .strct n (l :: ls) _ => guardN f fl.length <| opn (.strct n (l :: ls) []) (some (.agg (cs.extract off (off + n)))) K
        | _ => False
    | _, _ => False
  | .indexAddr t x i => match nth .none cx.tab t, evo e x, evo e i with
    | .sl _ s, some (.slice a n _), some (.int _ j) => 0 ≤ j ∧ j < (n : Int) ∧ opnA a fun a => K (.pointer (some (a.add (j.toNat * s))))
    | .arr n _ s, some (.pointer a), some (.int _ j) => 0 ≤ j ∧ j < (n : Int) ∧ opnA a fun a => K (.pointer (some (a.add (j.toNat * s))))
    | _, _, _ => False
  | .index t x i => match nth .none cx.tab t, evo e x, evo e i with
    | .one .str, some (.string s), some (.int _ j) => 0 ≤ j ∧ j < (s.size : Int) ∧ K (.int .u8 (bt s j.toNat))
    | .arr n el s, some (.agg cs), some (.int _ j) => match nth .none cx.tab el with
      | .one t => 0 ≤ j ∧ j < (n : Int) ∧ opn1 t cs[j.toNat * s]? K
      | .sl _ _ => 0 ≤ j ∧ j < (n : Int) ∧ opn1 .slice cs[j.toNat * s]? K
      | .arr n' _ s' => 0 ≤ j ∧ j < (n : Int) ∧ K (.agg (cs.extract (j.toNat * s) (j.toNat * s + n' * s')))
      | _ => False
    | _, _, _ => False
  | .build t ps => evos e (ps.toList.map (·.2)) fun vs => semP cx.P (Instr.build t ((ps.toList.map (·.1)).zip vs).toArray) fun v => match nth .none cx.tab t with | .strct n (l :: ls) fl => cond (hasVal (l :: ls)) (opn (.strct n (l :: ls) fl) (some v) K) (K v) | te => opn te (some v) K
  | .sliceToArrayPointer t x => match nth .none cx.tab t, evo e x with
    | .arr n _ _, some (.slice a l _) => n ≤ l ∧ K (.pointer a)
    | _, _ => False
  | .extract x i => match evo e x with
    | some (.tuple vs) => match vs.toList[i]? with | some v => K v | .none => False
    | _ => False
  | .slice t x lo hi mx => match nth .none cx.tab t, evo e x with
    | .one .str, some (.string s) => match lo, hi, mx with
      | .none, some h, .none => match evo e h with | some (.int _ h) => 0 ≤ h ∧ h ≤ (s.size : Int) ∧ K (.string (s.extract 0 h.toNat)) | _ => False
      | some l, .none, .none => match evo e l with | some (.int _ l) => 0 ≤ l ∧ l ≤ (s.size : Int) ∧ K (.string (s.extract l.toNat s.size)) | _ => False
      | some l, some h, .none => match evo e l, evo e h with | some (.int _ l), some (.int _ h) => 0 ≤ h ∧ h ≤ (s.size : Int) ∧ 0 ≤ l ∧ l ≤ h ∧ K (.string (s.extract l.toNat h.toNat)) | _, _ => False
      | .none, .none, .none => K (.string (s.extract 0 s.size))
      | _, _, _ => False
    | .sl _ z, some (.slice a n c) => match lo, hi, mx with
      | .none, .none, .none => K (.slice (slA a 0 c z) (n - 0) (c - 0))
      | .none, some h, .none => match evo e h with | some (.int _ h) => 0 ≤ h ∧ h ≤ (c : Int) ∧ K (.slice (slA a 0 c z) (h.toNat - 0) (c - 0)) | _ => False
      | some l, .none, .none => match evo e l with | some (.int _ l) => 0 ≤ l ∧ l ≤ (n : Int) ∧ K (.slice (slA a l.toNat c z) (n - l.toNat) (c - l.toNat)) | _ => False
      | some l, some h, .none => match evo e l, evo e h with | some (.int _ l), some (.int _ h) => 0 ≤ h ∧ h ≤ (c : Int) ∧ 0 ≤ l ∧ l ≤ h ∧ K (.slice (slA a l.toNat c z) (h.toNat - l.toNat) (c - l.toNat)) | _, _ => False
      | .none, some h, some m => match evo e h, evo e m with | some (.int _ h), some (.int _ m) => 0 ≤ m ∧ m ≤ (c : Int) ∧ 0 ≤ h ∧ h ≤ m ∧ K (.slice (slA a 0 m.toNat z) (h.toNat - 0) (m.toNat - 0)) | _, _ => False
      | some l, some h, some m => match evo e l, evo e h, evo e m with | some (.int _ l), some (.int _ h), some (.int _ m) => 0 ≤ m ∧ m ≤ (c : Int) ∧ 0 ≤ h ∧ h ≤ m ∧ 0 ≤ l ∧ l ≤ h ∧ K (.slice (slA a l.toNat m.toNat z) (h.toNat - l.toNat) (m.toNat - l.toNat)) | _, _, _ => False
      | _, _, _ => False
    | .arr c _ z, some (.pointer a) => match lo, hi, mx with
      | .none, .none, .none => opnA a fun a => K (.slice (slP a 0 c z) (c - 0) (c - 0))
      | .none, some h, .none => match evo e h with | some (.int _ h) => 0 ≤ h ∧ h ≤ (c : Int) ∧ opnA a fun a => K (.slice (slP a 0 c z) (h.toNat - 0) (c - 0)) | _ => False
      | some l, .none, .none => match evo e l with | some (.int _ l) => 0 ≤ l ∧ l ≤ (c : Int) ∧ opnA a fun a => K (.slice (slP a l.toNat c z) (c - l.toNat) (c - l.toNat)) | _ => False
      | some l, some h, .none => match evo e l, evo e h with | some (.int _ l), some (.int _ h) => 0 ≤ h ∧ h ≤ (c : Int) ∧ 0 ≤ l ∧ l ≤ h ∧ opnA a fun a => K (.slice (slP a l.toNat c z) (h.toNat - l.toNat) (c - l.toNat)) | _, _ => False
      | _, _, _ => False
    | _, _ => False
  | .call { callee := .builtin b, args, argTypes } => match b, args.toList, argTypes.toList with
    | .len, [x], [t] => match nth .none cx.tab t, evo e x with
      | .sl _ _, some (.slice _ n _) => K (.int .i64 n)
      | .one .str, some (.string s) => K (.int .i64 s.size)
      | .arr n _ _, some _ => K (.int .i64 n)
      | _, _ => False
    | .cap, [x], [t] => match nth .none cx.tab t, evo e x with
      | .sl _ _, some (.slice _ _ n) => K (.int .i64 n)
      | _, _ => False
    | .min, [x, y], _ => match evo e x, evo e y with | some (.int k x), some (.int _ y) => K (.int k (if y < x then y else x)) | _, _ => False
    | .max, [x, y], _ => match evo e x, evo e y with | some (.int k x), some (.int _ y) => K (.int k (if y > x then y else x)) | _, _ => False
    | _, _, _ => False
  | _ => False

/-- Operations that only look at memory. -/
def evR (o : Op) (ty : Nat) (e : Env) (w : World) (K : Value → Prop) : Prop :=
  match o with
  | .load t a => match evo e a with
    | some (.pointer a) => opnA a fun a => ldT (nth .none cx.tab t) a w K
    | _ => False
  | .lookup t x i ok => match evo e x, evo e i with
    | some x, some i => semR cx.P (Instr.lookup t x i ok) w fun v => opnR cx.tab (nth .none cx.tab ty) v K
    | _, _ => False
  | .convert s d x => match evo e x with
    | some x => semR cx.P (convert s d x) w fun v => opnS (some v) fun v => K (.string v)
    | _ => False
  | .binOp op t x y _ => match evo e x, evo e y with
    | some a, some b => semR cx.P (do eqGuard op t x y a b; binOp op t a b) w fun v => opnB (some v) fun v => K (.bool v)
    | _, _ => False
  | .call { callee := .builtin .len, args, argTypes } => match args.toList with
    | [x] => match evo e x with
      | some x => semR cx.P (Builtin.len_ argTypes ty #[x]) w fun v => opnI .i64 (some v) fun v => K (.int .i64 v)
      | _ => False
    | _ => False
  | _ => False

/-- Operations that make memory, write it, or call. The value is opened by the operation's own type. -/
def evM (o : Op) (ty : Nat) (e : Env) (w : World) (K : Value → World → Prop) : Prop :=
  match o with
  | .alloc t => alZ cx.P t w fun p w' => K (.pointer (some p)) w'
  | .box t x => match evo e x with
    | some v => alC v.cells t w fun p w' => K (.pointer (some p)) w'
    | _ => False
  | .store t a x => match evo e a, evo e x with
    | some (.pointer a), some v => opnA a fun a => stT (nth .none cx.tab t) a v w fun w' => K undef w'
    | _, _ => False
  | .buildSlice t n ps => evos e (ps.toList.map (·.2)) fun vs => (match n, ps.toList.map (·.1), vs, nth .none cx.tab t with
    | 1, [0], [.agg cs], .sl el z => (match nth .none cx.tab el with
      | .strct _ (_ :: _) _ => sem cx.P (Instr.buildSlice t n ((ps.toList.map (·.1)).zip vs).toArray) w K
      | _ => match (cx.P.info? el).bind (·.zero) with
        | some _ => cond (Nat.ble z 16777216) (cs.size = z ∧ alC cs el w fun p w' => K (.slice (some p) 1 1) w') False
        | .none => False)
    | _, _, _, _ => sem cx.P (Instr.buildSlice t n ((ps.toList.map (·.1)).zip vs).toArray) w K)
  | .makeSlice t l c => match evo e l, evo e c with
    | some l, some c => sem cx.P (Instr.makeSlice t l c) w fun v w' => opnL (some v) fun a n c => K (.slice a n c) w'
    | _, _ => False
  | .makeMap _ .none => alM w fun r w' => K (.map (some r)) w'
  | .makeMap t (some r) => match evo e r with
    | some r => sem cx.P (Instr.makeMap t (some r)) w fun v w' => opnM (some v) fun v => K (.map v) w'
    | _ => False
  | .makeInterface t x => match evo e x with
    | some x => sem cx.P (Instr.makeInterface t x) w K
    | _ => False
  | .typeAssert x t u ok => match evo e x with
    | some x => sem cx.P (Instr.typeAssert x t u ok) w fun v w' => opnR cx.tab (nth .none cx.tab ty) v fun v => K v w'
    | _ => False
  | .mapUpdate t m k x | .insert t m k x => match evo e m, evo e k, evo e x with
    | some m, some k, some x => semU cx.P (Instr.mapUpdate t m k x) w fun w' => K undef w'
    | _, _, _ => False
  | .mapEntry t m k => match evo e m, evo e k with
    | some m, some k => sem cx.P (Instr.mapEntry t m k) w fun v w' => opnR cx.tab (nth .none cx.tab ty) v fun v => K v w'
    | _, _ => False
  | .entryStore t m s x => match evo e m, evo e s, evo e x with
    | some m, some s, some x => semU cx.P (Instr.entryStore t m s x) w fun w' => K undef w'
    | _, _, _ => False
  | .range t x => match evo e x with
    | some x => sem cx.P (Instr.range t x) w fun v w' => opnP (some v) fun a => opnA a fun a => K (.pointer (some a)) w'
    | _ => False
  | .next x s => match evo e x with
    | some v => match x with
      | .tmp t => sem cx.P (Instr.next v s ty) w fun v w' => opnN v (K (.tuple #[.bool false]) w') fun k x => opn (cx.iter t).1 (some k) fun k => opn (cx.iter t).2 (some x) fun x => K (.tuple #[.bool true, k, x]) w'
      | _ => False
    | _ => False
  | .entry x => match evo e x with
    | some v => match x with
      | .tmp t => sem cx.P (Instr.entry v) w fun v w' => opnT (some v) fun cs => cs.size = 2 ∧ opn (cx.iter t).1 cs[0]? fun k => opn (cx.iter t).2 cs[1]? fun x => K (.tuple #[k, x]) w'
      | _ => False
    | _ => False
  | .convert s d x => match evo e x with
    | some x => sem cx.P (convert s d x) w fun v w' => opn (nth .none cx.tab d) (some v) fun v => K v w'
    | _ => False
  | .call { callee := .builtin b, args, argTypes } => match b with
    | .append => evos e args.toList fun vs => sem cx.P (Builtin.append_ argTypes ty vs.toArray) w fun v w' => opnL (some v) fun a n c => K (.slice a n c) w'
    | .copy => evos e args.toList fun vs => sem cx.P (Builtin.copy_ argTypes ty vs.toArray) w fun v w' => opnI .i64 (some v) fun n => K (.int .i64 n) w'
    | .delete => evos e args.toList fun vs => sem cx.P (Builtin.delete_ argTypes ty vs.toArray) w K
    | .clear => evos e args.toList fun vs => sem cx.P (Builtin.clear_ argTypes ty vs.toArray) w K
    | _ => False
  | .call { callee := .value f, args, .. } => match (match f with | .tmp t => cx.dyn t | _ => false), evo e f with
    | true, some f => evos e args.toList fun vs => invk cx.P f vs.toArray w fun r w' => opnR cx.tab (nth .none cx.tab ty) r fun r => K r w'
    | false, some (.func (.func g) u v) => evos e args.toList fun vs => doesC cx.P g (u ++ vs.toArray ++ v) w fun r w' => opnR cx.tab (nth .none cx.tab ty) r fun r => K r w'
    | _, _ => False
  | _ => False

/-- 0: looks at no memory; 1: only looks at it; 2: any other. -/
def cls (o : Op) : Nat :=
  match o with
  | .move _ | .assign _ | .pick .. | .unOp .. | .nilCheck _ | .makeFunc .. | .fieldAddr .. | .field .. | .indexAddr .. | .index .. | .extract .. | .slice .. | .build .. | .sliceToArrayPointer .. => 0
  | .binOp op t _ _ _ => match op with
    | .eql | .neq => match nth .none cx.tab t with
      | .one .ptr | .one .val | .arr .. | .strct .. => 1
      | _ => 0
    | _ => 0
  | .convert s d _ => match nth .none cx.tab s, nth .none cx.tab d with
    | .one (.int _), .one (.int _) => 0
    | .one .str, .one .str => 0
    | .sl _ _, .one .str => 1
    | _, _ => 2
  | .load .. | .lookup .. => 1
  | .call { callee := .builtin b, argTypes, .. } => match b with
    | .len => match nth .none cx.tab (nth 0 argTypes.toList 0) with
      | .one .map => 1
      | _ => 0
    | .cap | .min | .max => 0
    | _ => 2
  | _ => 2

def evOp (o : Oper) (e : Env) (w : World) (K : Value → World → Prop) : Prop :=
  match cls cx o.op with
  | 0 => evP cx o.op e fun v => K v w
  | 1 => evR cx o.op o.type e w fun v => K v w
  | _ => evM cx o.op o.type e w K

/-- A result's place in the frame. A moved value keeps where it came from; any other has a mark of its own. -/
def putE (o : Oper) (e : Env) (v : Value) (K : Env → Prop) : Prop :=
  match o.dst with
  | .none => K e
  | some d => cond (Nat.blt d cx.N) (K ((d, (match o.op with | .move (.tmp t) | .assign (.tmp t) => orig e t | _ => cx.N + e.length), v) :: e)) False

/-- What was not wanted leaves no value. -/
def putU (o : Oper) (e : Env) (K : Env → Prop) : Prop :=
  match o.dst with
  | .none => K e
  | some d => cond (Nat.blt d cx.N) (K ((d, cx.N + e.length, undef) :: e)) False

/-- The operations of a region, in the order given. -/
def evOps (dsts : List (Option Nat)) : List Oper → Env → World → (Env → World → Prop) → Prop
  | [], e, w, K => K e w
  | o :: r, e, w, K =>
    match o.guard with
    | .none => evOp cx o e w fun v w' => putE cx o e v fun e' => evOps dsts r e' w' K
    | some (j, want) => match nth .none dsts j with
      | .none => False
      | some d => match gets e d with
        | some (.bool b) => cond b
            (match want with
              | true => evOp cx o (refine (orig e d) true e) w fun v w' => putE cx o (refine (orig e d) true e) v fun e' => evOps dsts r e' w' K
              | false => putU cx o (refine (orig e d) true e) fun e' => evOps dsts r e' w K)
            (match want with
              | true => putU cx o (refine (orig e d) false e) fun e' => evOps dsts r e' w K
              | false => evOp cx o (refine (orig e d) false e) w fun v w' => putE cx o (refine (orig e d) false e) v fun e' => evOps dsts r e' w' K)
        | some (.tuple _) => putU cx o e fun e' => evOps dsts r e' w K
        | _ => False

/-! ### a region that draws its order: the order in which it is read here -/
def binds (e : Edge) : Bool := match e.ground with | .textOnly _ => false | .gcOnly _ => false | _ => true
def maskOf (l : List Edge) (bs : List Nat) : Nat :=
  match l with
  | [] => 0
  | e :: r => Nat.lor (maskOf r bs) (cond (binds e) (Nat.lor (Nat.shiftLeft 1 e.on) (nth 0 bs e.on)) 0)
/-- For each operation: all that must come ahead of it, as a number's bits. -/
def befores : List Oper → List Nat → List Nat
  | [], bs => bs
  | o :: r, bs => befores r (bs ++ [maskOf o.after.toList bs])
def has (m i : Nat) : Bool := Nat.beq (Nat.land (Nat.shiftRight m i) 1) 1
def without (i : Nat) : List (Nat × Oper × Nat) → List (Nat × Oper × Nat)
  | [] => []
  | x :: r => cond (Nat.beq x.1 i) r (x :: without i r)
/-- The first operation of class at most c that is ready. -/
def pickReady (done c : Nat) : List (Nat × Oper × Nat) → Option Nat
  | [] => .none
  | x :: r => cond (cond (Nat.ble (cls cx x.2.1.op) c) (Nat.beq (Nat.land x.2.2 done) x.2.2) false) (some x.1) (pickReady done c r)
def orderOf : Nat → Nat → List (Nat × Oper × Nat) → List Nat
  | 0, _, _ => []
  | n + 1, done, l =>
    match pickReady cx done 0 l with
    | some i => i :: orderOf n (Nat.lor done (Nat.shiftLeft 1 i)) (without i l)
    | .none => match pickReady cx done 1 l with
      | some i => i :: orderOf n (Nat.lor done (Nat.shiftLeft 1 i)) (without i l)
      | .none => match pickReady cx done 2 l with
        | some i => i :: orderOf n (Nat.lor done (Nat.shiftLeft 1 i)) (without i l)
        | .none => []
def zip3 : Nat → List Oper → List Nat → List (Nat × Oper × Nat)
  | i, o :: r, b :: bs => (i, o, b) :: zip3 (i + 1) r bs
  | _, _, _ => []
/-- May x, read ahead of y, also come behind it? If x only looks at memory, its operands stay. -/
def pairOk (ops : Array Oper) (ms : List Nat) (x y : Nat) : Bool :=
  match ops.toList[x]?, ops.toList[y]? with
  | some ox, some oy =>
    cond (has (nth 0 ms y) x)
      (match cls cx ox.op with | 1 => (match oy.dst with | some d => !(ox.looksAt ops).contains d | .none => true) | _ => true)
      (cond (ox.apart ops oy)
        (match cls cx ox.op, cls cx oy.op with
          | 0, _ => true
          | 1, 0 => true
          | 1, 1 => true
          | 1, _ => match ox.dst with | some d => !(ox.looksAt ops).contains d | .none => true
          | _, _ => false) false)
  | _, _ => false
def pairsOk (ops : Array Oper) (ms : List Nat) : List Nat → Bool
  | [] => true
  | x :: r => cond (r.all (pairOk cx ops ms x)) (pairsOk ops ms r) false
def depOk (ops : Array Oper) (ms : List Nat) (j : Nat) : Bool :=
  match ops.toList[j]? with
  | some o => (List.range ops.size).all fun x => cond (has (nth 0 ms j) x) (o.after.toList.any fun e => cond (binds e) (cond (Nat.beq e.on x) true (has (nth 0 ms e.on) x)) false) true
  | .none => true
def distinct : List Nat → Bool
  | [] => true
  | x :: r => cond (r.any (Nat.beq x)) false (distinct r)
def masks (ops : Array Oper) : List Nat := befores ops.toList []
def ordered (ops : Array Oper) : List Nat := orderOf cx (ops.toList.length + 1) 0 (zip3 0 ops.toList (masks ops))
def frontOk (ops : Array Oper) : List Nat → List Nat → Bool
  | _, [] => true
  | done, i :: r => cond (match ops.toList[i]? with
    | some o => o.after.toList.all fun e => cond (binds e) (done.any (Nat.beq e.on)) true
    | .none => false) (frontOk ops (i :: done) r) false
def regOk (ops : Array Oper) (ord : List Nat) : Bool :=
  cond (Nat.beq ord.length ops.size) (cond (distinct ord) (cond (frontOk ops [] ord) (cond (pairsOk cx ops (masks ops) ord) (cond ((List.range ops.size).all (depOk ops (masks ops))) (Region.noSelect ops) false) false) false) false) false
/-- What was only looked at, and could have come behind this operation as well: it reads as it did. -/
def stab (ops : Array Oper) (m : Nat) (e : Env) (w : World) (p : Prop) : List (Nat × Value) → Prop
  | [] => p
  | (j, v) :: D => cond (has m j) (stab ops m e w p D) (match ops.toList[j]? with
    | some o => evR cx o.op o.type e w (fun v' => v' = v) ∧ stab ops m e w p D
    | .none => False)
def evStep (ops : Array Oper) (ms : List Nat) (i : Nat) (o : Oper) (D : List (Nat × Value)) (e : Env) (w : World) (K : List (Nat × Value) → Env → World → Prop) : Prop :=
  match cls cx o.op with
  | 0 => evP cx o.op e fun v => putE cx o e v fun e' => K D e' w
  | 1 => evR cx o.op o.type e w fun v => putE cx o e v fun e' => K ((i, v) :: D) e' w
  | _ => evM cx o.op o.type e w fun v w' => stab cx ops (nth 0 ms i) e w' (putE cx o e v fun e' => K D e' w') D
def evOrd (ops : Array Oper) (ms : List Nat) (dsts : List (Option Nat)) (K : Env → World → Prop) : List Nat → List (Nat × Value) → Env → World → Prop
  | [], _, e, w => K e w
  | i :: r, D, e, w => match ops.toList[i]? with
    | .none => False
    | some o => match o.guard with
      | .none => evStep cx ops ms i o D e w fun D' e' w' => evOrd ops ms dsts K r D' e' w'
      | some (j, want) => match nth .none dsts j with
        | .none => False
        | some d => match gets e d with
          | some (.bool b) => cond b
              (match want with
                | true => evStep cx ops ms i o D (refine (orig e d) true e) w fun D' e' w' => evOrd ops ms dsts K r D' e' w'
                | false => putU cx o (refine (orig e d) true e) fun e' => evOrd ops ms dsts K r D e' w)
              (match want with
                | true => putU cx o (refine (orig e d) false e) fun e' => evOrd ops ms dsts K r D e' w
                | false => evStep cx ops ms i o D (refine (orig e d) false e) w fun D' e' w' => evOrd ops ms dsts K r D' e' w')
          | some (.tuple _) => putU cx o e fun e' => evOrd ops ms dsts K r D e' w
          | _ => False

/-- A region whose orders differ: each of them, but that what looks at no memory goes first. -/
def andL : List Prop → Prop
  | [] => True
  | [p] => p
  | p :: r => p ∧ andL r
def firstPure (ops : Array Oper) (listed : Array Bool) : List Nat → Option (Nat × Oper)
  | [] => .none
  | i :: r => match ops[i]? with
    | some o => cond (cond (Nat.beq (cls cx o.op) 0) (Region.free .any ops listed i) false) (some (i, o)) (firstPure ops listed r)
    | .none => firstPure ops listed r
def evAny (ops : Array Oper) (dsts : List (Option Nat)) (K : Env → World → Prop) : Nat → Array Bool → Env → World → Prop
  | 0, listed, e, w => match Region.ready .any ops listed with | [] => K e w | _ => False
  | n + 1, listed, e, w => match Region.ready .any ops listed with
    | [] => K e w
    | rs => match firstPure cx ops listed rs with
      | some (i, o) => evOps cx dsts [o] e w fun e' w' => evAny ops dsts K n (listed.setIfInBounds i true) e' w'
      | .none => andL (rs.map fun i => match ops[i]? with
        | some o => evOps cx dsts [o] e w fun e' w' => evAny ops dsts K n (listed.setIfInBounds i true) e' w'
        | .none => False)

/-- A region whose orders part only at what makes, writes or calls: what looks at no memory goes first, then what only looks at it, then each of the others in turn. -/
def evOne (ops : Array Oper) (ms : List Nat) (dsts : List (Option Nat)) (R : List (Nat × Value) → Env → World → Prop) (i : Nat) (D : List (Nat × Value)) (e : Env) (w : World) : Prop :=
  match ops.toList[i]? with
  | .none => False
  | some o => match o.guard with
    | .none => evStep cx ops ms i o D e w R
    | some (j, want) => match nth .none dsts j with
      | .none => False
      | some d => match gets e d with
        | some (.bool b) => cond b
            (match want with
              | true => evStep cx ops ms i o D (refine (orig e d) true e) w R
              | false => putU cx o (refine (orig e d) true e) fun e' => R D e' w)
            (match want with
              | true => putU cx o (refine (orig e d) false e) fun e' => R D e' w
              | false => evStep cx ops ms i o D (refine (orig e d) false e) w R)
        | some (.tuple _) => putU cx o e fun e' => R D e' w
        | _ => False
def firstLight (ops : Array Oper) (c : Nat) : List Nat → Option Nat
  | [] => .none
  | i :: r => match ops.toList[i]? with
    | some o => cond (Nat.ble (cls cx o.op) c) (some i) (firstLight ops c r)
    | .none => firstLight ops c r
def evTree (ops : Array Oper) (ms : List Nat) (dsts : List (Option Nat)) (K : Env → World → Prop) : Nat → Array Bool → List (Nat × Value) → Env → World → Prop
  | 0, listed, _, e, w => match Region.ready .any ops listed with | [] => K e w | _ => False
  | n + 1, listed, D, e, w => match Region.ready .any ops listed with
    | [] => K e w
    | i :: r => match firstLight cx ops 0 (i :: r) with
      | some j => evOne cx ops ms dsts (fun D e w => evTree ops ms dsts K n (listed.setIfInBounds j true) D e w) j D e w
      | .none => match firstLight cx ops 1 (i :: r) with
        | some j => evOne cx ops ms dsts (fun D e w => evTree ops ms dsts K n (listed.setIfInBounds j true) D e w) j D e w
        | .none => andL ((i :: r).map fun j => evOne cx ops ms dsts (fun D e w => evTree ops ms dsts K n (listed.setIfInBounds j true) D e w) j D e w)
def lightOk (ops : Array Oper) (ms : List Nat) (p : Nat) : Bool :=
  match ops.toList[p]? with
  | .none => false
  | some o => cond (o.after.toList.all fun e => cond (binds e) (Nat.blt e.on p) true)
      (cond (Nat.ble (cls cx o.op) 1) ((List.range ops.size).all fun q => cond (Nat.beq p q) true (cond (has (nth 0 ms p) q) true (pairOk cx ops ms p q))) true) false
def treeOk (ops : Array Oper) : Bool :=
  cond ((List.range ops.size).all (lightOk cx ops (masks ops))) (cond ((List.range ops.size).all (depOk ops (masks ops))) (Region.noSelect ops) false) false

def evRegion (ops : Array Oper) (draw : Bool) (e : Env) (w : World) (K : Env → World → Prop) : Prop :=
  match draw with
  | false => evOps cx (ops.toList.map (·.dst)) ops.toList e w K
  | true => cond (regOk cx ops (ordered cx ops))
      (drw w fun w' => evOrd cx ops (masks ops) (ops.toList.map (·.dst)) K (ordered cx ops) [] e w')
      (cond (treeOk cx ops) (drw w fun w' => evTree cx ops (masks ops) (ops.toList.map (·.dst)) K ops.size (Array.replicate ops.size false) [] e w')
        (cond (Region.noSelect ops) (drw w fun w' => evAny cx ops (ops.toList.map (·.dst)) K ops.size (Array.replicate ops.size false) e w') False))

/-- The slots of a cut, each with its value. -/
def restrict (e : Env) : List Nat → Option Env
  | [] => some []
  | s :: r => match gets e s, restrict e r with
    | some v, some e' => some ((s, s, v) :: e')
    | _, _ => .none
def evResults (e : Env) (w : World) : List ResultVar → (List Value → Prop) → Prop
  | [], K => K []
  | .tmp t :: r, K => match gets e t with
    | some v => evResults e w r fun vs => K (v :: vs)
    | .none => False
  | .cell a t :: r, K => match gets e a with
    | some (.pointer p) => opnA p fun p => ldT (nth .none cx.tab t) p w fun v => evResults e w r fun vs => K (v :: vs)
    | _ => False
def retV : List Value → Value
  | [v] => v
  | vs => .tuple vs.toArray

/-- From a place in the code on: to a cut (X), or to the return (Q). -/
def run (Q : Value → World → Prop) (X : Env → List Item → World → Prop) : Nat → Bool → List Item → Env → World → Prop
  | 0, _, _, _, _ => False
  | n + 1, first, todo, e, w =>
    match todo with
    | [] => evResults cx e w cx.results fun vs => Q (retV vs) w
    | .inBlock _ :: k => run Q X n first k e w
    | .inScope _ :: k => run Q X n first k e w
    | .inLoop c :: k => run Q X n first (.code c :: .inLoop c :: k) e w
    | .code c :: k => match c with
      | .skip => run Q X n first k e w
      | .label _ => run Q X n first k e w
      | .seq x y => run Q X n first (.code x :: .code y :: k) e w
      | .block id c => run Q X n first (.code c :: .inBlock id :: k) e w
      | .loop c => run Q X n first (.code c :: .inLoop c :: k) e w
      | .scope c => run Q X n first (.code c :: .inScope c :: k) e w
      | .goto l => match gotoIn l k with
        | some k' => run Q X n first k' e w
        | .none => False
      | .cond c x y => match evo e c with
        | some (.bool t) => cond t (run Q X n first (.code x :: k) e w) (run Q X n first (.code y :: k) e w)
        | _ => False
      | .exit id => match exitTo id k with
        | some k' => run Q X n first k' e w
        | .none => False
      | .ret => evResults cx e w cx.results fun vs => Q (retV vs) w
      | .region id ops draw => match first, cx.live id with
        | false, some S => match restrict e S with
          | some e' => X e' (.code (.region id ops draw) :: k) w
          | .none => False
        | _, _ => evRegion cx ops draw e w fun e' w' => run Q X n false k e' w'
      | _ => False
    | _ => False

def fuel : Nat := 4000
/-- From a cut on. -/
def Nd (Q : Value → World → Prop) (e : Env) (todo : List Item) (w : World) : Prop := ∀ a, Ag cx.N e a → Fin cx.P cx.fn Q a todo w
def params : Nat → List Value → Env
  | _, [] => []
  | i, v :: r => (i, i, v) :: params (i + 1) r
def fnPT (body : Code) (args : Array Value) (w : World) (Q : Value → World → Prop) : Prop :=
  cond (Nat.ble args.toList.length cx.N) (run cx Q (Nd cx Q) fuel false [.code body] (params 0 args.toList) w) False
end
/-! ### places in a body -/
def _root_.Go.Code.l : Code → Code
  | .seq a _ => a | .block _ a => a | .loop a => a | .scope a => a | .cond _ a _ => a | c => c
def _root_.Go.Code.r : Code → Code
  | .seq _ b => b | .cond _ _ b => b | c => c
end Go.Sh
