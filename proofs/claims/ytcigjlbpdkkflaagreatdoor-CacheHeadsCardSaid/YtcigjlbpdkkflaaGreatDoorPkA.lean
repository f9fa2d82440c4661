/- ShA, ShB1, ShB2, ShB3, ShB4, ShB5, ShB6, ShB7, ShB8, ShB9, ShC1, ShC2, ShC3, ShC4, ShC5, ShC6, ShD1, ShL1, ShL2, ShL3, ShL4 -/
import Derived.Calls
import Derived.Orders
import Derived.Laws.Entries
import Derived.WalkKit
import Derived.Scope
import Derived.Deep.Upon
import Derived.Deep.OwnRows
import Derived.Deep.Slices
import Derived.Laws.IdiomStrings
namespace Go.Sh

inductive T1 where
  | bool | int (k : IntKind) | str | slice | ptr | map | val
inductive TE where
  | one (t : T1)
  | sl (elem esz : Nat)
  | arr (len elem esz : Nat)
  | strct (n : Nat) (leaves : List T1) (flds : List (Nat × Nat))   -- cells; the leaves, or none of them where it is kept shut; fields: offset, type
  | tupl (ts : List Nat)
  | none

def nth {α : Type} (d : α) : List α → Nat → α
  | [], _ => d
  | x :: _, 0 => x
  | _ :: r, n + 1 => nth d r n

def hasVal : List T1 → Bool
  | [] => false
  | .val :: _ => true
  | _ :: r => hasVal r

abbrev Env := List (Nat × Nat × Value)   -- slot, where its value came from, value
def gets : Env → Nat → Option Value
  | [], _ => .none
  | (s, _, v) :: r, t => cond (Nat.beq s t) (some v) (gets r t)
def orig : Env → Nat → Nat
  | [], t => t
  | (s, o, _) :: r, t => cond (Nat.beq s t) o (orig r t)
def refine (o : Nat) (b : Bool) : Env → Env
  | [] => []
  | (s, p, v) :: r => (s, p, cond (Nat.beq p o) (.bool b) v) :: refine o b r
def evo (e : Env) : Operand → Option Value
  | .tmp t => gets e t
  | .const v => some v
  | .global g => some (.pointer (some ⟨g, 0, .none⟩))
  | .func f => some (.func (.func f) #[] #[])
def evos (e : Env) : List Operand → (List Value → Prop) → Prop
  | [], K => K []
  | x :: r, K => match evo e x with
    | some v => evos e r fun vs => K (v :: vs)
    | .none => False

structure Ag (N : Nat) (e : Env) (a : Act) : Prop where
  size : a.tmps.size = N
  nodef : a.defers = []
  val : ∀ t v, gets e t = some v → a.tmps[t]? = some v
  same : ∀ x y, x ∈ e → y ∈ e → x.2.1 = y.2.1 → x.2.2 = y.2.2
  mark : ∀ x, x ∈ e → x.2.1 < N + e.length

def Does (P : Program) (s : Sem Next) (w : World) (K : Value → World → Prop) : Prop :=
  match s.run P w with
  | .ok (.value v) w' => K v w'
  | .ok .skip w' => K undef w'
  | .ok (.enter f args) w' => Calls P f args w' fun | .returned v, w'' => K v w'' | _, _ => False
  | _ => False
def Fin (P : Program) (f : FuncId) (Q : Value → World → Prop) (a : Act) (todo : List Item) (w : World) : Prop :=
  ∀ (b : Frame) (cs : List Frame), b.fn = f → b.kind = .normal → ∃ v w' fr, Q v w' ∧ Steps P (lone (b.at a todo) cs w) (lone fr cs w') ∧ fr.fn = f ∧ fr.leaving P w' (.returned v)
abbrev PT := Array Value → World → (Value → World → Prop) → Prop
noncomputable def lock (c : PT) : PT := Classical.choose (⟨c, rfl⟩ : ∃ d, d = c)
theorem lock_eq (c : PT) : lock c = c := Classical.choose_spec (⟨c, rfl⟩ : ∃ d, d = c)
noncomputable def doesC (P : Program) (f : FuncId) : PT := lock fun args w Q => Does P (callFunc f args) w Q

def opnI (k : IntKind) (v : Option Value) (K : Int → Prop) : Prop := match v with | some (.int k' x) => k' = k ∧ K x | _ => False
def opnB (v : Option Value) (K : Bool → Prop) : Prop := match v with | some (.bool x) => K x | _ => False
def opnS (v : Option Value) (K : ByteArray → Prop) : Prop := match v with | some (.string x) => K x | _ => False
def opnL (v : Option Value) (K : Option Addr → Nat → Nat → Prop) : Prop := match v with | some (.slice a n c) => K a n c | _ => False
def opnP (v : Option Value) (K : Option Addr → Prop) : Prop := match v with | some (.pointer a) => K a | _ => False
def opnM (v : Option Value) (K : Option Nat → Prop) : Prop := match v with | some (.map a) => K a | _ => False
def opnV (v : Option Value) (K : Value → Prop) : Prop := match v with | some v => K v | .none => False
def opnG (v : Option Value) (K : Array Value → Prop) : Prop := match v with | some (.agg cs) => K cs | _ => False
def opnT (v : Option Value) (K : Array Value → Prop) : Prop := match v with | some (.tuple cs) => K cs | _ => False
def opnN (v : Value) (A : Prop) (B : Value → Value → Prop) : Prop := match v with
  | .tuple cs => match cs.toList with
    | [.bool false] => A
    | [.bool true, k, x] => B k x
    | _ => False
  | _ => False
def opnA (v : Option Addr) (K : Addr → Prop) : Prop := match v with | some a => K a | .none => False
def opn1 (t : T1) (v : Option Value) (K : Value → Prop) : Prop :=
  match t with
  | .bool => opnB v fun x => K (.bool x)
  | .int k => opnI k v fun x => K (.int k x)
  | .str => opnS v fun x => K (.string x)
  | .slice => opnL v fun a n c => K (.slice a n c)
  | .ptr => opnP v fun a => K (.pointer a)
  | .map => opnM v fun a => K (.map a)
  | .val => opnV v K
def opnC (cs : Array Value) (i : Nat) : List T1 → (List Value → Prop) → Prop
  | [], K => K []
  | t :: r, K => opn1 t cs[i]? fun v => opnC cs (i + 1) r fun vs => K (v :: vs)
def opn (t : TE) (v : Option Value) (K : Value → Prop) : Prop :=
  match t with
  | .one t => opn1 t v K
  | .sl _ _ => opn1 .slice v K
  | .arr _ _ _ => opnG v fun cs => K (.agg cs)
  | .strct _ [] _ => opnG v fun cs => K (.agg cs)
  | .strct _ (l :: ls) _ => opnG v fun cs => cs.size = (l :: ls).length ∧ opnC cs 0 (l :: ls) fun vs => K (.agg vs.toArray)
  | _ => opnV v K
def opnTs (tab : List TE) (cs : Array Value) (i : Nat) : List Nat → (List Value → Prop) → Prop
  | [], K => K []
  | t :: r, K => opn (nth .none tab t) cs[i]? fun v => opnTs tab cs (i + 1) r fun vs => K (v :: vs)
def opnR (tab : List TE) (t : TE) (v : Value) (K : Value → Prop) : Prop :=
  match t with
  | .tupl ts => opnT (some v) fun cs => cs.size = ts.length ∧ opnTs tab cs 0 ts fun vs => K (.tuple vs.toArray)
  | t => opn t (some v) K

def guardN (a b : Nat) (p : Prop) : Prop := cond (Nat.blt a b) p False
def nn (b : Int) (p : Prop) : Prop := match b with | .ofNat _ => p | .negSucc _ => False
def kn : IntKind → Nat
  | .i8 => 0 | .i16 => 1 | .i32 => 2 | .i64 => 3 | .u8 => 4 | .u16 => 5 | .u32 => 6 | .u64 => 7
def shlI (k : IntKind) (x y : Int) : Int := k.wrap (x * 2 ^ (min y.toNat k.bits))
def shrI (k : IntKind) (x y : Int) : Int := x.fdiv (2 ^ (min y.toNat k.bits))
def bt (s : ByteArray) (i : Nat) : Int := ((s.data.toList.getD i 0).toNat : Int)
def slA (a : Option Addr) (l m sz : Nat) : Option Addr := if m = l then a else a.map (·.add (l * sz))
def slP (a : Addr) (l m sz : Nat) : Option Addr := some (if m = l then a else a.add (l * sz))

def binI (op : BinOp) (k : IntKind) (x y : Int) (K : Value → Prop) : Prop :=
  match op with
  | .add => K (.int k (k.wrap (x + y)))
  | .sub => K (.int k (k.wrap (x - y)))
  | .mul => K (.int k (k.wrap (x * y)))
  | .quo => y ≠ 0 ∧ K (.int k (k.wrap (x.tdiv y)))
  | .rem => y ≠ 0 ∧ K (.int k (x.tmod y))
  | .and => K (.int k (bits .and k x y))
  | .or => K (.int k (bits .or k x y))
  | .xor => K (.int k (bits .xor k x y))
  | .andNot => K (.int k (bits .andNot k x y))
  | .eql => K (.bool (x == y))
  | .neq => K (.bool (x != y))
  | .lss => K (.bool (decide (x < y)))
  | .leq => K (.bool (decide (x ≤ y)))
  | .gtr => K (.bool (decide (x > y)))
  | .geq => K (.bool (decide (x ≥ y)))
  | _ => False
def binS (op : BinOp) (x y : ByteArray) (K : Value → Prop) : Prop :=
  match op with
  | .add => x.size + y.size ≤ 9223372036854775807 ∧ K (.string (x ++ y))
  | .eql => K (.bool (x.toList == y.toList))
  | .neq => K (.bool (!(x.toList == y.toList)))
  | .lss => K (.bool (Op.bytesLess x.toList y.toList))
  | .leq => K (.bool (Op.bytesLess x.toList y.toList || x.toList == y.toList))
  | .gtr => K (.bool (!(Op.bytesLess x.toList y.toList || x.toList == y.toList)))
  | .geq => K (.bool (!(Op.bytesLess x.toList y.toList)))
  | _ => False
def isNilPair (t : TE) (x y : Value) : Option Bool :=
  match t, y with
  | .sl _ _, .slice .none _ _ => (match x with | .slice a _ _ => some a.isNone | _ => .none)
  | .one .map, .map .none => (match x with | .map a => some a.isNone | _ => .none)
  | _, _ => .none

def sem (P : Program) (s : Sem Value) (w : World) (K : Value → World → Prop) : Prop := match s.run P w with | .ok v w' => K v w' | _ => False
def semP (P : Program) (s : Sem Value) (K : Value → Prop) : Prop := match s.run P default with | .ok v _ => K v | _ => False
def semR (P : Program) (s : Sem Value) (w : World) (K : Value → Prop) : Prop := match s.run P w with | .ok v w' => w' = w ∧ K v | _ => False
def invk (P : Program) (f : Value) (args : Array Value) (w : World) (K : Value → World → Prop) : Prop :=
  match f with
  | .func (.func g) u v => doesC P g (u ++ args ++ v) w K
  | _ => False
def semU (P : Program) (s : Sem Unit) (w : World) (K : World → Prop) : Prop := match s.run P w with | .ok _ w' => K w' | _ => False

def alC (cs : Array Value) (t : Nat) (w : World) (K : Addr → World → Prop) : Prop := K ⟨w.heap.size, 0, .none⟩ (w.alloc (.cells cs t))
def alZ (P : Program) (t : Nat) (w : World) (K : Addr → World → Prop) : Prop := match (P.info? t).bind (·.zero) with | some z => K ⟨w.heap.size, 0, .none⟩ (w.alloc (.cells z.cells t)) | .none => False
def alM (w : World) (K : Nat → World → Prop) : Prop := K w.heap.size (w.alloc (.map #[] 0))
def drw (w : World) (K : World → Prop) : Prop := K w.drew
def stC (a : Addr) (v : Value) (w : World) (K : World → Prop) : Prop := v.oneCell' = true ∧ (w.cell? a).isSome = true ∧ w.frozen? a = false ∧ K (w.setCell a v)
def stL (a : Addr) (i : Nat) : List Value → World → (World → Prop) → Prop
  | [], w, K => K w
  | v :: r, w, K => stC (a.add i) v w fun w' => stL a (i + 1) r w' K
def ldL (a : Addr) (i : Nat) : List T1 → World → (List Value → Prop) → Prop
  | [], _, K => K []
  | t :: r, w, K => opn1 t (w.cell? (a.add i)) fun v => ldL a (i + 1) r w fun vs => K (v :: vs)
def rowFrom (w : World) (a : Addr) (i : Nat) : Nat → Option (List Value)
  | 0 => some []
  | n + 1 => match w.cell? (a.add i), rowFrom w a (i + 1) n with
    | some v, some r => some (v :: r)
    | _, _ => .none
def opnRow (w : World) (a : Addr) (n : Nat) (K : Array Value → Prop) : Prop := match rowFrom w a 0 n with | some l => K l.toArray | .none => False
def stRow (a : Addr) (cs : Array Value) (n : Nat) (w : World) (K : World → Prop) : Prop := cs.size = n ∧ stL a 0 cs.toList w K

structure Cx where
  P : Program
  fn : FuncId
  N : Nat
  tab : List TE
  results : List ResultVar
  iter : Nat → TE × TE      -- an iterator's slot: its keys' and its elements' types
  dyn : Nat → Bool         -- a slot that holds a function value that is not known by sight
  live : Nat → Option (List Nat)      -- the cuts: a region's number, the slots that are read from there on

section
variable (cx : Cx)

def ldT (t : TE) (a : Addr) (w : World) (K : Value → Prop) : Prop :=
  match t with
  | .one t => opn1 t (w.cell? a) K
  | .sl _ _ => opn1 .slice (w.cell? a) K
  | .arr n _ s => opnRow w a (n * s) fun cs => K (.agg cs)
  | .strct n [] _ => opnRow w a n fun cs => K (.agg cs)
  | .strct _ (l :: ls) _ => ldL a 0 (l :: ls) w fun vs => K (.agg vs.toArray)
  | _ => False
def stT (t : TE) (a : Addr) (v : Value) (w : World) (K : World → Prop) : Prop :=
  match t, v with
  | .one _, v => stC a v w K
  | .sl _ _, v => stC a v w K
  | .strct n (_ :: _) _, .agg cs => cs.size = n ∧ stL a 0 cs.toList w K
  | .strct n [] _, .agg cs => stRow a cs n w K
  | .arr n _ s, .agg cs => stRow a cs (n * s) w K
  | _, _ => False

def evP (o : Op) (e : Env) (K : Value → Prop) : Prop :=
  match o with
  | .move x | .assign x => match evo e x with | some v => K v | .none => False
  | .pick c a b => match evo e c with
    | some (.bool t) => cond t (match evo e a with | some v => K v | .none => False) (match evo e b with | some v => K v | .none => False)
    | _ => False
  | .binOp op t x y _ => match evo e x, evo e y with
    | some (.int k a), some (.int k' b) => match op with
      | .shl => nn b <| K (.int k (shlI k a b))
      | .shr => nn b <| K (.int k (shrI k a b))
      | op => cond (Nat.beq (kn k) (kn k')) (binI op k a b K) False
    | some (.string a), some (.string b) => binS op a b K
    | some (.bool a), some (.bool b) => match nth .none cx.tab t, op with
      | .one .bool, .eql => K (.bool (a == b))
      | .one .bool, .neq => K (.bool (!(a == b)))
      | _, _ => False
    | some a, some b => match isNilPair (nth .none cx.tab t) a b, op with
      | some r, .eql => K (.bool r)
      | some r, .neq => K (.bool (!r))
      | _, _ => False
    | _, _ => False
  | .unOp op _ x => match evo e x, op with
    | some (.bool a), .not => K (.bool (!a))
    | some (.int k a), .neg => K (.int k (k.wrap (0 - a)))
    | some (.int k a), .xor => K (.int k (bits .xor k (if k.signed then -1 else k.max) a))
    | _, _ => False
  | .convert s d x => match nth .none cx.tab s, nth .none cx.tab d, evo e x with
    | .one (.int _), .one (.int k), some (.int _ a) => K (.int k (k.wrap a))
    | .one .str, .one .str, some (.string a) => K (.string a)
    | _, _, _ => False
  | .nilCheck x => match evo e x with
    | some (.pointer a) => opnA a fun a => K (.pointer (some a))
    | some (.func (.func f) u v) => K (.func (.func f) u v)
    | _ => False
  | .makeFunc fn u v => evos e u.toList fun us => evos e v.toList fun vs => K (.func fn us.toArray vs.toArray)
  | .fieldAddr t x f => match nth .none cx.tab t, evo e x with
    | .strct _ _ fl, some (.pointer a) => match nth (0, 0) fl f with | (off, _) => guardN f fl.length <| opnA a fun a => K (.pointer (some (a.add off)))
    | _, _ => False
  | .field t x f => match nth .none cx.tab t, evo e x with
    | .strct _ (_ :: _) fl, some (.agg cs) => match nth (0, 0) fl f with
      | (off, ft) => match nth .none cx.tab ft with
        | .strct n (_ :: _) _ => guardN f fl.length <| K (.agg ((cs.toList.drop off).take n).toArray)
        | .one _ => match cs.toList[off]? with | some v => guardN f fl.length <| K v | .none => False
        | .sl _ _ => match cs.toList[off]? with | some v => guardN f fl.length <| K v | .none => False
        | _ => False
    | .strct _ [] fl, some (.agg cs) => match nth (0, 0) fl f with
      | (off, ft) => match nth .none cx.tab ft with
        | .one t => guardN f fl.length <| opn1 t cs[off]? K
        | .sl _ _ => guardN f fl.length <| opn1 .slice cs[off]? K
        | .arr n _ s => guardN f fl.length <| K (.agg (cs.extract off (off + n * s)))
        | .strct n [] _ => guardN f fl.length <| K (.agg (cs.extract off (off + n)))
        | .strct n (l :: ls) _ => guardN f fl.length <| opn (.strct n (l :: ls) []) (some (.agg (cs.extract off (off + n)))) K
        | _ => False
    | _, _ => False
  | .indexAddr t x i => match nth .none cx.tab t, evo e x, evo e i with
    | .sl _ s, some (.slice a n _), some (.int _ j) => 0 ≤ j ∧ j < (n : Int) ∧ opnA a fun a => K (.pointer (some (a.add (j.toNat * s))))
    | .arr n _ s, some (.pointer a), some (.int _ j) => 0 ≤ j ∧ j < (n : Int) ∧ opnA a fun a => K (.pointer (some (a.add (j.toNat * s))))
    | _, _, _ => False
  | .index t x i => match nth .none cx.tab t, evo e x, evo e i with
    | .one .str, some (.string s), some (.int _ j) => 0 ≤ j ∧ j < (s.size : Int) ∧ K (.int .u8 (bt s j.toNat))
    | .arr n el s, some (.agg cs), some (.int _ j) => match nth .none cx.tab el with
      | .one t => 0 ≤ j ∧ j < (n : Int) ∧ opn1 t cs[j.toNat * s]? K
      | .sl _ _ => 0 ≤ j ∧ j < (n : Int) ∧ opn1 .slice cs[j.toNat * s]? K
      | .arr n' _ s' => 0 ≤ j ∧ j < (n : Int) ∧ K (.agg (cs.extract (j.toNat * s) (j.toNat * s + n' * s')))
      | _ => False
    | _, _, _ => False
  | .build t ps => evos e (ps.toList.map (·.2)) fun vs => semP cx.P (Instr.build t ((ps.toList.map (·.1)).zip vs).toArray) fun v => match nth .none cx.tab t with | .strct n (l :: ls) fl => cond (hasVal (l :: ls)) (opn (.strct n (l :: ls) fl) (some v) K) (K v) | te => opn te (some v) K
  | .sliceToArrayPointer t x => match nth .none cx.tab t, evo e x with
    | .arr n _ _, some (.slice a l _) => n ≤ l ∧ K (.pointer a)
    | _, _ => False
  | .extract x i => match evo e x with
    | some (.tuple vs) => match vs.toList[i]? with | some v => K v | .none => False
    | _ => False
  | .slice t x lo hi mx => match nth .none cx.tab t, evo e x with
    | .one .str, some (.string s) => match lo, hi, mx with
      | .none, some h, .none => match evo e h with | some (.int _ h) => 0 ≤ h ∧ h ≤ (s.size : Int) ∧ K (.string (s.extract 0 h.toNat)) | _ => False
      | some l, .none, .none => match evo e l with | some (.int _ l) => 0 ≤ l ∧ l ≤ (s.size : Int) ∧ K (.string (s.extract l.toNat s.size)) | _ => False
      | some l, some h, .none => match evo e l, evo e h with | some (.int _ l), some (.int _ h) => 0 ≤ h ∧ h ≤ (s.size : Int) ∧ 0 ≤ l ∧ l ≤ h ∧ K (.string (s.extract l.toNat h.toNat)) | _, _ => False
      | .none, .none, .none => K (.string (s.extract 0 s.size))
      | _, _, _ => False
    | .sl _ z, some (.slice a n c) => match lo, hi, mx with
      | .none, .none, .none => K (.slice (slA a 0 c z) (n - 0) (c - 0))
      | .none, some h, .none => match evo e h with | some (.int _ h) => 0 ≤ h ∧ h ≤ (c : Int) ∧ K (.slice (slA a 0 c z) (h.toNat - 0) (c - 0)) | _ => False
      | some l, .none, .none => match evo e l with | some (.int _ l) => 0 ≤ l ∧ l ≤ (n : Int) ∧ K (.slice (slA a l.toNat c z) (n - l.toNat) (c - l.toNat)) | _ => False
      | some l, some h, .none => match evo e l, evo e h with | some (.int _ l), some (.int _ h) => 0 ≤ h ∧ h ≤ (c : Int) ∧ 0 ≤ l ∧ l ≤ h ∧ K (.slice (slA a l.toNat c z) (h.toNat - l.toNat) (c - l.toNat)) | _, _ => False
      | .none, some h, some m => match evo e h, evo e m with | some (.int _ h), some (.int _ m) => 0 ≤ m ∧ m ≤ (c : Int) ∧ 0 ≤ h ∧ h ≤ m ∧ K (.slice (slA a 0 m.toNat z) (h.toNat - 0) (m.toNat - 0)) | _, _ => False
      | some l, some h, some m => match evo e l, evo e h, evo e m with | some (.int _ l), some (.int _ h), some (.int _ m) => 0 ≤ m ∧ m ≤ (c : Int) ∧ 0 ≤ h ∧ h ≤ m ∧ 0 ≤ l ∧ l ≤ h ∧ K (.slice (slA a l.toNat m.toNat z) (h.toNat - l.toNat) (m.toNat - l.toNat)) | _, _, _ => False
      | _, _, _ => False
    | .arr c _ z, some (.pointer a) => match lo, hi, mx with
      | .none, .none, .none => opnA a fun a => K (.slice (slP a 0 c z) (c - 0) (c - 0))
      | .none, some h, .none => match evo e h with | some (.int _ h) => 0 ≤ h ∧ h ≤ (c : Int) ∧ opnA a fun a => K (.slice (slP a 0 c z) (h.toNat - 0) (c - 0)) | _ => False
      | some l, .none, .none => match evo e l with | some (.int _ l) => 0 ≤ l ∧ l ≤ (c : Int) ∧ opnA a fun a => K (.slice (slP a l.toNat c z) (c - l.toNat) (c - l.toNat)) | _ => False
      | some l, some h, .none => match evo e l, evo e h with | some (.int _ l), some (.int _ h) => 0 ≤ h ∧ h ≤ (c : Int) ∧ 0 ≤ l ∧ l ≤ h ∧ opnA a fun a => K (.slice (slP a l.toNat c z) (h.toNat - l.toNat) (c - l.toNat)) | _, _ => False
      | _, _, _ => False
    | _, _ => False
  | .call { callee := .builtin b, args, argTypes } => match b, args.toList, argTypes.toList with
    | .len, [x], [t] => match nth .none cx.tab t, evo e x with
      | .sl _ _, some (.slice _ n _) => K (.int .i64 n)
      | .one .str, some (.string s) => K (.int .i64 s.size)
      | .arr n _ _, some _ => K (.int .i64 n)
      | _, _ => False
    | .cap, [x], [t] => match nth .none cx.tab t, evo e x with
      | .sl _ _, some (.slice _ _ n) => K (.int .i64 n)
      | _, _ => False
    | .min, [x, y], _ => match evo e x, evo e y with | some (.int k x), some (.int _ y) => K (.int k (if y < x then y else x)) | _, _ => False
    | .max, [x, y], _ => match evo e x, evo e y with | some (.int k x), some (.int _ y) => K (.int k (if y > x then y else x)) | _, _ => False
    | _, _, _ => False
  | _ => False

def evR (o : Op) (ty : Nat) (e : Env) (w : World) (K : Value → Prop) : Prop :=
  match o with
  | .load t a => match evo e a with
    | some (.pointer a) => opnA a fun a => ldT (nth .none cx.tab t) a w K
    | _ => False
  | .lookup t x i ok => match evo e x, evo e i with
    | some x, some i => semR cx.P (Instr.lookup t x i ok) w fun v => opnR cx.tab (nth .none cx.tab ty) v K
    | _, _ => False
  | .convert s d x => match evo e x with
    | some x => semR cx.P (convert s d x) w fun v => opnS (some v) fun v => K (.string v)
    | _ => False
  | .binOp op t x y _ => match evo e x, evo e y with
    | some a, some b => semR cx.P (do eqGuard op t x y a b; binOp op t a b) w fun v => opnB (some v) fun v => K (.bool v)
    | _, _ => False
  | .call { callee := .builtin .len, args, argTypes } => match args.toList with
    | [x] => match evo e x with
      | some x => semR cx.P (Builtin.len_ argTypes ty #[x]) w fun v => opnI .i64 (some v) fun v => K (.int .i64 v)
      | _ => False
    | _ => False
  | _ => False

def evM (o : Op) (ty : Nat) (e : Env) (w : World) (K : Value → World → Prop) : Prop :=
  match o with
  | .alloc t => alZ cx.P t w fun p w' => K (.pointer (some p)) w'
  | .box t x => match evo e x with
    | some v => alC v.cells t w fun p w' => K (.pointer (some p)) w'
    | _ => False
  | .store t a x => match evo e a, evo e x with
    | some (.pointer a), some v => opnA a fun a => stT (nth .none cx.tab t) a v w fun w' => K undef w'
    | _, _ => False
  | .buildSlice t n ps => evos e (ps.toList.map (·.2)) fun vs => (match n, ps.toList.map (·.1), vs, nth .none cx.tab t with
    | 1, [0], [.agg cs], .sl el z => (match nth .none cx.tab el with
      | .strct _ (_ :: _) _ => sem cx.P (Instr.buildSlice t n ((ps.toList.map (·.1)).zip vs).toArray) w K
      | _ => match (cx.P.info? el).bind (·.zero) with
        | some _ => cond (Nat.ble z 16777216) (cs.size = z ∧ alC cs el w fun p w' => K (.slice (some p) 1 1) w') False
        | .none => False)
    | _, _, _, _ => sem cx.P (Instr.buildSlice t n ((ps.toList.map (·.1)).zip vs).toArray) w K)
  | .makeSlice t l c => match evo e l, evo e c with
    | some l, some c => sem cx.P (Instr.makeSlice t l c) w fun v w' => opnL (some v) fun a n c => K (.slice a n c) w'
    | _, _ => False
  | .makeMap _ .none => alM w fun r w' => K (.map (some r)) w'
  | .makeMap t (some r) => match evo e r with
    | some r => sem cx.P (Instr.makeMap t (some r)) w fun v w' => opnM (some v) fun v => K (.map v) w'
    | _ => False
  | .makeInterface t x => match evo e x with
    | some x => sem cx.P (Instr.makeInterface t x) w K
    | _ => False
  | .typeAssert x t u ok => match evo e x with
    | some x => sem cx.P (Instr.typeAssert x t u ok) w fun v w' => opnR cx.tab (nth .none cx.tab ty) v fun v => K v w'
    | _ => False
  | .mapUpdate t m k x | .insert t m k x => match evo e m, evo e k, evo e x with
    | some m, some k, some x => semU cx.P (Instr.mapUpdate t m k x) w fun w' => K undef w'
    | _, _, _ => False
  | .mapEntry t m k => match evo e m, evo e k with
    | some m, some k => sem cx.P (Instr.mapEntry t m k) w fun v w' => opnR cx.tab (nth .none cx.tab ty) v fun v => K v w'
    | _, _ => False
  | .entryStore t m s x => match evo e m, evo e s, evo e x with
    | some m, some s, some x => semU cx.P (Instr.entryStore t m s x) w fun w' => K undef w'
    | _, _, _ => False
  | .range t x => match evo e x with
    | some x => sem cx.P (Instr.range t x) w fun v w' => opnP (some v) fun a => opnA a fun a => K (.pointer (some a)) w'
    | _ => False
  | .next x s => match evo e x with
    | some v => match x with
      | .tmp t => sem cx.P (Instr.next v s ty) w fun v w' => opnN v (K (.tuple #[.bool false]) w') fun k x => opn (cx.iter t).1 (some k) fun k => opn (cx.iter t).2 (some x) fun x => K (.tuple #[.bool true, k, x]) w'
      | _ => False
    | _ => False
  | .entry x => match evo e x with
    | some v => match x with
      | .tmp t => sem cx.P (Instr.entry v) w fun v w' => opnT (some v) fun cs => cs.size = 2 ∧ opn (cx.iter t).1 cs[0]? fun k => opn (cx.iter t).2 cs[1]? fun x => K (.tuple #[k, x]) w'
      | _ => False
    | _ => False
  | .convert s d x => match evo e x with
    | some x => sem cx.P (convert s d x) w fun v w' => opn (nth .none cx.tab d) (some v) fun v => K v w'
    | _ => False
  | .call { callee := .builtin b, args, argTypes } => match b with
    | .append => evos e args.toList fun vs => sem cx.P (Builtin.append_ argTypes ty vs.toArray) w fun v w' => opnL (some v) fun a n c => K (.slice a n c) w'
    | .copy => evos e args.toList fun vs => sem cx.P (Builtin.copy_ argTypes ty vs.toArray) w fun v w' => opnI .i64 (some v) fun n => K (.int .i64 n) w'
    | .delete => evos e args.toList fun vs => sem cx.P (Builtin.delete_ argTypes ty vs.toArray) w K
    | .clear => evos e args.toList fun vs => sem cx.P (Builtin.clear_ argTypes ty vs.toArray) w K
    | _ => False
  | .call { callee := .value f, args, .. } => match (match f with | .tmp t => cx.dyn t | _ => false), evo e f with
    | true, some f => evos e args.toList fun vs => invk cx.P f vs.toArray w fun r w' => opnR cx.tab (nth .none cx.tab ty) r fun r => K r w'
    | false, some (.func (.func g) u v) => evos e args.toList fun vs => doesC cx.P g (u ++ vs.toArray ++ v) w fun r w' => opnR cx.tab (nth .none cx.tab ty) r fun r => K r w'
    | _, _ => False
  | _ => False

def cls (o : Op) : Nat :=
  match o with
  | .move _ | .assign _ | .pick .. | .unOp .. | .nilCheck _ | .makeFunc .. | .fieldAddr .. | .field .. | .indexAddr .. | .index .. | .extract .. | .slice .. | .build .. | .sliceToArrayPointer .. => 0
  | .binOp op t _ _ _ => match op with
    | .eql | .neq => match nth .none cx.tab t with
      | .one .ptr | .one .val | .arr .. | .strct .. => 1
      | _ => 0
    | _ => 0
  | .convert s d _ => match nth .none cx.tab s, nth .none cx.tab d with
    | .one (.int _), .one (.int _) => 0
    | .one .str, .one .str => 0
    | .sl _ _, .one .str => 1
    | _, _ => 2
  | .load .. | .lookup .. => 1
  | .call { callee := .builtin b, argTypes, .. } => match b with
    | .len => match nth .none cx.tab (nth 0 argTypes.toList 0) with
      | .one .map => 1
      | _ => 0
    | .cap | .min | .max => 0
    | _ => 2
  | _ => 2

def evOp (o : Oper) (e : Env) (w : World) (K : Value → World → Prop) : Prop :=
  match cls cx o.op with
  | 0 => evP cx o.op e fun v => K v w
  | 1 => evR cx o.op o.type e w fun v => K v w
  | _ => evM cx o.op o.type e w K

def putE (o : Oper) (e : Env) (v : Value) (K : Env → Prop) : Prop :=
  match o.dst with
  | .none => K e
  | some d => cond (Nat.blt d cx.N) (K ((d, (match o.op with | .move (.tmp t) | .assign (.tmp t) => orig e t | _ => cx.N + e.length), v) :: e)) False

def putU (o : Oper) (e : Env) (K : Env → Prop) : Prop :=
  match o.dst with
  | .none => K e
  | some d => cond (Nat.blt d cx.N) (K ((d, cx.N + e.length, undef) :: e)) False

def evOps (dsts : List (Option Nat)) : List Oper → Env → World → (Env → World → Prop) → Prop
  | [], e, w, K => K e w
  | o :: r, e, w, K =>
    match o.guard with
    | .none => evOp cx o e w fun v w' => putE cx o e v fun e' => evOps dsts r e' w' K
    | some (j, want) => match nth .none dsts j with
      | .none => False
      | some d => match gets e d with
        | some (.bool b) => cond b
            (match want with
              | true => evOp cx o (refine (orig e d) true e) w fun v w' => putE cx o (refine (orig e d) true e) v fun e' => evOps dsts r e' w' K
              | false => putU cx o (refine (orig e d) true e) fun e' => evOps dsts r e' w K)
            (match want with
              | true => putU cx o (refine (orig e d) false e) fun e' => evOps dsts r e' w K
              | false => evOp cx o (refine (orig e d) false e) w fun v w' => putE cx o (refine (orig e d) false e) v fun e' => evOps dsts r e' w' K)
        | some (.tuple _) => putU cx o e fun e' => evOps dsts r e' w K
        | _ => False

def binds (e : Edge) : Bool := match e.ground with | .textOnly _ => false | .gcOnly _ => false | _ => true
def maskOf (l : List Edge) (bs : List Nat) : Nat :=
  match l with
  | [] => 0
  | e :: r => Nat.lor (maskOf r bs) (cond (binds e) (Nat.lor (Nat.shiftLeft 1 e.on) (nth 0 bs e.on)) 0)
def befores : List Oper → List Nat → List Nat
  | [], bs => bs
  | o :: r, bs => befores r (bs ++ [maskOf o.after.toList bs])
def has (m i : Nat) : Bool := Nat.beq (Nat.land (Nat.shiftRight m i) 1) 1
def without (i : Nat) : List (Nat × Oper × Nat) → List (Nat × Oper × Nat)
  | [] => []
  | x :: r => cond (Nat.beq x.1 i) r (x :: without i r)
def pickReady (done c : Nat) : List (Nat × Oper × Nat) → Option Nat
  | [] => .none
  | x :: r => cond (cond (Nat.ble (cls cx x.2.1.op) c) (Nat.beq (Nat.land x.2.2 done) x.2.2) false) (some x.1) (pickReady done c r)
def orderOf : Nat → Nat → List (Nat × Oper × Nat) → List Nat
  | 0, _, _ => []
  | n + 1, done, l =>
    match pickReady cx done 0 l with
    | some i => i :: orderOf n (Nat.lor done (Nat.shiftLeft 1 i)) (without i l)
    | .none => match pickReady cx done 1 l with
      | some i => i :: orderOf n (Nat.lor done (Nat.shiftLeft 1 i)) (without i l)
      | .none => match pickReady cx done 2 l with
        | some i => i :: orderOf n (Nat.lor done (Nat.shiftLeft 1 i)) (without i l)
        | .none => []
def zip3 : Nat → List Oper → List Nat → List (Nat × Oper × Nat)
  | i, o :: r, b :: bs => (i, o, b) :: zip3 (i + 1) r bs
  | _, _, _ => []
def pairOk (ops : Array Oper) (ms : List Nat) (x y : Nat) : Bool :=
  match ops.toList[x]?, ops.toList[y]? with
  | some ox, some oy =>
    cond (has (nth 0 ms y) x)
      (match cls cx ox.op with | 1 => (match oy.dst with | some d => !(ox.looksAt ops).contains d | .none => true) | _ => true)
      (cond (ox.apart ops oy)
        (match cls cx ox.op, cls cx oy.op with
          | 0, _ => true
          | 1, 0 => true
          | 1, 1 => true
          | 1, _ => match ox.dst with | some d => !(ox.looksAt ops).contains d | .none => true
          | _, _ => false) false)
  | _, _ => false
def pairsOk (ops : Array Oper) (ms : List Nat) : List Nat → Bool
  | [] => true
  | x :: r => cond (r.all (pairOk cx ops ms x)) (pairsOk ops ms r) false
def depOk (ops : Array Oper) (ms : List Nat) (j : Nat) : Bool :=
  match ops.toList[j]? with
  | some o => (List.range ops.size).all fun x => cond (has (nth 0 ms j) x) (o.after.toList.any fun e => cond (binds e) (cond (Nat.beq e.on x) true (has (nth 0 ms e.on) x)) false) true
  | .none => true
def distinct : List Nat → Bool
  | [] => true
  | x :: r => cond (r.any (Nat.beq x)) false (distinct r)
def masks (ops : Array Oper) : List Nat := befores ops.toList []
def ordered (ops : Array Oper) : List Nat := orderOf cx (ops.toList.length + 1) 0 (zip3 0 ops.toList (masks ops))
def frontOk (ops : Array Oper) : List Nat → List Nat → Bool
  | _, [] => true
  | done, i :: r => cond (match ops.toList[i]? with
    | some o => o.after.toList.all fun e => cond (binds e) (done.any (Nat.beq e.on)) true
    | .none => false) (frontOk ops (i :: done) r) false
def regOk (ops : Array Oper) (ord : List Nat) : Bool :=
  cond (Nat.beq ord.length ops.size) (cond (distinct ord) (cond (frontOk ops [] ord) (cond (pairsOk cx ops (masks ops) ord) (cond ((List.range ops.size).all (depOk ops (masks ops))) (Region.noSelect ops) false) false) false) false) false
def stab (ops : Array Oper) (m : Nat) (e : Env) (w : World) (p : Prop) : List (Nat × Value) → Prop
  | [] => p
  | (j, v) :: D => cond (has m j) (stab ops m e w p D) (match ops.toList[j]? with
    | some o => evR cx o.op o.type e w (fun v' => v' = v) ∧ stab ops m e w p D
    | .none => False)
def evStep (ops : Array Oper) (ms : List Nat) (i : Nat) (o : Oper) (D : List (Nat × Value)) (e : Env) (w : World) (K : List (Nat × Value) → Env → World → Prop) : Prop :=
  match cls cx o.op with
  | 0 => evP cx o.op e fun v => putE cx o e v fun e' => K D e' w
  | 1 => evR cx o.op o.type e w fun v => putE cx o e v fun e' => K ((i, v) :: D) e' w
  | _ => evM cx o.op o.type e w fun v w' => stab cx ops (nth 0 ms i) e w' (putE cx o e v fun e' => K D e' w') D
def evOrd (ops : Array Oper) (ms : List Nat) (dsts : List (Option Nat)) (K : Env → World → Prop) : List Nat → List (Nat × Value) → Env → World → Prop
  | [], _, e, w => K e w
  | i :: r, D, e, w => match ops.toList[i]? with
    | .none => False
    | some o => match o.guard with
      | .none => evStep cx ops ms i o D e w fun D' e' w' => evOrd ops ms dsts K r D' e' w'
      | some (j, want) => match nth .none dsts j with
        | .none => False
        | some d => match gets e d with
          | some (.bool b) => cond b
              (match want with
                | true => evStep cx ops ms i o D (refine (orig e d) true e) w fun D' e' w' => evOrd ops ms dsts K r D' e' w'
                | false => putU cx o (refine (orig e d) true e) fun e' => evOrd ops ms dsts K r D e' w)
              (match want with
                | true => putU cx o (refine (orig e d) false e) fun e' => evOrd ops ms dsts K r D e' w
                | false => evStep cx ops ms i o D (refine (orig e d) false e) w fun D' e' w' => evOrd ops ms dsts K r D' e' w')
          | some (.tuple _) => putU cx o e fun e' => evOrd ops ms dsts K r D e' w
          | _ => False

def andL : List Prop → Prop
  | [] => True
  | [p] => p
  | p :: r => p ∧ andL r
def firstPure (ops : Array Oper) (listed : Array Bool) : List Nat → Option (Nat × Oper)
  | [] => .none
  | i :: r => match ops[i]? with
    | some o => cond (cond (Nat.beq (cls cx o.op) 0) (Region.free .any ops listed i) false) (some (i, o)) (firstPure ops listed r)
    | .none => firstPure ops listed r
def evAny (ops : Array Oper) (dsts : List (Option Nat)) (K : Env → World → Prop) : Nat → Array Bool → Env → World → Prop
  | 0, listed, e, w => match Region.ready .any ops listed with | [] => K e w | _ => False
  | n + 1, listed, e, w => match Region.ready .any ops listed with
    | [] => K e w
    | rs => match firstPure cx ops listed rs with
      | some (i, o) => evOps cx dsts [o] e w fun e' w' => evAny ops dsts K n (listed.setIfInBounds i true) e' w'
      | .none => andL (rs.map fun i => match ops[i]? with
        | some o => evOps cx dsts [o] e w fun e' w' => evAny ops dsts K n (listed.setIfInBounds i true) e' w'
        | .none => False)

def evOne (ops : Array Oper) (ms : List Nat) (dsts : List (Option Nat)) (R : List (Nat × Value) → Env → World → Prop) (i : Nat) (D : List (Nat × Value)) (e : Env) (w : World) : Prop :=
  match ops.toList[i]? with
  | .none => False
  | some o => match o.guard with
    | .none => evStep cx ops ms i o D e w R
    | some (j, want) => match nth .none dsts j with
      | .none => False
      | some d => match gets e d with
        | some (.bool b) => cond b
            (match want with
              | true => evStep cx ops ms i o D (refine (orig e d) true e) w R
              | false => putU cx o (refine (orig e d) true e) fun e' => R D e' w)
            (match want with
              | true => putU cx o (refine (orig e d) false e) fun e' => R D e' w
              | false => evStep cx ops ms i o D (refine (orig e d) false e) w R)
        | some (.tuple _) => putU cx o e fun e' => R D e' w
        | _ => False
def firstLight (ops : Array Oper) (c : Nat) : List Nat → Option Nat
  | [] => .none
  | i :: r => match ops.toList[i]? with
    | some o => cond (Nat.ble (cls cx o.op) c) (some i) (firstLight ops c r)
    | .none => firstLight ops c r
def evTree (ops : Array Oper) (ms : List Nat) (dsts : List (Option Nat)) (K : Env → World → Prop) : Nat → Array Bool → List (Nat × Value) → Env → World → Prop
  | 0, listed, _, e, w => match Region.ready .any ops listed with | [] => K e w | _ => False
  | n + 1, listed, D, e, w => match Region.ready .any ops listed with
    | [] => K e w
    | i :: r => match firstLight cx ops 0 (i :: r) with
      | some j => evOne cx ops ms dsts (fun D e w => evTree ops ms dsts K n (listed.setIfInBounds j true) D e w) j D e w
      | .none => match firstLight cx ops 1 (i :: r) with
        | some j => evOne cx ops ms dsts (fun D e w => evTree ops ms dsts K n (listed.setIfInBounds j true) D e w) j D e w
        | .none => andL ((i :: r).map fun j => evOne cx ops ms dsts (fun D e w => evTree ops ms dsts K n (listed.setIfInBounds j true) D e w) j D e w)
def lightOk (ops : Array Oper) (ms : List Nat) (p : Nat) : Bool :=
  match ops.toList[p]? with
  | .none => false
  | some o => cond (o.after.toList.all fun e => cond (binds e) (Nat.blt e.on p) true)
      (cond (Nat.ble (cls cx o.op) 1) ((List.range ops.size).all fun q => cond (Nat.beq p q) true (cond (has (nth 0 ms p) q) true (pairOk cx ops ms p q))) true) false
def treeOk (ops : Array Oper) : Bool :=
  cond ((List.range ops.size).all (lightOk cx ops (masks ops))) (cond ((List.range ops.size).all (depOk ops (masks ops))) (Region.noSelect ops) false) false

def evRegion (ops : Array Oper) (draw : Bool) (e : Env) (w : World) (K : Env → World → Prop) : Prop :=
  match draw with
  | false => evOps cx (ops.toList.map (·.dst)) ops.toList e w K
  | true => cond (regOk cx ops (ordered cx ops))
      (drw w fun w' => evOrd cx ops (masks ops) (ops.toList.map (·.dst)) K (ordered cx ops) [] e w')
      (cond (treeOk cx ops) (drw w fun w' => evTree cx ops (masks ops) (ops.toList.map (·.dst)) K ops.size (Array.replicate ops.size false) [] e w')
        (cond (Region.noSelect ops) (drw w fun w' => evAny cx ops (ops.toList.map (·.dst)) K ops.size (Array.replicate ops.size false) e w') False))

def restrict (e : Env) : List Nat → Option Env
  | [] => some []
  | s :: r => match gets e s, restrict e r with
    | some v, some e' => some ((s, s, v) :: e')
    | _, _ => .none
def evResults (e : Env) (w : World) : List ResultVar → (List Value → Prop) → Prop
  | [], K => K []
  | .tmp t :: r, K => match gets e t with
    | some v => evResults e w r fun vs => K (v :: vs)
    | .none => False
  | .cell a t :: r, K => match gets e a with
    | some (.pointer p) => opnA p fun p => ldT (nth .none cx.tab t) p w fun v => evResults e w r fun vs => K (v :: vs)
    | _ => False
def retV : List Value → Value
  | [v] => v
  | vs => .tuple vs.toArray

def run (Q : Value → World → Prop) (X : Env → List Item → World → Prop) : Nat → Bool → List Item → Env → World → Prop
  | 0, _, _, _, _ => False
  | n + 1, first, todo, e, w =>
    match todo with
    | [] => evResults cx e w cx.results fun vs => Q (retV vs) w
    | .inBlock _ :: k => run Q X n first k e w
    | .inScope _ :: k => run Q X n first k e w
    | .inLoop c :: k => run Q X n first (.code c :: .inLoop c :: k) e w
    | .code c :: k => match c with
      | .skip => run Q X n first k e w
      | .label _ => run Q X n first k e w
      | .seq x y => run Q X n first (.code x :: .code y :: k) e w
      | .block id c => run Q X n first (.code c :: .inBlock id :: k) e w
      | .loop c => run Q X n first (.code c :: .inLoop c :: k) e w
      | .scope c => run Q X n first (.code c :: .inScope c :: k) e w
      | .goto l => match gotoIn l k with
        | some k' => run Q X n first k' e w
        | .none => False
      | .cond c x y => match evo e c with
        | some (.bool t) => cond t (run Q X n first (.code x :: k) e w) (run Q X n first (.code y :: k) e w)
        | _ => False
      | .exit id => match exitTo id k with
        | some k' => run Q X n first k' e w
        | .none => False
      | .ret => evResults cx e w cx.results fun vs => Q (retV vs) w
      | .region id ops draw => match first, cx.live id with
        | false, some S => match restrict e S with
          | some e' => X e' (.code (.region id ops draw) :: k) w
          | .none => False
        | _, _ => evRegion cx ops draw e w fun e' w' => run Q X n false k e' w'
      | _ => False
    | _ => False

def fuel : Nat := 4000
def Nd (Q : Value → World → Prop) (e : Env) (todo : List Item) (w : World) : Prop := ∀ a, Ag cx.N e a → Fin cx.P cx.fn Q a todo w
def params : Nat → List Value → Env
  | _, [] => []
  | i, v :: r => (i, i, v) :: params (i + 1) r
def fnPT (body : Code) (args : Array Value) (w : World) (Q : Value → World → Prop) : Prop :=
  cond (Nat.ble args.toList.length cx.N) (run cx Q (Nd cx Q) fuel false [.code body] (params 0 args.toList) w) False
end
def _root_.Go.Code.l : Code → Code
  | .seq a _ => a | .block _ a => a | .loop a => a | .scope a => a | .cond _ a _ => a | c => c
def _root_.Go.Code.r : Code → Code
  | .seq _ b => b | .cond _ _ b => b | c => c
end Go.Sh
namespace Go.Sh
variable {P : Program}

def teOk (P : Program) (tab : List TE) (t : Nat) : Bool :=
  match nth .none tab t with
  | .one .bool => (P.underlying t matches some .bool) && P.cellsOf t == 1
  | .one (.int k) => (match P.underlying t with | some (.int k') => k' == k | _ => false) && P.cellsOf t == 1
  | .one .str => (P.underlying t matches some .string) && P.cellsOf t == 1
  | .one .ptr => (P.underlying t matches some (.pointer _)) && P.cellsOf t == 1
  | .one .map => (P.underlying t matches some (.map _ _)) && P.cellsOf t == 1
  | .one _ => (match P.underlying t with | some (.struct _) | some (.array _ _) | .none => false | _ => true) && P.cellsOf t == 1
  | .sl e z => (match P.underlying t with | some (.slice e') => e' == e | _ => false) && P.cellsOf t == 1 && P.cellsOf e == z && (P.info? e).isSome
  | .arr n e z => (match P.underlying t with | some (.array n' e') => n' == n && e' == e | _ => false) && P.cellsOf t == n * z && P.cellsOf e == z && (P.info? e).isSome
  | .strct n ls fl => (match P.underlying t with
      | some (.struct fs) => (fs.toList.map fun f => (f.offset, f.type)) == fl && fs.toList.all fun f => P.cellsOf f.type != 0
      | _ => false) && P.cellsOf t == n && (ls.length == 0 || ls.length == n)
  | _ => true
def tabOk (P : Program) (tab : List TE) : Bool := (List.range tab.length).all (teOk P tab)
theorem nth_out {α : Type} (d : α) : ∀ (l : List α) (n : Nat), l.length ≤ n → nth d l n = d
  | [], _, _ => rfl
  | _ :: r, 0, h => by simp at h
  | _ :: r, n + 1, h => nth_out d r n (by simpa using h)
theorem tab_at {tab : List TE} (h : tabOk P tab = true) (t : Nat) : teOk P tab t = true := by
  by_cases ht : t < tab.length
  · exact List.all_eq_true.1 h t (List.mem_range.2 ht)
  · simp [teOk, nth_out _ _ _ (by omega : tab.length ≤ t)]

theorem gets_mem {e : Env} {t : Nat} {v : Value} (h : gets e t = some v) : (t, orig e t, v) ∈ e := by
  induction e with
  | nil => cases h
  | cons x r ih =>
    obtain ⟨s, o, u⟩ := x
    simp only [gets, orig] at h ⊢
    by_cases hs : s = t
    · subst hs; simp only [Nat.beq_refl, cond_true] at h ⊢; cases h; exact List.mem_cons_self
    · have hb : Nat.beq s t = false := by
        cases hb : Nat.beq s t with
        | false => rfl
        | true => exact absurd (Nat.eq_of_beq_eq_true hb) hs
      simp only [hb, cond_false] at h ⊢
      exact List.mem_cons_of_mem _ (ih h)

theorem evo_sound {N : Nat} {e : Env} {a : Act} (g : Ag N e a) {x : Operand} {v : Value} (h : evo e x = some v) : a.eval x = v := by
  cases x with
  | tmp t => have := g.val t v h; simp [Act.eval, this]
  | const u => cases h; rfl
  | global b => cases h; rfl
  | func f => cases h; rfl

theorem evos_sound {N : Nat} {e : Env} {a : Act} (g : Ag N e a) : ∀ {l : List Operand} {K : List Value → Prop}, evos e l K → K (l.map a.eval)
  | [], K, h => h
  | x :: r, K, h => by
    simp only [evos] at h
    cases hx : evo e x with
    | none => simp [hx] at h
    | some v =>
      simp only [hx] at h
      have := evos_sound g h
      rw [List.map_cons, evo_sound g hx]; exact this

theorem opn1_sound {t : T1} {v : Option Value} {K : Value → Prop} (h : opn1 t v K) : ∃ u, v = some u ∧ K u := by
  cases t <;> simp only [opn1, opnB, opnI, opnS, opnL, opnP, opnM, opnV] at h <;> split at h <;> first
    | exact h.elim
    | (obtain ⟨rfl, h⟩ := h; exact ⟨_, rfl, h⟩)
    | exact ⟨_, rfl, h⟩
theorem opnC_sound : ∀ {l : List T1} {cs : Array Value} {i : Nat} {K : List Value → Prop}, opnC cs i l K → ∃ vs, vs.length = l.length ∧ (∀ j, j < l.length → cs[i + j]? = vs[j]?) ∧ K vs
  | [], cs, i, K, h => ⟨[], rfl, fun j hj => absurd hj (by simp), h⟩
  | t :: r, cs, i, K, h => by
    simp only [opnC] at h
    obtain ⟨u, hu, h⟩ := opn1_sound h
    obtain ⟨vs, hl, hj, h⟩ := opnC_sound h
    refine ⟨u :: vs, by simp [hl], fun j hjl => ?_, h⟩
    cases j with
    | zero => simpa using hu
    | succ j => have := hj j (by simpa using hjl); rw [show i + (j + 1) = i + 1 + j from by omega]; simpa using this
theorem arr_of_all {cs : Array Value} {vs : List Value} {n : Nat} (hn : cs.size = n) (hl : vs.length = n) (h : ∀ j, j < n → cs[j]? = vs[j]?) : cs = vs.toArray := by
  apply Array.ext'
  apply List.ext_getElem?
  intro j
  by_cases hj : j < n
  · simpa using h j hj
  · rw [List.getElem?_eq_none (by simp [hn]; omega), List.getElem?_eq_none (by simp [hl]; omega)]
theorem opn_sound {t : TE} {v : Option Value} {K : Value → Prop} (h : opn t v K) : ∃ u, v = some u ∧ K u := by
  unfold opn at h
  split at h
  · exact opn1_sound h
  · exact opn1_sound h
  · unfold opnG at h; split at h
    · exact ⟨_, rfl, h⟩
    · exact h.elim
  · unfold opnG at h; split at h
    · exact ⟨_, rfl, h⟩
    · exact h.elim
  · rename_i l ls fl
    unfold opnG at h; split at h
    · rename_i cs
      obtain ⟨hs, h1⟩ := h
      obtain ⟨vs, hv, hj, h2⟩ := opnC_sound h1
      have : cs = vs.toArray := arr_of_all hs hv (fun j hjn => by have := hj j hjn; simpa using this)
      rw [this]; exact ⟨_, rfl, h2⟩
    · exact h.elim
  · unfold opnV at h; split at h
    · exact ⟨_, rfl, h⟩
    · exact h.elim
theorem opnTs_sound {tab : List TE} : ∀ {l : List Nat} {cs : Array Value} {i : Nat} {K : List Value → Prop}, opnTs tab cs i l K → ∃ vs, vs.length = l.length ∧ (∀ j, j < l.length → cs[i + j]? = vs[j]?) ∧ K vs
  | [], cs, i, K, h => ⟨[], rfl, fun j hj => absurd hj (by simp), h⟩
  | t :: r, cs, i, K, h => by
    simp only [opnTs] at h
    obtain ⟨u, hu, h⟩ := opn_sound h
    obtain ⟨vs, hl, hj, h⟩ := opnTs_sound h
    refine ⟨u :: vs, by simp [hl], fun j hjl => ?_, h⟩
    cases j with
    | zero => simpa using hu
    | succ j => have := hj j (by simpa using hjl); rw [show i + (j + 1) = i + 1 + j from by omega]; simpa using this
theorem opnR_sound {tab : List TE} {t : TE} {v : Value} {K : Value → Prop} (h : opnR tab t v K) : K v := by
  unfold opnR at h
  split at h
  · unfold opnT at h; split at h
    · rename_i cs he
      cases he
      obtain ⟨hs, h1⟩ := h
      obtain ⟨vs, hv, hj, h2⟩ := opnTs_sound h1
      have : cs = vs.toArray := arr_of_all hs hv (fun j hjn => by have := hj j hjn; simpa using this)
      rw [this]; exact h2
    · exact h.elim
  · obtain ⟨u, hu, h⟩ := opn_sound h
    cases hu; exact h
theorem leaves_ok {tab : List TE} (h : tabOk P tab = true) (t : Nat) : ∀ n ls fl, nth .none tab t = .strct n ls fl → ls.length = 0 ∨ ls.length = n := by
  intro n ls fl e
  have := tab_at h t
  simp only [teOk, e, Bool.and_eq_true, Bool.or_eq_true, beq_iff_eq] at this
  exact this.2

theorem cellsOf_of {t n : Nat} (h : P.cellsOf t = n) (hn : n ≠ 0) (w : World) : (sizeOf t).run P w = .ok n w := by
  unfold Program.cellsOf at h
  cases hi : P.info? t with
  | none => simp [hi] at h; omega
  | some i => simp [hi] at h; simp [sizeOf, typeInfo, hi, h, go_sem]
theorem run_under {t : Nat} {d : TypeDesc} (h : P.underlying t = some d) (w : World) : (underlying t).run P w = .ok d w := run_underlying h w
end Go.Sh
namespace Go.Sh
variable {P : Program}

def Pure (P : Program) (s : Sem Value) (v : Value) : Prop := ∀ w, s.run P w = .ok v w

theorem run_sureAddr (a : Addr) (w : World) : (Instr.sureAddr (.pointer (some a))).run P w = .ok a w := rfl
theorem run_asIntOf (k : IntKind) (n : Int) (w : World) : (asIntOf (.int k n)).run P w = .ok (k, n) w := rfl

theorem binI_sound {op : BinOp} {k : IntKind} {x y : Int} {t : Nat} {K : Value → Prop} (h : binI op k x y K) : ∃ v, Pure P (binOp op t (.int k x) (.int k y)) v ∧ K v := by
  cases op <;> simp only [binI] at h <;> first
    | exact h.elim
    | (obtain ⟨hy, h⟩ := h; exact ⟨_, fun w => by simp [binOp, Op.intDiv, hy]; try rfl, h⟩)
    | exact ⟨_, fun w => by simp [binOp, Op.intArith, Op.intCmp, go_sem]; try rfl, h⟩
theorem binS_sound {op : BinOp} {x y : ByteArray} {t : Nat} {K : Value → Prop} (h : binS op x y K) : ∃ v, Pure P (binOp op t (.string x) (.string y)) v ∧ K v := by
  cases op <;> simp only [binS] at h <;> first
    | exact h.elim
    | (obtain ⟨hy, h⟩ := h; exact ⟨_, fun w => by simp [binOp, Op.stringOp, IntKind.max, IntKind.signed, IntKind.bits]; omega, h⟩)
    | exact ⟨_, fun w => by simp [binOp, Op.stringOp]; try rfl, h⟩
theorem shl_sound {k yk : IntKind} {x y : Int} {t : Nat} (h : 0 ≤ y) : Pure P (binOp .shl t (.int k x) (.int yk y)) (.int k (shlI k x y)) := fun w => by
  simp [binOp, Op.shift, shlI, show ¬ y < 0 from by omega]
theorem shr_sound {k yk : IntKind} {x y : Int} {t : Nat} (h : 0 ≤ y) : Pure P (binOp .shr t (.int k x) (.int yk y)) (.int k (shrI k x y)) := fun w => by
  simp [binOp, Op.shift, shrI, show ¬ y < 0 from by omega]
theorem nn_iff {b : Int} {p : Prop} : nn b p ↔ 0 ≤ b ∧ p := by
  unfold nn; cases b with
  | ofNat n => simp
  | negSucc n => simp
theorem kn_inj {j k : IntKind} (h : Nat.beq (kn j) (kn k) = true) : j = k := by cases j <;> cases k <;> first | rfl | (simp [kn] at h)


theorem te_under {tab : List TE} (ht : tabOk P tab = true) {t : Nat} : match nth .none tab t with
    | .one .bool => P.underlying t = some .bool
    | .one (.int k) => P.underlying t = some (.int k)
    | .one .str => P.underlying t = some .string
    | .one .map => ∃ k e, P.underlying t = some (.map k e)
    | .sl e z => P.underlying t = some (.slice e) ∧ (∀ w, (sizeOf e).run P w = .ok z w)
    | .arr n e z => P.underlying t = some (.array n e) ∧ (∀ w, (sizeOf e).run P w = .ok z w) ∧ (∀ w, (sizeOf t).run P w = .ok (n * z) w)
    | _ => True := by
  have h := tab_at ht t
  have hsz : ∀ (e z : Nat), P.cellsOf e = z → (P.info? e).isSome = true → ∀ w, (sizeOf e).run P w = .ok z w := by
    intro e z hc hi w
    obtain ⟨i, hi⟩ := Option.isSome_iff_exists.1 hi
    unfold Program.cellsOf at hc
    simp [hi] at hc; simp [sizeOf, typeInfo, hi, hc, go_sem]
  have hsm : ∀ d, P.underlying t = some d → (P.info? t).isSome = true := by
    intro d hd
    cases hi : P.info? t with
    | none => simp [Program.underlying, hi] at hd
    | some i => rfl
  unfold teOk at h
  cases hk : nth TE.none tab t with
  | one t1 =>
    simp only [hk] at h
    cases t1 <;> simp only <;> try trivial
    all_goals
      cases hu : P.underlying t with
      | none => simp [hu] at h
      | some d => cases d <;> simp [hu] at h <;> first | rfl | exact ⟨_, _, rfl⟩ | (obtain ⟨rfl, _⟩ := h; rfl)
  | sl e z =>
    simp only [hk, Bool.and_eq_true, beq_iff_eq] at h ⊢
    cases hu : P.underlying t with
    | none => simp [hu] at h
    | some d =>
      cases d <;> simp [hu] at h
      obtain ⟨⟨⟨rfl, _⟩, hz⟩, hi⟩ := h; exact ⟨rfl, hsz _ _ hz hi⟩
  | arr n e z =>
    simp only [hk, Bool.and_eq_true, beq_iff_eq] at h ⊢
    cases hu : P.underlying t with
    | none => simp [hu] at h
    | some d =>
      cases d <;> simp [hu] at h
      obtain ⟨⟨⟨⟨rfl, rfl⟩, hc⟩, hz⟩, hi⟩ := h; exact ⟨rfl, hsz _ _ hz hi, hsz _ _ hc (hsm _ hu)⟩
  | strct n ls fl => trivial
  | tupl ts => trivial
  | none => trivial
end Go.Sh
namespace Go.Sh
variable {P : Program} {tab : List TE}

theorem te_struct (ht : tabOk P tab = true) {t n : Nat} {ls : List T1} {fl : List (Nat × Nat)} (hk : nth .none tab t = .strct n ls fl) :
    ∃ fs, P.underlying t = some (.struct fs) ∧ fs.toList.map (fun f => (f.offset, f.type)) = fl ∧ (∀ f ∈ fs, P.cellsOf f.type ≠ 0) ∧ P.cellsOf t = n := by
  have h := tab_at ht t
  simp only [teOk, hk, Bool.and_eq_true] at h
  cases hu : P.underlying t with
  | none => simp [hu] at h
  | some d =>
    cases d <;> simp [hu] at h
    rename_i fs
    obtain ⟨⟨⟨h1, h2⟩, h3⟩, _⟩ := h
    exact ⟨fs, rfl, by simpa using h1, fun f hf => by obtain ⟨i, hi, rfl⟩ := Array.mem_iff_getElem.1 hf; exact h2 i hi, h3⟩
theorem struct_field {fs : Array Field} {fl : List (Nat × Nat)} (h : fs.toList.map (fun f => (f.offset, f.type)) = fl) {i : Nat} (hi : i < fl.length) :
    ∃ f, fs[i]? = some f ∧ f ∈ fs ∧ nth (0, 0) fl i = (f.offset, f.type) := by
  subst h
  have hl : i < fs.size := by simpa using hi
  refine ⟨fs[i], by simp [hl], Array.getElem_mem hl, ?_⟩
  have : ∀ (l : List (Nat × Nat)) (i : Nat) (h : i < l.length), nth (0, 0) l i = l[i] := by
    intro l; induction l with
    | nil => intro i h; simp at h
    | cons x r ih => intro i h; cases i with
      | zero => rfl
      | succ i => simpa [nth] using ih i (by simpa using h)
  rw [this _ _ (by simpa using hl)]; simp
theorem size_ne {e : Nat} (h : P.cellsOf e ≠ 0) (w : World) : (sizeOf e).run P w = .ok (P.cellsOf e) w := cellsOf_of rfl h w

theorem fieldAt_sound (ht : tabOk P tab = true) {t n f : Nat} {ls : List T1} {fl : List (Nat × Nat)} (hk : nth .none tab t = .strct n ls fl) (hf : f < fl.length) (a : Addr) :
    Pure P (Instr.fieldAt t (.pointer (some a)) f) (.pointer (some (a.add (nth (0, 0) fl f).1))) := fun w => by
  obtain ⟨fs, hu, hm, hc, _⟩ := te_struct ht hk
  obtain ⟨g, hg, hmem, hn⟩ := struct_field hm hf
  simp [Instr.fieldAt, run_under hu, hg, run_sureAddr, fieldPlace, size_ne (hc g hmem), hc g hmem, hn]

theorem isAgg_of {t : Nat} {d : TypeDesc} (h : P.underlying t = some d) (w : World) : (isAgg t).run P w = .ok (match d with | .struct _ | .array _ _ => true | _ => false) w := by
  simp only [isAgg, Sem.run_bind, run_under h, Result.andThen_ok]
  cases d <;> rfl
theorem te_one (ht : tabOk P tab = true) {t : Nat} {t1 : T1} (hk : nth .none tab t = .one t1) (w : World) : (isAgg t).run P w = .ok false w ∧ P.cellsOf t = 1 := by
  have h := tab_at ht t
  simp only [teOk, hk] at h
  cases hu : P.underlying t with
  | none => cases t1 <;> simp [hu] at h
  | some d =>
    rw [isAgg_of hu]
    cases t1 <;> cases d <;> simp [hu] at h <;> simp [h]
theorem te_sl (ht : tabOk P tab = true) {t e z : Nat} (hk : nth .none tab t = .sl e z) (w : World) : (isAgg t).run P w = .ok false w ∧ P.cellsOf t = 1 := by
  have h := tab_at ht t
  simp only [teOk, hk] at h
  cases hu : P.underlying t with
  | none => simp [hu] at h
  | some d => rw [isAgg_of hu]; cases d <;> simp [hu] at h; simp [h]
theorem part_one {t : Nat} (h : ∀ w, (isAgg t).run P w = .ok false w) {cs : Array Value} {off : Nat} {v : Value} (hv : cs[off]? = some v) : Pure P (part t cs off) v := fun w => by simp [part, h, hv]
theorem part_arr (ht : tabOk P tab = true) {t n e z : Nat} (hk : nth .none tab t = .arr n e z) (cs : Array Value) (off : Nat) : Pure P (part t cs off) (.agg (cs.extract off (off + n * z))) := fun w => by
  have h := te_under ht (t := t); simp only [hk] at h
  simp [part, isAgg_of h.1, h.2.2]
theorem part_strct (ht : tabOk P tab = true) {t n : Nat} {ls : List T1} {fl : List (Nat × Nat)} (hk : nth .none tab t = .strct n ls fl) (hn : n ≠ 0) (cs : Array Value) (off : Nat) : Pure P (part t cs off) (.agg (cs.extract off (off + n))) := fun w => by
  obtain ⟨fs, hu, _, _, hc⟩ := te_struct ht hk
  simp [part, isAgg_of hu, cellsOf_of hc hn]
theorem extract_list (cs : Array Value) (off n : Nat) : cs.extract off (off + n) = ((cs.toList.drop off).take n).toArray := by
  apply Array.ext'
  simp [List.extract]

theorem indexAt_sl (ht : tabOk P tab = true) {t e z : Nat} (hk : nth .none tab t = .sl e z) {a : Addr} {n c : Nat} {k : IntKind} {j : Int} (h0 : 0 ≤ j) (h1 : j < (n : Int)) :
    Pure P (Instr.indexAt t (.slice (some a) n c) (.int k j)) (.pointer (some (a.add (j.toNat * z)))) := fun w => by
  have h := te_under ht (t := t); simp only [hk] at h
  simp [Instr.indexAt, run_under h.1, run_asIntOf, h.2, h0, h1]
theorem indexAt_arr (ht : tabOk P tab = true) {t n e z : Nat} (hk : nth .none tab t = .arr n e z) {a : Addr} {k : IntKind} {j : Int} (h0 : 0 ≤ j) (h1 : j < (n : Int)) :
    Pure P (Instr.indexAt t (.pointer (some a)) (.int k j)) (.pointer (some (a.add (j.toNat * z)))) := fun w => by
  have h := te_under ht (t := t); simp only [hk] at h
  simp [Instr.indexAt, run_under h.1, run_asIntOf, run_sureAddr, h.2.1, h0, h1]
theorem index_str (ht : tabOk P tab = true) {t : Nat} (hk : nth .none tab t = .one .str) {s : ByteArray} {k : IntKind} {j : Int} (h0 : 0 ≤ j) (h1 : j < (s.size : Int)) :
    Pure P (Instr.index t (.string s) (.int k j)) (.int .u8 (bt s j.toNat)) := fun w => by
  have h := te_under ht (t := t); simp only [hk] at h
  have hj : j.toNat < s.size := by omega
  have hj' : j.toNat < s.data.size := hj
  have e : s[j.toNat]? = some (s.data[j.toNat]) := by
    rw [getElem?_pos s j.toNat hj]; rfl
  have e2 : s.data[j.toNat]? = some s.data[j.toNat] := getElem?_pos s.data j.toNat hj'
  simp [Instr.index, run_under h, run_asIntOf, h0, e, bt, List.getD_eq_getElem?_getD, e2]
theorem index_arr (ht : tabOk P tab = true) {t n e z : Nat} (hk : nth .none tab t = .arr n e z) {cs : Array Value} {k : IntKind} {j : Int} (h0 : 0 ≤ j) (h1 : j < (n : Int)) {v : Value} (hp : Pure P (part e cs (j.toNat * z)) v) :
    Pure P (Instr.index t (.agg cs) (.int k j)) v := fun w => by
  have h := te_under ht (t := t); simp only [hk] at h
  simp [Instr.index, run_under h.1, run_asIntOf, h.2.1, h0, h1, hp w]
theorem sliceBound_ok {k : IntKind} {i : Int} {y : Nat} {code : BoundsCode} (h0 : 0 ≤ i) (h1 : i ≤ (y : Int)) (w : World) : (Instr.sliceBound (.int k i) y code).run P w = .ok i.toNat w := by
  simp [Instr.sliceBound, run_asIntOf, h0, h1]
theorem bounds_h {b : Bool} {n c : Nat} {k : IntKind} {h : Int} (h0 : 0 ≤ h) (h1 : h ≤ (c : Int)) (w : World) : (Instr.sliceBounds b n c .none (some (.int k h)) .none).run P w = .ok (0, h.toNat, c) w := by
  simp [Instr.sliceBounds, sliceBound_ok h0 h1]
theorem bounds_l {b : Bool} {n c : Nat} {k : IntKind} {l : Int} (h0 : 0 ≤ l) (h1 : l ≤ (n : Int)) (w : World) : (Instr.sliceBounds b n c (some (.int k l)) .none .none).run P w = .ok (l.toNat, n, c) w := by
  simp [Instr.sliceBounds, sliceBound_ok h0 h1]
theorem bounds_lh {b : Bool} {n c : Nat} {k k' : IntKind} {l h : Int} (h0 : 0 ≤ h) (h1 : h ≤ (c : Int)) (h2 : 0 ≤ l) (h3 : l ≤ h) (w : World) : (Instr.sliceBounds b n c (some (.int k l)) (some (.int k' h)) .none).run P w = .ok (l.toNat, h.toNat, c) w := by
  have h4 : l ≤ ((h.toNat : Nat) : Int) := by omega
  simp [Instr.sliceBounds, sliceBound_ok h0 h1, sliceBound_ok h2 h4]
theorem bounds_hm {b : Bool} {n c : Nat} {k k' : IntKind} {h m : Int} (h0 : 0 ≤ m) (h1 : m ≤ (c : Int)) (h2 : 0 ≤ h) (h3 : h ≤ m) (w : World) : (Instr.sliceBounds b n c .none (some (.int k h)) (some (.int k' m))).run P w = .ok (0, h.toNat, m.toNat) w := by
  have h4 : h ≤ ((m.toNat : Nat) : Int) := by omega
  simp [Instr.sliceBounds, sliceBound_ok h0 h1, sliceBound_ok h2 h4]
theorem bounds_lhm {b : Bool} {n c : Nat} {k k' k'' : IntKind} {l h m : Int} (h0 : 0 ≤ m) (h1 : m ≤ (c : Int)) (h2 : 0 ≤ h) (h3 : h ≤ m) (h5 : 0 ≤ l) (h6 : l ≤ h) (w : World) :
    (Instr.sliceBounds b n c (some (.int k l)) (some (.int k' h)) (some (.int k'' m))).run P w = .ok (l.toNat, h.toNat, m.toNat) w := by
  have h4 : h ≤ ((m.toNat : Nat) : Int) := by omega
  have h7 : l ≤ ((h.toNat : Nat) : Int) := by omega
  simp [Instr.sliceBounds, sliceBound_ok h0 h1, sliceBound_ok h2 h4, sliceBound_ok h5 h7]
theorem bounds_0 {b : Bool} {n c : Nat} (w : World) : (Instr.sliceBounds b n c .none .none .none).run P w = .ok (0, n, c) w := by simp [Instr.sliceBounds]
theorem slice_str (ht : tabOk P tab = true) {t : Nat} (hk : nth .none tab t = .one .str) {s : ByteArray} {lo hi : Option Value} {l h m : Nat} (hb : ∀ w, (Instr.sliceBounds false s.size s.size lo hi .none).run P w = .ok (l, h, m) w) :
    Pure P (Instr.sliceAt t (.string s) lo hi .none) (.string (s.extract l h)) := fun w => by
  have hu := te_under ht (t := t); simp only [hk] at hu
  simp [Instr.sliceAt, Instr.slice, run_under hu, hb]
theorem slice_sl (ht : tabOk P tab = true) {t e z : Nat} (hk : nth .none tab t = .sl e z) {a : Option Addr} {n c : Nat} {lo hi mx : Option Value} {l h m : Nat} (hb : ∀ w, (Instr.sliceBounds true n c lo hi mx).run P w = .ok (l, h, m) w) :
    Pure P (Instr.sliceAt t (.slice a n c) lo hi mx) (.slice (slA a l m z) (h - l) (m - l)) := fun w => by
  have hu := te_under ht (t := t); simp only [hk] at hu
  simp [Instr.sliceAt, Instr.slice, run_under hu.1, hb, hu.2, slA]
theorem slice_arr (ht : tabOk P tab = true) {t c e z : Nat} (hk : nth .none tab t = .arr c e z) {a : Addr} {lo hi mx : Option Value} {l h m : Nat} (hb : ∀ w, (Instr.sliceBounds false c c lo hi mx).run P w = .ok (l, h, m) w) :
    Pure P (Instr.sliceAt t (.pointer (some a)) lo hi mx) (.slice (slP a l m z) (h - l) (m - l)) := fun w => by
  have hu := te_under ht (t := t); simp only [hk] at hu
  simp [Instr.sliceAt, run_under hu.1, run_sureAddr, hb, hu.2.1, slP]
theorem arrayAt_ok (ht : tabOk P tab = true) {t n e z : Nat} (hk : nth .none tab t = .arr n e z) {a : Option Addr} {l c : Nat} (h : n ≤ l) : Pure P (Instr.arrayAt t (.slice a l c)) (.pointer a) := fun w => by
  have hu := te_under ht (t := t); simp only [hk] at hu
  simp [Instr.arrayAt, run_under hu.1, show ¬ l < n from by omega]
end Go.Sh
namespace Go.Sh
variable {cx : Cx}

theorem opnA_some {v : Option Addr} {K : Addr → Prop} (h : opnA v K) : ∃ a, v = some a ∧ K a := by
  unfold opnA at h; split at h
  · exact ⟨_, rfl, h⟩
  · exact h.elim
theorem guardN_iff {a b : Nat} {p : Prop} (h : guardN a b p) : a < b ∧ p := by
  unfold guardN at h
  cases hb : Nat.blt a b with
  | false => simp [hb] at h
  | true => simp only [hb, cond_true] at h; exact ⟨by simpa [Nat.blt_eq] using hb, h⟩

def Yl (P : Program) (s : Sem Next) (K : Value → Prop) : Prop := ∃ v, (∀ w, s.run P w = .ok (.value v) w) ∧ K v
theorem Yl.of_pure {P : Program} {s : Sem Value} {v : Value} {K : Value → Prop} (h : Pure P s v) (hk : K v) : Yl P (do pure (.value (← s))) K := ⟨v, fun w => by simp [h w], hk⟩
theorem Yl.now {P : Program} {v : Value} {K : Value → Prop} (hk : K v) : Yl P (pure (.value v)) K := ⟨v, fun _ => rfl, hk⟩

theorem eqv_pure {P : Program} {t : Nat} {x y : Value} {r : Bool} (h : ∀ w, (Op.equal t x y).run P w = .ok r w) (h1 : ∀ k a, x ≠ .int k a) (h2 : ∀ k a, x ≠ .float k a) (h3 : ∀ k a b, x ≠ .complex k a b) (h4 : ∀ a, x ≠ .string a) :
    Pure P (binOp .eql t x y) (.bool r) ∧ Pure P (binOp .neq t x y) (.bool (!r)) := by
  constructor <;> intro w <;> cases x <;> first
    | exact absurd rfl (h1 _ _)
    | exact absurd rfl (h2 _ _)
    | exact absurd rfl (h3 _ _ _)
    | exact absurd rfl (h4 _)
    | (simp [binOp, h w])
theorem eq_bool {P : Program} {t : Nat} (h : P.underlying t = some .bool) (a b : Bool) (w : World) : (Op.equal t (.bool a) (.bool b)).run P w = .ok (a == b) w := by
  show (Op.equalIn (9999 + 1) t _ _).run P w = _
  rw [Op.equalIn]; simp [run_under h]
theorem eq_sl {P : Program} {t e : Nat} (h : P.underlying t = some (.slice e)) (a : Option Addr) (n c n' c' : Nat) (w : World) : (Op.equal t (.slice a n c) (.slice .none n' c')).run P w = .ok a.isNone w := by
  show (Op.equalIn (9999 + 1) t _ _).run P w = _
  rw [Op.equalIn]; cases a <;> simp [run_under h]
theorem eq_map {P : Program} {t k e : Nat} (h : P.underlying t = some (.map k e)) (a : Option Nat) (w : World) : (Op.equal t (.map a) (.map .none)).run P w = .ok a.isNone w := by
  show (Op.equalIn (9999 + 1) t _ _).run P w = _
  rw [Op.equalIn]; cases a <;> simp [run_under h]
theorem eqGuard_pure {P : Program} {op : BinOp} {t : Nat} {x y : Operand} {a b : Value} (h1 : ∀ cs ds, ¬ (a = .agg cs ∧ b = .agg ds)) (h2 : ¬ (a = .nilIface ∧ b = .nilIface)) (w : World) : (eqGuard op t x y a b).run P w = .ok () w := by
  unfold eqGuard
  cases a <;> cases b <;> first
    | exact absurd ⟨rfl, rfl⟩ h2
    | exact absurd ⟨rfl, rfl⟩ (h1 _ _)
    | (cases op <;> rfl)

theorem nilPair_pure {P : Program} {tab : List TE} (ht : tabOk P tab = true) {t : Nat} {vx vy : Value} {r : Bool} (hr : isNilPair (nth .none tab t) vx vy = some r) :
    (∀ cs ds, ¬ (vx = .agg cs ∧ vy = .agg ds)) ∧ ¬ (vx = .nilIface ∧ vy = .nilIface) ∧ Pure P (binOp .eql t vx vy) (.bool r) ∧ Pure P (binOp .neq t vx vy) (.bool (!r)) := by
  have hu := te_under ht (t := t)
  cases hk : nth TE.none tab t with
  | sl el z =>
    simp only [hk] at hu
    cases vy <;> simp only [hk, isNilPair] at hr <;> try exact absurd hr (by simp)
    rename_i b _ _
    cases b <;> simp only at hr <;> try exact absurd hr (by simp)
    cases vx <;> simp only [reduceCtorEq] at hr
    injection hr with hr; subst hr; exact ⟨by simp, by simp, eqv_pure (eq_sl hu.1 _ _ _ _ _) (by simp) (by simp) (by simp) (by simp)⟩
  | one t1 =>
    cases t1 <;> cases vy <;> simp only [hk, isNilPair] at hr hu <;> try exact absurd hr (by simp)
    rename_i b
    cases b <;> simp only at hr <;> try exact absurd hr (by simp)
    cases vx <;> simp only [reduceCtorEq] at hr
    obtain ⟨_, _, hu⟩ := hu
    injection hr with hr; subst hr; exact ⟨by simp, by simp, eqv_pure (eq_map hu _) (by simp) (by simp) (by simp) (by simp)⟩
  | arr _ _ _ => simp [hk, isNilPair] at hr
  | strct _ _ _ => simp [hk, isNilPair] at hr
  | tupl _ => simp [hk, isNilPair] at hr
  | none => simp [hk, isNilPair] at hr

variable {e : Env} {a : Act} {K : Value → Prop} {dst : Option Tmp} {type : TypeId} {pos : String} {after : Array Edge} {guard : Option (Nat × Bool)}

theorem evP_binOp (ht : tabOk cx.P cx.tab = true) (g : Ag cx.N e a) {op : BinOp} {t : Nat} {x y : Operand} {u : Nat} (h : evP cx (.binOp op t x y u) e K) : Yl cx.P (execOp a.eval ⟨dst, .binOp op t x y u, type, pos, after, guard⟩) K := by
  have run2 : ∀ {vx vy v : Value}, a.eval x = vx → a.eval y = vy → (∀ cs ds, ¬ (vx = .agg cs ∧ vy = .agg ds)) → ¬ (vx = .nilIface ∧ vy = .nilIface) → Pure cx.P (binOp op t vx vy) v → K v → Yl cx.P (execOp a.eval ⟨dst, .binOp op t x y u, type, pos, after, guard⟩) K := by
    intro vx vy v hx hy h1 h2 hp hk
    refine Yl.of_pure (s := do eqGuard op t x y (a.eval x) (a.eval y); binOp op t (a.eval x) (a.eval y)) (v := v) (fun w => ?_) hk
    rw [hx, hy]; simp [eqGuard_pure h1 h2, hp w]
  simp only [evP] at h
  cases hx : evo e x with
  | none => simp [hx] at h
  | some vx =>
    cases hy : evo e y with
    | none => cases vx <;> simp [hx, hy] at h
    | some vy =>
      have ex := evo_sound g hx
      have ey := evo_sound g hy
      rw [hx, hy] at h
      split at h
      · rename_i k p k' q e1 e2
        cases e1; cases e2
        split at h
        · obtain ⟨h0, h⟩ := nn_iff.1 h; exact run2 ex ey (by simp) (by simp) (shl_sound h0) h
        · obtain ⟨h0, h⟩ := nn_iff.1 h; exact run2 ex ey (by simp) (by simp) (shr_sound h0) h
        · cases hb : Nat.beq (kn k) (kn k') with
          | false => simp [hb] at h
          | true =>
            simp only [hb, cond_true] at h
            have := kn_inj hb; subst this
            obtain ⟨v, hp, hk⟩ := binI_sound (P := cx.P) (t := t) h
            exact run2 ex ey (by simp) (by simp) hp hk
      · rename_i e1 e2; cases e1; cases e2
        obtain ⟨v, hp, hk⟩ := binS_sound (P := cx.P) (t := t) h
        exact run2 ex ey (by simp) (by simp) hp hk
      · rename_i p q e1 e2; cases e1; cases e2
        split at h
        · rename_i hk
          have hu := te_under ht (t := t); simp only [hk] at hu
          exact run2 ex ey (by simp) (by simp) (eqv_pure (eq_bool hu p q) (by simp) (by simp) (by simp) (by simp)).1 h
        · rename_i hk
          have hu := te_under ht (t := t); simp only [hk] at hu
          exact run2 ex ey (by simp) (by simp) (eqv_pure (eq_bool hu p q) (by simp) (by simp) (by simp) (by simp)).2 h
        · exact h.elim
      · rename_i v1 v2 _ _ _ e1 e2; cases e1; cases e2
        have key := fun r => nilPair_pure (P := cx.P) ht (t := t) (vx := vx) (vy := vy) (r := r)
        split at h
        · rename_i r hr; obtain ⟨h1, h2, h3, _⟩ := key r hr; exact run2 ex ey h1 h2 h3 h
        · rename_i r hr; obtain ⟨h1, h2, _, h3⟩ := key r hr; exact run2 ex ey h1 h2 h3 h
        · exact h.elim
      · exact h.elim
end Go.Sh
namespace Go.Sh

def Blind {α : Type} (P : Program) (s : Sem α) : Prop := (∃ v, ∀ w, s.run P w = .ok v w) ∨ (∃ h, ∀ w, s.run P w = .halt h w)
theorem Blind.pure {α : Type} {P : Program} (v : α) : Blind P (Pure.pure v : Sem α) := .inl ⟨v, fun _ => rfl⟩
theorem Blind.bind {α β : Type} {P : Program} {s : Sem α} {k : α → Sem β} (h : Blind P s) (hk : ∀ v, Blind P (k v)) : Blind P (s >>= k) := by
  rcases h with ⟨v, h⟩ | ⟨x, h⟩
  · rcases hk v with ⟨u, g⟩ | ⟨x, g⟩
    · exact .inl ⟨u, fun w => by simp [h w, g w]⟩
    · exact .inr ⟨x, fun w => by simp [h w, g w]⟩
  · exact .inr ⟨x, fun w => by simp [h w]⟩
theorem Blind.stuck {α : Type} {P : Program} (m : String) : Blind P (stuck m : Sem α) := .inr ⟨_, fun _ => rfl⟩
theorem Blind.typeInfo {P : Program} (t : TypeId) : Blind P (typeInfo t) := by
  cases h : P.info? t with
  | none => exact .inr ⟨_, fun w => by simp [Go.typeInfo, h, go_sem, Go.stuck]; rfl⟩
  | some i => exact .inl ⟨i, fun w => by simp [Go.typeInfo, h, go_sem]⟩
theorem Blind.under {P : Program} (t : TypeId) : Blind P (underlying t) := by
  cases h : P.underlying t with
  | none => exact .inr ⟨_, fun w => by simp [Go.underlying, h, go_sem, Go.stuck]; rfl⟩
  | some i => exact .inl ⟨i, fun w => run_under h w⟩
theorem Blind.sizeOf {P : Program} (t : TypeId) : Blind P (sizeOf t) := (Blind.typeInfo t).bind fun _ => .pure _
theorem Blind.zero {P : Program} (t : TypeId) : Blind P (zeroValue t) := by
  refine (Blind.typeInfo t).bind fun i => ?_
  split
  · exact .pure _
  · exact .inr ⟨_, fun _ => rfl⟩
theorem Blind.mapL {α β : Type} {P : Program} {f : α → Sem β} (h : ∀ x, Blind P (f x)) : ∀ l : List α, Blind P (l.mapM f)
  | [] => by simpa using Blind.pure _
  | x :: r => by
    rw [List.mapM_cons]
    exact (h x).bind fun v => (Blind.mapL h r).bind fun vs => .pure _
theorem Blind.mapA {α β : Type} {P : Program} {f : α → Sem β} (h : ∀ x, Blind P (f x)) (l : Array α) : Blind P (l.mapM f) := by
  rw [Array.mapM_eq_mapM_toList]
  rw [map_eq_pure_bind]
  exact (Blind.mapL h _).bind fun _ => .pure _
theorem Blind.semP {P : Program} {s : Sem Value} (h : Blind P s) {K : Value → Prop} (g : semP P s K) : ∃ v, Go.Sh.Pure P s v ∧ K v := by
  unfold Sh.semP at g
  rcases h with ⟨v, h⟩ | ⟨x, h⟩
  · rw [h] at g; exact ⟨v, h, g⟩
  · rw [h] at g; exact g.elim
theorem Blind.build {P : Program} (t : TypeId) (ps : Array (Nat × Value)) : Blind P (Instr.build t ps) := by
  unfold Instr.build
  refine (Blind.zero t).bind fun z => (Blind.under t).bind fun d => ?_
  split
  · refine (Blind.mapA (fun f => (Blind.sizeOf _).bind fun _ => .pure _) _).bind fun _ => ?_
    split
    · exact .pure _
    · exact .stuck _
  · refine (Blind.sizeOf _).bind fun _ => ?_
    split
    · exact .pure _
    · exact .stuck _
  · exact .stuck _

variable {cx : Cx} {e : Env} {a : Act} {K : Value → Prop} {dst : Option Tmp} {type : TypeId} {pos : String} {after : Array Edge} {guard : Option (Nat × Bool)}

theorem evo_k (g : Ag cx.N e a) {x : Operand} {K : Value → Prop} (h : match evo e x with | some v => K v | .none => False) : K (a.eval x) := by
  cases hx : evo e x with
  | none => simp [hx] at h
  | some v => simp only [hx] at h; rw [evo_sound g hx]; exact h
theorem evP_pick (g : Ag cx.N e a) {c x y : Operand} (h : evP cx (.pick c x y) e K) : Yl cx.P (execOp a.eval ⟨dst, .pick c x y, type, pos, after, guard⟩) K := by
  simp only [evP] at h
  split at h
  · rename_i b hc
    have ec := evo_sound g hc
    cases b
    · simp only [cond_false] at h
      exact ⟨a.eval y, fun w => by simp [execOp, ec, asBool], evo_k g h⟩
    · simp only [cond_true] at h
      exact ⟨a.eval x, fun w => by simp [execOp, ec, asBool], evo_k g h⟩
  · exact h.elim
theorem evP_unOp (g : Ag cx.N e a) {op : UnOp} {t : Nat} {x : Operand} (h : evP cx (.unOp op t x) e K) : Yl cx.P (execOp a.eval ⟨dst, .unOp op t x, type, pos, after, guard⟩) K := by
  simp only [evP] at h
  split at h <;> first
    | exact h.elim
    | (rename_i hc; have ec := evo_sound g hc
       exact ⟨_, fun w => by simp [execOp, ec, Op.unary, Op.intArith, Op.intBits]; try rfl, h⟩)
theorem evP_nilCheck (g : Ag cx.N e a) {x : Operand} (h : evP cx (.nilCheck x) e K) : Yl cx.P (execOp a.eval ⟨dst, .nilCheck x, type, pos, after, guard⟩) K := by
  simp only [evP] at h
  split at h
  · rename_i hc; have ec := evo_sound g hc
    obtain ⟨p, rfl, h⟩ := opnA_some h
    exact ⟨_, fun w => by simp [execOp, ec], h⟩
  · rename_i hc; have ec := evo_sound g hc
    exact ⟨_, fun w => by simp [execOp, ec], h⟩
  · exact h.elim
theorem evP_makeFunc (g : Ag cx.N e a) {f : Fn} {u v : Array Operand} (h : evP cx (.makeFunc f u v) e K) : Yl cx.P (execOp a.eval ⟨dst, .makeFunc f u v, type, pos, after, guard⟩) K := by
  simp only [evP] at h
  have h := evos_sound g (evos_sound g h)
  refine ⟨_, fun w => ?_, h⟩
  simp only [execOp, Instr.makeFunc, go_sem]
  simp only [← Array.toList_map, Array.toArray_toList]
  rfl
theorem evP_extract (g : Ag cx.N e a) {x : Operand} {i : Nat} (h : evP cx (.extract x i) e K) : Yl cx.P (execOp a.eval ⟨dst, .extract x i, type, pos, after, guard⟩) K := by
  simp only [evP] at h
  split at h
  · rename_i vs hc; have ec := evo_sound g hc
    split at h
    · rename_i v hv
      exact ⟨v, fun w => by simp [execOp, ec, Instr.extract, show vs[i]? = some v from by simpa using hv], h⟩
    · exact h.elim
  · exact h.elim
theorem evP_lens (g : Ag cx.N e a) {b : Builtin} {args : Array Operand} {ts : Array TypeId} (ht : tabOk cx.P cx.tab = true) (h : evP cx (.call { callee := .builtin b, args, argTypes := ts }) e K) : Yl cx.P (execOp a.eval ⟨dst, .call { callee := .builtin b, args, argTypes := ts }, type, pos, after, guard⟩) K := by
  have go : ∀ {s : Sem Value} {v : Value}, execOp a.eval ⟨dst, .call { callee := .builtin b, args, argTypes := ts }, type, pos, after, guard⟩ = (do pure (.value (← s))) → Pure cx.P s v → K v → Yl cx.P (execOp a.eval ⟨dst, .call { callee := .builtin b, args, argTypes := ts }, type, pos, after, guard⟩) K :=
    fun e hp hk => e ▸ Yl.of_pure hp hk
  simp only [evP] at h
  have aux : ∀ {l : List Operand}, args.toList = l → args.map a.eval = (l.map a.eval).toArray := by rintro l rfl; exact Array.ext' (by simp)
  split at h <;> try exact h.elim
  · rename_i x t hx htt
    split at h <;> try exact h.elim
    · rename_i hk hc; have ec := evo_sound g hc
      have hu := te_under ht (t := t); simp only [hk] at hu
      refine go (s := Builtin.len_ ts type (args.map a.eval)) rfl (fun w => ?_) h
      rw [aux hx]; simp [Builtin.len_, show ts[0]? = some t from by simp [← Array.getElem?_toList, htt], ec, run_under hu.1, goInt]
    · rename_i hk hc; have ec := evo_sound g hc
      have hu := te_under ht (t := t); simp only [hk] at hu
      refine go (s := Builtin.len_ ts type (args.map a.eval)) rfl (fun w => ?_) h
      rw [aux hx]; simp [Builtin.len_, show ts[0]? = some t from by simp [← Array.getElem?_toList, htt], ec, run_under hu, goInt]
    · rename_i hk hc; have ec := evo_sound g hc
      have hu := te_under ht (t := t); simp only [hk] at hu
      refine go (s := Builtin.len_ ts type (args.map a.eval)) rfl (fun w => ?_) h
      rw [aux hx]; simp [Builtin.len_, show ts[0]? = some t from by simp [← Array.getElem?_toList, htt], ec, run_under hu.1, goInt]
  · rename_i x t hx htt
    split at h <;> try exact h.elim
    rename_i hk hc; have ec := evo_sound g hc
    have hu := te_under ht (t := t); simp only [hk] at hu
    refine go (s := Builtin.cap_ ts type (args.map a.eval)) rfl (fun w => ?_) h
    rw [aux hx]; simp [Builtin.cap_, show ts[0]? = some t from by simp [← Array.getElem?_toList, htt], ec, run_under hu.1, goInt]
  · rename_i x y hx
    split at h <;> try exact h.elim
    rename_i hc hd; have ec := evo_sound g hc; have ed := evo_sound g hd
    refine go (s := Builtin.min_ ts type (args.map a.eval)) rfl (fun w => ?_) h
    rw [aux hx]; simp [Builtin.min_, ec, ed, Builtin.min2]
  · rename_i x y hx
    split at h <;> try exact h.elim
    rename_i hc hd; have ec := evo_sound g hc; have ed := evo_sound g hd
    refine go (s := Builtin.max_ ts type (args.map a.eval)) rfl (fun w => ?_) h
    rw [aux hx]; simp [Builtin.max_, ec, ed, Builtin.max2]

theorem evP_convert (g : Ag cx.N e a) (ht : tabOk cx.P cx.tab = true) {s d : Nat} {x : Operand} (h : evP cx (.convert s d x) e K) : Yl cx.P (execOp a.eval ⟨dst, .convert s d x, type, pos, after, guard⟩) K := by
  simp only [evP] at h
  split at h
  · rename_i hs hd hx
    have ex := evo_sound g hx
    have hus := te_under ht (t := s); simp only [hs] at hus
    have hud := te_under ht (t := d); simp only [hd] at hud
    exact ⟨_, fun w => by simp [execOp, convert, ex, run_under hus, run_under hud, Conv.intToInt], h⟩
  · rename_i hs hd hx
    have ex := evo_sound g hx
    have hus := te_under ht (t := s); simp only [hs] at hus
    have hud := te_under ht (t := d); simp only [hd] at hud
    exact ⟨_, fun w => by simp [execOp, convert, ex, run_under hus, run_under hud], h⟩
  · exact h.elim
theorem evP_fieldAddr (g : Ag cx.N e a) (ht : tabOk cx.P cx.tab = true) {t f : Nat} {x : Operand} (h : evP cx (.fieldAddr t x f) e K) : Yl cx.P (execOp a.eval ⟨dst, .fieldAddr t x f, type, pos, after, guard⟩) K := by
  simp only [evP] at h
  split at h
  · rename_i hk hx
    have ex := evo_sound g hx
    obtain ⟨hf, h⟩ := guardN_iff h
    obtain ⟨p, rfl, h⟩ := opnA_some h
    refine Yl.of_pure (s := Instr.fieldAt t (a.eval x) f) ?_ h
    rw [ex]; exact fieldAt_sound ht hk hf p
  · exact h.elim
theorem field_pure (ht : tabOk cx.P cx.tab = true) {t f n : Nat} {ls : List T1} {fl : List (Nat × Nat)} (hk : nth .none cx.tab t = .strct n ls fl) (hf : f < fl.length) {cs : Array Value} {v : Value} (hp : Pure cx.P (part (nth (0, 0) fl f).2 cs (nth (0, 0) fl f).1) v) :
    Pure cx.P (Instr.field t (.agg cs) f) v := fun w => by
  obtain ⟨fs, hu, hm, hc, _⟩ := te_struct ht hk
  obtain ⟨u, hg, hmem, hn⟩ := struct_field hm hf
  rw [hn] at hp
  simp [Instr.field, run_under hu, hg, asAgg, hp w]
theorem field_size (ht : tabOk cx.P cx.tab = true) {t f n : Nat} {ls : List T1} {fl : List (Nat × Nat)} (hk : nth .none cx.tab t = .strct n ls fl) (hf : f < fl.length) : cx.P.cellsOf (nth (0, 0) fl f).2 ≠ 0 := by
  obtain ⟨fs, hu, hm, hc, _⟩ := te_struct ht hk
  obtain ⟨u, hg, hmem, hn⟩ := struct_field hm hf
  rw [hn]; exact hc u hmem
theorem evP_field (g : Ag cx.N e a) (ht : tabOk cx.P cx.tab = true) {t f : Nat} {x : Operand} (h : evP cx (.field t x f) e K) : Yl cx.P (execOp a.eval ⟨dst, .field t x f, type, pos, after, guard⟩) K := by
  have go : ∀ {n : Nat} {ls : List T1} {fl : List (Nat × Nat)} {cs : Array Value} {v : Value}, nth .none cx.tab t = .strct n ls fl → evo e x = some (.agg cs) → f < fl.length → Pure cx.P (part (nth (0, 0) fl f).2 cs (nth (0, 0) fl f).1) v → K v → Yl cx.P (execOp a.eval ⟨dst, .field t x f, type, pos, after, guard⟩) K := by
    intro n ls fl cs v hk hx hf hp hK
    refine Yl.of_pure (s := Instr.field t (a.eval x) f) ?_ hK
    rw [evo_sound g hx]; exact field_pure ht hk hf hp
  have pstr : ∀ {n : Nat} {ls : List T1} {fl : List (Nat × Nat)}, nth .none cx.tab t = .strct n ls fl → f < fl.length → ∀ {n' : Nat} {ls' : List T1} {fl' : List (Nat × Nat)}, nth .none cx.tab (nth (0, 0) fl f).2 = .strct n' ls' fl' → n' ≠ 0 := by
    intro n ls fl hk hf n' ls' fl' hk' h0
    obtain ⟨_, _, _, _, hc⟩ := te_struct ht hk'
    exact field_size ht hk hf (hc.trans h0)
  simp only [evP] at h
  split at h
  · rename_i n l ls fl cs hk hx
    split at h
    · rename_i n' l' ls' fl' hk'
      obtain ⟨hf, h⟩ := guardN_iff h
      refine go hk hx hf ?_ h
      rw [← extract_list]
      exact part_strct ht hk' (pstr hk hf hk') cs _
    · rename_i t1 hk'
      split at h
      · rename_i v hv
        obtain ⟨hf, h⟩ := guardN_iff h
        exact go hk hx hf (part_one (fun w => (te_one ht hk' w).1) (by simpa using hv)) h
      · exact h.elim
    · rename_i hk'
      split at h
      · rename_i v hv
        obtain ⟨hf, h⟩ := guardN_iff h
        exact go hk hx hf (part_one (fun w => (te_sl ht hk' w).1) (by simpa using hv)) h
      · exact h.elim
    · exact h.elim
  · rename_i n fl cs hk hx
    split at h
    · rename_i t1 hk'
      obtain ⟨hf, h⟩ := guardN_iff h
      obtain ⟨v, hv, h⟩ := opn1_sound h
      exact go hk hx hf (part_one (fun w => (te_one ht hk' w).1) hv) h
    · rename_i hk'
      obtain ⟨hf, h⟩ := guardN_iff h
      obtain ⟨v, hv, h⟩ := opn1_sound h
      exact go hk hx hf (part_one (fun w => (te_sl ht hk' w).1) hv) h
    · rename_i hk'
      obtain ⟨hf, h⟩ := guardN_iff h
      exact go hk hx hf (part_arr ht hk' cs _) h
    · rename_i hk'
      obtain ⟨hf, h⟩ := guardN_iff h
      exact go hk hx hf (part_strct ht hk' (pstr hk hf hk') cs _) h
    · rename_i n' l' ls' fl' hk'
      obtain ⟨hf, h⟩ := guardN_iff h
      obtain ⟨v, hv, h⟩ := opn_sound h
      cases hv
      exact go hk hx hf (part_strct ht hk' (pstr hk hf hk') cs _) h
    · exact h.elim
  · exact h.elim
theorem evP_indexAddr (g : Ag cx.N e a) (ht : tabOk cx.P cx.tab = true) {t : Nat} {x i : Operand} (h : evP cx (.indexAddr t x i) e K) : Yl cx.P (execOp a.eval ⟨dst, .indexAddr t x i, type, pos, after, guard⟩) K := by
  simp only [evP] at h
  split at h
  · rename_i hk hx hi
    obtain ⟨h0, h1, h⟩ := h
    obtain ⟨p, rfl, h⟩ := opnA_some h
    refine Yl.of_pure (s := Instr.indexAt t (a.eval x) (a.eval i)) ?_ h
    rw [evo_sound g hx, evo_sound g hi]; exact indexAt_sl ht hk h0 h1
  · rename_i hk hx hi
    obtain ⟨h0, h1, h⟩ := h
    obtain ⟨p, rfl, h⟩ := opnA_some h
    refine Yl.of_pure (s := Instr.indexAt t (a.eval x) (a.eval i)) ?_ h
    rw [evo_sound g hx, evo_sound g hi]; exact indexAt_arr ht hk h0 h1
  · exact h.elim
theorem evP_index (g : Ag cx.N e a) (ht : tabOk cx.P cx.tab = true) {t : Nat} {x i : Operand} (h : evP cx (.index t x i) e K) : Yl cx.P (execOp a.eval ⟨dst, .index t x i, type, pos, after, guard⟩) K := by
  simp only [evP] at h
  split at h
  · rename_i hk hx hi
    obtain ⟨h0, h1, h⟩ := h
    refine Yl.of_pure (s := Instr.index t (a.eval x) (a.eval i)) ?_ h
    rw [evo_sound g hx, evo_sound g hi]; exact index_str ht hk h0 h1
  · rename_i hk hx hi
    have go : ∀ {v : Value}, Pure cx.P (Instr.index t (a.eval x) (a.eval i)) v → K v → Yl cx.P (execOp a.eval ⟨dst, .index t x i, type, pos, after, guard⟩) K := fun hp hk => Yl.of_pure hp hk
    rw [evo_sound g hx, evo_sound g hi] at go
    split at h
    · rename_i hk'
      obtain ⟨h0, h1, h⟩ := h
      obtain ⟨v, hv, h⟩ := opn1_sound h
      exact go (index_arr ht hk h0 h1 (part_one (fun w => (te_one ht hk' w).1) hv)) h
    · rename_i hk'
      obtain ⟨h0, h1, h⟩ := h
      obtain ⟨v, hv, h⟩ := opn1_sound h
      exact go (index_arr ht hk h0 h1 (part_one (fun w => (te_sl ht hk' w).1) hv)) h
    · rename_i hk'
      obtain ⟨h0, h1, h⟩ := h
      exact go (index_arr ht hk h0 h1 (part_arr ht hk' _ _)) h
    · exact h.elim
  · exact h.elim
theorem evP_build (g : Ag cx.N e a) {t : Nat} {ps : Array (Nat × Operand)} (h : evP cx (.build t ps) e K) : Yl cx.P (execOp a.eval ⟨dst, .build t ps, type, pos, after, guard⟩) K := by
  simp only [evP] at h
  have h := evos_sound g h
  obtain ⟨v, hp, h⟩ := (Blind.build t _).semP h
  have e1 : ((ps.toList.map (·.1)).zip ((ps.toList.map (·.2)).map a.eval)).toArray = ps.map fun (i, x) => (i, a.eval x) := by
    apply Array.ext'
    simp only [List.map_map, Array.toList_map]
    induction ps.toList with
    | nil => rfl
    | cons p r ih => simp [ih]
  rw [e1] at hp
  have hK : K v := by
    split at h
    · rename_i n l ls fl _
      cases hv : hasVal (l :: ls) with
      | true =>
        rw [hv, cond_true] at h
        obtain ⟨u, hu, h⟩ := opn_sound h
        cases hu; exact h
      | false =>
        rw [hv, cond_false] at h
        exact h
    · obtain ⟨u, hu, h⟩ := opn_sound h
      cases hu; exact h
  exact Yl.of_pure (s := Instr.build t _) hp hK
theorem evP_toArr (g : Ag cx.N e a) (ht : tabOk cx.P cx.tab = true) {t : Nat} {x : Operand} (h : evP cx (.sliceToArrayPointer t x) e K) : Yl cx.P (execOp a.eval ⟨dst, .sliceToArrayPointer t x, type, pos, after, guard⟩) K := by
  simp only [evP] at h
  split at h
  · rename_i hk hx
    obtain ⟨hl, h⟩ := h
    refine Yl.of_pure (s := Instr.arrayAt t (a.eval x)) ?_ h
    rw [evo_sound g hx]; exact arrayAt_ok ht hk hl
  · exact h.elim
end Go.Sh
namespace Go.Sh
variable {cx : Cx} {e : Env} {a : Act} {K : Value → Prop} {dst : Option Tmp} {type : TypeId} {pos : String} {after : Array Edge} {guard : Option (Nat × Bool)}

theorem evP_slice (g : Ag cx.N e a) (ht : tabOk cx.P cx.tab = true) {t : Nat} {x : Operand} {lo hi mx : Option Operand} (h : evP cx (.slice t x lo hi mx) e K) : Yl cx.P (execOp a.eval ⟨dst, .slice t x lo hi mx, type, pos, after, guard⟩) K := by
  have go : ∀ {v : Value}, Pure cx.P (Instr.sliceAt t (a.eval x) (lo.map a.eval) (hi.map a.eval) (mx.map a.eval)) v → K v → Yl cx.P (execOp a.eval ⟨dst, .slice t x lo hi mx, type, pos, after, guard⟩) K := fun hp hk => Yl.of_pure hp hk
  simp only [evP] at h
  split at h <;> try exact h.elim
  · rename_i hk hx
    have ex := evo_sound g hx
    rw [ex] at go
    split at h <;> try exact h.elim
    · split at h <;> try exact h.elim
      rename_i hh; obtain ⟨h0, h1, h⟩ := h
      have eh := evo_sound g hh
      exact go (slice_str ht hk fun w => by rw [Option.map_some, Option.map_none, eh]; exact bounds_h h0 h1 w) h
    · split at h <;> try exact h.elim
      rename_i hl; obtain ⟨h0, h1, h⟩ := h
      have el := evo_sound g hl
      exact go (slice_str ht hk fun w => by rw [Option.map_some, Option.map_none, el]; exact bounds_l h0 h1 w) h
    · split at h <;> try exact h.elim
      rename_i hl hh; obtain ⟨h0, h1, h2, h3, h⟩ := h
      have el := evo_sound g hl; have eh := evo_sound g hh
      exact go (slice_str ht hk fun w => by rw [Option.map_some, Option.map_some, el, eh]; exact bounds_lh h0 h1 h2 h3 w) h
    · exact go (slice_str ht hk fun w => bounds_0 w) h
  · rename_i hk hx
    have ex := evo_sound g hx
    rw [ex] at go
    split at h <;> try exact h.elim
    · exact go (slice_sl ht hk fun w => bounds_0 w) h
    · split at h <;> try exact h.elim
      rename_i hh; obtain ⟨h0, h1, h⟩ := h
      have eh := evo_sound g hh
      exact go (slice_sl ht hk fun w => by rw [Option.map_some, Option.map_none, eh]; exact bounds_h h0 h1 w) h
    · split at h <;> try exact h.elim
      rename_i hl; obtain ⟨h0, h1, h⟩ := h
      have el := evo_sound g hl
      exact go (slice_sl ht hk fun w => by rw [Option.map_some, Option.map_none, el]; exact bounds_l h0 h1 w) h
    · split at h <;> try exact h.elim
      rename_i hl hh; obtain ⟨h0, h1, h2, h3, h⟩ := h
      have el := evo_sound g hl; have eh := evo_sound g hh
      exact go (slice_sl ht hk fun w => by rw [Option.map_some, Option.map_some, Option.map_none, el, eh]; exact bounds_lh h0 h1 h2 h3 w) h
    · split at h <;> try exact h.elim
      rename_i hh hm; obtain ⟨h0, h1, h2, h3, h⟩ := h
      have eh := evo_sound g hh; have em := evo_sound g hm
      exact go (slice_sl ht hk fun w => by rw [Option.map_some, Option.map_some, Option.map_none, eh, em]; exact bounds_hm h0 h1 h2 h3 w) h
    · split at h <;> try exact h.elim
      rename_i hl hh hm; obtain ⟨h0, h1, h2, h3, h4, h5, h⟩ := h
      have el := evo_sound g hl; have eh := evo_sound g hh; have em := evo_sound g hm
      exact go (slice_sl ht hk fun w => by rw [Option.map_some, Option.map_some, Option.map_some, el, eh, em]; exact bounds_lhm h0 h1 h2 h3 h4 h5 w) h
  · rename_i hk hx
    have ex := evo_sound g hx
    rw [ex] at go
    split at h <;> try exact h.elim
    · obtain ⟨p, rfl, h⟩ := opnA_some h
      exact go (slice_arr ht hk fun w => bounds_0 w) h
    · split at h <;> try exact h.elim
      rename_i hh; obtain ⟨h0, h1, h⟩ := h
      obtain ⟨p, rfl, h⟩ := opnA_some h
      have eh := evo_sound g hh
      exact go (slice_arr ht hk fun w => by rw [Option.map_some, Option.map_none, eh]; exact bounds_h h0 h1 w) h
    · split at h <;> try exact h.elim
      rename_i hl; obtain ⟨h0, h1, h⟩ := h
      obtain ⟨p, rfl, h⟩ := opnA_some h
      have el := evo_sound g hl
      exact go (slice_arr ht hk fun w => by rw [Option.map_some, Option.map_none, el]; exact bounds_l h0 h1 w) h
    · split at h <;> try exact h.elim
      rename_i hl hh; obtain ⟨h0, h1, h2, h3, h⟩ := h
      obtain ⟨p, rfl, h⟩ := opnA_some h
      have el := evo_sound g hl; have eh := evo_sound g hh
      exact go (slice_arr ht hk fun w => by rw [Option.map_some, Option.map_some, Option.map_none, el, eh]; exact bounds_lh h0 h1 h2 h3 w) h

theorem evP_sound (g : Ag cx.N e a) (ht : tabOk cx.P cx.tab = true) {o : Oper} (h : evP cx o.op e K) : Yl cx.P (execOp a.eval o) K := by
  obtain ⟨dst, op, type, pos, after, guard⟩ := o
  simp only at h
  cases op with
  | move x => exact Yl.now (evo_k g (K := K) (by simp only [evP] at h; exact h))
  | assign x => exact Yl.now (evo_k g (K := K) (by simp only [evP] at h; exact h))
  | pick c x y => exact evP_pick g h
  | binOp op t x y u => exact evP_binOp ht g h
  | unOp op t x => exact evP_unOp g h
  | convert s d x => exact evP_convert g ht h
  | nilCheck x => exact evP_nilCheck g h
  | makeFunc f u v => exact evP_makeFunc g h
  | fieldAddr t x f => exact evP_fieldAddr g ht h
  | field t x f => exact evP_field g ht h
  | indexAddr t x i => exact evP_indexAddr g ht h
  | index t x i => exact evP_index g ht h
  | build t ps => exact evP_build g h
  | sliceToArrayPointer t x => exact evP_toArr g ht h
  | extract x i => exact evP_extract g h
  | slice t x lo hi mx => exact evP_slice g ht h
  | call c =>
    obtain ⟨cal, args, ts⟩ := c
    cases cal with
    | builtin b => exact evP_lens g ht h
    | value f => exact (by simp only [evP] at h)
    | invoke r n => exact (by simp only [evP] at h)
  | _ => exact (by simp only [evP] at h)
end Go.Sh
namespace Go.Sh

def Rd (P : Program) (s : Sem Next) (w : World) (K : Value → Prop) : Prop := ∃ v, s.run P w = .ok (.value v) w ∧ K v
theorem Rd.of {P : Program} {s : Sem Value} {w : World} {v : Value} {K : Value → Prop} (h : s.run P w = .ok v w) (hk : K v) : Rd P (do pure (.value (← s))) w K := ⟨v, by simp [h], hk⟩
theorem semR_sound {P : Program} {s : Sem Value} {w : World} {K : Value → Prop} (h : semR P s w K) : ∃ v, s.run P w = .ok v w ∧ K v := by
  unfold semR at h
  split at h
  · rename_i v w' hr; obtain ⟨rfl, h⟩ := h; exact ⟨v, hr, h⟩
  · exact h.elim
theorem run_load_some {P : Program} {a : Addr} {v : Value} {w : World} (h : w.cell? a = some v) : (load a).run P w = .ok v w := by simp [load, Sem.run, h]

theorem loadFrom {P : Program} {a : Addr} {w : World} : ∀ (vs : List Value) (i : Nat) (acc : Array Value), (∀ j, j < vs.length → w.cell? (a.add (i + j)) = vs[j]?) → (loadCellsFrom a i vs.length acc).run P w = .ok (acc ++ vs.toArray) w
  | [], i, acc, _ => by simp [loadCellsFrom]
  | v :: r, i, acc, h => by
    have h0 := h 0 (by simp)
    simp only [Nat.add_zero, List.getElem?_cons_zero] at h0
    simp only [List.length_cons, loadCellsFrom, Sem.run_bind, run_load_some h0, Result.andThen_ok]
    rw [loadFrom r (i + 1) (acc.push v) (fun j hj => by have := h (j + 1) (by simpa using hj); rw [show i + 1 + j = i + (j + 1) from by omega]; simpa using this)]
    congr 1
    apply Array.ext'; simp
theorem load_all {P : Program} {a : Addr} {w : World} {vs : List Value} {n : Nat} (hn : vs.length = n) (h : ∀ j, j < n → w.cell? (a.add j) = vs[j]?) : (loadCells a n).run P w = .ok vs.toArray w := by
  subst hn
  unfold loadCells
  rw [loadFrom vs 0 #[] (fun j hj => by rw [Nat.zero_add]; exact h j hj)]
  simp
theorem ldL_sound {a : Addr} {w : World} : ∀ {l : List T1} {i : Nat} {K : List Value → Prop}, ldL a i l w K → ∃ vs, vs.length = l.length ∧ (∀ j, j < l.length → w.cell? (a.add (i + j)) = vs[j]?) ∧ K vs
  | [], i, K, h => ⟨[], rfl, fun j hj => absurd hj (by simp), h⟩
  | t :: r, i, K, h => by
    simp only [ldL] at h
    obtain ⟨u, hu, h⟩ := opn1_sound h
    obtain ⟨vs, hl, hj, h⟩ := ldL_sound h
    refine ⟨u :: vs, by simp [hl], fun j hjl => ?_, h⟩
    cases j with
    | zero => simpa using hu
    | succ j => have := hj j (by simpa using hjl); rw [show i + (j + 1) = i + 1 + j from by omega]; simpa using this
theorem rowFrom_sound {a : Addr} {w : World} : ∀ {n i : Nat} {l : List Value}, rowFrom w a i n = some l → l.length = n ∧ ∀ j, j < n → w.cell? (a.add (i + j)) = l[j]?
  | 0, i, l, h => by simp only [rowFrom] at h; cases h; exact ⟨rfl, fun j hj => absurd hj (by simp)⟩
  | n + 1, i, l, h => by
    simp only [rowFrom] at h
    split at h
    · rename_i v r hv hr
      cases h
      obtain ⟨hl, hj⟩ := rowFrom_sound hr
      refine ⟨by simp [hl], fun j hjl => ?_⟩
      cases j with
      | zero => simpa using hv
      | succ j => have := hj j (by omega); rw [show i + (j + 1) = i + 1 + j from by omega]; simpa using this
    · cases h
theorem opnRow_sound {P : Program} {w : World} {a : Addr} {n : Nat} {K : Array Value → Prop} (h : opnRow w a n K) : ∃ cs, cs.size = n ∧ (loadCells a n).run P w = .ok cs w ∧ K cs := by
  unfold opnRow at h
  split at h
  · rename_i l hl
    obtain ⟨h1, h2⟩ := rowFrom_sound hl
    exact ⟨l.toArray, by simpa using h1, load_all h1 (fun j hj => by have := h2 j hj; simpa using this), h⟩
  · exact h.elim

theorem size_under {P : Program} {t : Nat} {d : TypeDesc} (h : P.underlying t = some d) (w : World) : (sizeOf t).run P w = .ok (P.cellsOf t) w := by
  cases hi : P.info? t with
  | none => simp [Program.underlying, hi] at h
  | some i => simp [Program.cellsOf, hi, sizeOf, typeInfo, go_sem]

theorem ldT_sound {P : Program} {tab : List TE} (ht : tabOk P tab = true) {t : Nat} {a : Addr} {w : World} {K : Value → Prop} (h : ldT (nth .none tab t) a w K) : ∃ v, (loadVar t a).run P w = .ok v w ∧ K v := by
  unfold ldT at h
  split at h
  · rename_i hk
    obtain ⟨u, hu, h⟩ := opn1_sound h
    exact ⟨u, by simp [loadVar, (te_one ht hk w).1, hu], h⟩
  · rename_i hk
    obtain ⟨u, hu, h⟩ := opn1_sound h
    exact ⟨u, by simp [loadVar, (te_sl ht hk w).1, hu], h⟩
  · rename_i hk
    obtain ⟨cs, _, hl, h⟩ := opnRow_sound (P := P) h
    have hu := te_under ht (t := t); simp only [hk] at hu
    exact ⟨.agg cs, by simp [loadVar, isAgg_of hu.1, hu.2.2, hl], h⟩
  · rename_i hk
    obtain ⟨cs, _, hl, h⟩ := opnRow_sound (P := P) h
    obtain ⟨fs, hu, _, _, hc⟩ := te_struct ht hk
    exact ⟨.agg cs, by simp [loadVar, isAgg_of hu, size_under hu, hc, hl], h⟩
  · rename_i n l ls fl hk
    obtain ⟨vs, hl, hj, h⟩ := ldL_sound h
    obtain ⟨fs, hu, _, _, hc⟩ := te_struct ht hk
    have hn := leaves_ok ht _ _ _ _ hk
    have hl' : vs.length = n := by simp only [List.length_cons] at hn hl; omega
    exact ⟨.agg vs.toArray, by simp [loadVar, isAgg_of hu, size_under hu, hc, load_all (P := P) hl' (fun j hjn => by have := hj j (by rw [← hl, hl']; exact hjn); simpa using this)], h⟩
  · exact h.elim

variable {cx : Cx} {e : Env} {a : Act} {K : Value → Prop} {w : World}

theorem evR_sound (g : Ag cx.N e a) (ht : tabOk cx.P cx.tab = true) {o : Oper} (h : evR cx o.op o.type e w K) : Rd cx.P (execOp a.eval o) w K := by
  obtain ⟨dst, op, type, pos, after, guard⟩ := o
  simp only at h
  cases op with
  | load t x =>
    simp only [evR] at h
    split at h <;> try exact h.elim
    rename_i hx
    obtain ⟨p, rfl, h⟩ := opnA_some h
    obtain ⟨v, hv, h⟩ := ldT_sound (P := cx.P) ht h
    refine Rd.of (s := Instr.loadAt t (a.eval x)) ?_ h
    rw [evo_sound g hx]; simpa [Instr.loadAt, run_sureAddr] using hv
  | lookup t x i ok =>
    simp only [evR] at h
    split at h <;> try exact h.elim
    rename_i hx hi
    obtain ⟨v, hv, h⟩ := semR_sound h
    refine Rd.of (s := Instr.lookup t (a.eval x) (a.eval i) ok) ?_ (opnR_sound h)
    rw [evo_sound g hx, evo_sound g hi]; exact hv
  | convert s d x =>
    simp only [evR] at h
    split at h <;> try exact h.elim
    rename_i hx
    obtain ⟨v, hv, h⟩ := semR_sound h
    unfold opnS at h
    split at h <;> try exact h.elim
    rename_i he; cases he
    refine Rd.of (s := convert s d (a.eval x)) ?_ h
    rw [evo_sound g hx]; exact hv
  | binOp op t x y u =>
    simp only [evR] at h
    split at h <;> try exact h.elim
    rename_i hx hy
    obtain ⟨v, hv, h⟩ := semR_sound h
    unfold opnB at h
    split at h <;> try exact h.elim
    rename_i he; cases he
    refine Rd.of (s := do eqGuard op t x y (a.eval x) (a.eval y); binOp op t (a.eval x) (a.eval y)) ?_ h
    rw [evo_sound g hx, evo_sound g hy]; exact hv
  | call c =>
    obtain ⟨cal, args, ts⟩ := c
    cases cal with
    | builtin b =>
      cases b <;> simp only [evR] at h <;> try exact h.elim
      split at h <;> try exact h.elim
      rename_i x hx
      split at h <;> try exact h.elim
      rename_i hv
      obtain ⟨v, hr, h⟩ := semR_sound h
      unfold opnI at h
      split at h <;> try exact h.elim
      rename_i he; cases he
      obtain ⟨rfl, h⟩ := h
      refine Rd.of (s := Builtin.len_ ts type (args.map a.eval)) ?_ h
      have : args.map a.eval = ([x].map a.eval).toArray := Array.ext' (by simp [hx])
      rw [this, List.map_cons, List.map_nil, evo_sound g hv]; exact hr
    | value f => exact (by simp only [evR] at h)
    | invoke r n => exact (by simp only [evR] at h)
  | _ => exact (by simp only [evR] at h)
end Go.Sh
namespace Go.Sh

theorem Does.of {P : Program} {s : Sem Value} {w w' : World} {v : Value} {K : Value → World → Prop} (h : s.run P w = .ok v w') (hk : K v w') : Does P (do pure (.value (← s))) w K := by
  simp [Does, h, hk]
theorem Does.ofU {P : Program} {s : Sem Unit} {w w' : World} {K : Value → World → Prop} (h : s.run P w = .ok () w') (hk : K undef w') : Does P (do s; pure .skip) w K := by
  simp [Does, h, hk]
theorem Does.mono {P : Program} {s : Sem Next} {w : World} {K K' : Value → World → Prop} (hk : ∀ v w, K v w → K' v w) (h : Does P s w K) : Does P s w K' := by
  unfold Does at *
  split at h <;> first
    | exact hk _ _ h
    | (exact Calls.mono h fun e w he => by cases e <;> first | exact hk _ _ he | exact he)
    | exact h.elim
theorem Yl.rd {P : Program} {s : Sem Next} {K : Value → Prop} (h : Yl P s K) (w : World) : Rd P s w K := by
  obtain ⟨v, hr, hk⟩ := h; exact ⟨v, hr w, hk⟩
theorem Does.wp {P : Program} {o : Oper} {a : Act} {w : World} {next : Act → World → Prop} {Q : Exit → Act → World → Prop} (h : Does P (execOp a.eval o) w fun v w' => next (a.put o.dst v) w') : o.wp P a w next Q := by
  unfold Oper.wp
  unfold Does at h
  generalize (execOp a.eval o).run P w = r at h ⊢
  cases r with
  | halt x w' => exact h.elim
  | ok n w' =>
    cases n <;> simp only at h <;> first
      | exact h.elim
      | exact h
      | (exact Calls.mono h fun e w he => by cases e <;> first | exact he | exact he.elim)

theorem doesC_does {P : Program} {f : FuncId} {args : Array Value} {w : World} {Q : Value → World → Prop} (h : doesC P f args w Q) : Does P (callFunc f args) w Q := by
  unfold doesC at h; rw [lock_eq] at h; exact h
theorem does_doesC {P : Program} {f : FuncId} {args : Array Value} {w : World} {Q : Value → World → Prop} (h : Does P (callFunc f args) w Q) : doesC P f args w Q := by
  unfold doesC; rw [lock_eq]; exact h
theorem sem_sound {P : Program} {s : Sem Value} {w : World} {K : Value → World → Prop} (h : sem P s w K) : ∃ v w', s.run P w = .ok v w' ∧ K v w' := by
  unfold sem at h
  split at h
  · rename_i v w' hr; exact ⟨v, w', hr, h⟩
  · exact h.elim
theorem semU_sound {P : Program} {s : Sem Unit} {w : World} {K : World → Prop} (h : semU P s w K) : ∃ w', s.run P w = .ok () w' ∧ K w' := by
  unfold semU at h
  split at h
  · rename_i w' hr; exact ⟨w', hr, h⟩
  · exact h.elim
theorem run_store {P : Program} {a : Addr} {v : Value} {w : World} {K : World → Prop} (h : stC a v w K) : (store a v).run P w = .ok () (w.setCell a v) ∧ K (w.setCell a v) := by
  obtain ⟨h1, h2, h3, h⟩ := h
  refine ⟨?_, h⟩
  obtain ⟨u, hu⟩ := Option.isSome_iff_exists.1 h2
  cases v <;> first
    | (simp [Value.oneCell'] at h1; done)
    | simp [store, Sem.run, hu, h3]
theorem run_stores {P : Program} {a : Addr} : ∀ {vs : List Value} {i : Nat} {w : World} {K : World → Prop}, stL a i vs w K → ∃ w', (storeCells a vs i).run P w = .ok () w' ∧ K w'
  | [], i, w, K, h => ⟨w, by simp [storeCells], h⟩
  | v :: r, i, w, K, h => by
    simp only [stL] at h
    obtain ⟨h1, h⟩ := run_store (P := P) h
    obtain ⟨w', h2, h⟩ := run_stores (P := P) h
    exact ⟨w', by simp only [storeCells, Sem.run_bind, h1, Result.andThen_ok, h2], h⟩
theorem stT_sound {P : Program} {tab : List TE} (ht : tabOk P tab = true) {t : Nat} {a : Addr} {v : Value} {w : World} {K : World → Prop} (h : stT (nth .none tab t) a v w K) : ∃ w', (storeVar t a v).run P w = .ok () w' ∧ K w' := by
  have one : ∀ {v : Value}, P.cellsOf t = 1 → stC a v w K → ∃ w', (storeVar t a v).run P w = .ok () w' ∧ K w' := by
    intro v hs h
    have hc : v.cells = #[v] := by cases v <;> first | rfl | (have := h.1; simp [Value.oneCell'] at this)
    have h' : stL a 0 [v] w K := by simp only [stL]; exact h
    obtain ⟨w', hr, hk⟩ := run_stores (P := P) h'
    exact ⟨w', by simp only [storeVar, Sem.run_bind, cellsOf_of hs (by simp) w, Result.andThen_ok, hc]; simpa using hr, hk⟩
  have agg : ∀ {cs : Array Value} {n : Nat}, (∀ w, (sizeOf t).run P w = .ok n w) → cs.size = n → stL a 0 cs.toList w K → ∃ w', (storeVar t a (.agg cs)).run P w = .ok () w' ∧ K w' := by
    intro cs n hs hn h
    obtain ⟨w', hr, hk⟩ := run_stores (P := P) h
    refine ⟨w', ?_, hk⟩
    simp only [storeVar, Sem.run_bind, hs, Result.andThen_ok, Value.cells, hn, ne_eq, not_true_eq_false, if_false]
    exact hr
  unfold stT at h
  split at h
  · rename_i hk; exact one (te_one ht hk w).2 h
  · rename_i hk; exact one (te_sl ht hk w).2 h
  · rename_i hk
    obtain ⟨fs, hu, _, _, hc⟩ := te_struct ht hk
    exact agg (fun w => hc ▸ size_under hu w) h.1 h.2
  · rename_i hk
    obtain ⟨fs, hu, _, _, hc⟩ := te_struct ht hk
    exact agg (fun w => hc ▸ size_under hu w) h.1 h.2
  · rename_i hk
    have hu := te_under ht (t := t); simp only [hk] at hu
    exact agg hu.2.2 h.1 h.2
  · exact h.elim
theorem alZ_sound {P : Program} {t : Nat} {w : World} {K : Addr → World → Prop} (h : alZ P t w K) : ∃ p w', (Instr.alloc t true (.tuple #[])).run P w = .ok (.pointer (some p)) w' ∧ K p w' := by
  unfold alZ at h
  split at h
  · rename_i z hz
    cases hi : P.info? t with
    | none => simp [hi] at hz
    | some i =>
      simp only [hi, Option.bind_some] at hz
      refine ⟨_, _, ?_, h⟩
      simp [Instr.alloc, zeroValue, typeInfo, hi, hz, newVar, newRow, newObj, go_sem]
      rfl
  · exact h.elim
theorem take_set_next {x : Value} : ∀ (l : List Value) (k : Nat), k < l.length → (l.set k x).take (k + 1) = l.take k ++ [x]
  | [], k, h => by simp at h
  | y :: l, 0, h => by simp
  | y :: l, k + 1, h => by simp only [List.set_cons_succ, List.take_succ_cons, List.cons_append]; rw [take_set_next l k (by simpa using h)]
theorem fold_key : ∀ (l : List Value) (k : Nat) (c : Array Value), k + l.length = c.size → (l.zipIdx k).foldl (fun d (x : Value × Nat) => d.setIfInBounds x.2 x.1) c = (c.toList.take k ++ l).toArray
  | [], k, c, h => by
    have : k = c.toList.length := by simpa using h
    subst this; simp only [List.zipIdx_nil, List.foldl_nil, List.take_length, List.append_nil, Array.toArray_toList]
  | x :: r, k, c, h => by
    simp only [List.zipIdx_cons, List.foldl_cons]
    simp only [List.length_cons] at h
    rw [fold_key r (k + 1) _ (by simp; omega)]
    have hk : k < c.toList.length := by simp; omega
    rw [Array.toList_setIfInBounds, take_set_next _ _ hk]
    simp
theorem fold_whole (cs c : Array Value) (hc : c.size = cs.size) : cs.zipIdx.foldl (fun d (x : Value × Nat) => d.setIfInBounds x.2 x.1) c = cs := by
  have := fold_key cs.toList 0 c (by simp [hc])
  rw [← Array.foldl_toList]
  simpa using this

variable {cx : Cx} {e : Env} {a : Act} {K : Value → World → Prop} {w : World}

theorem evM_build1 (ht : tabOk cx.P cx.tab = true) {t el z : Nat} {cs : Array Value} (hk : nth .none cx.tab t = .sl el z) {i : TypeInfo} {zv : Value} (hi : cx.P.info? el = some i) (hz : i.zero = some zv) (hle : z ≤ 16777216) (hs : cs.size = z) (w : World) :
    (Instr.buildSlice t 1 #[(0, .agg cs)]).run cx.P w = .ok (.slice (some ⟨w.heap.size, 0, .none⟩) 1 1) (w.alloc (.cells cs el)) := by
  have hu := te_under ht (t := t); simp only [hk] at hu
  have hzero : (zeroValue el).run cx.P w = .ok zv w := by simp [zeroValue, typeInfo, hi, hz, go_sem]
  have hf : ∀ c : Array Value, c.size = z → Instr.fill (fun i => some (i * z, z)) c [(0, .agg cs)] = some cs := by
    intro c hc
    have := fold_whole cs c (by omega)
    simp only [Instr.fill, Nat.zero_mul, Value.cells, hs, hc, Nat.zero_add, ne_eq, not_true_eq_false, Nat.lt_irrefl, gt_iff_lt, decide_false, Bool.or_self, Bool.false_eq_true, if_false, this]
  have hsz : ∀ zc : Array Value, ((Array.range (1 * z)).map (zc[· % zc.size]!)).size = z := by intro zc; simp
  simp only [Instr.buildSlice, Sem.run_bind, run_under hu.1, Result.andThen_ok, hu.2]
  rw [if_neg (by omega)]
  by_cases h0 : 1 * z = 0
  · rw [if_pos h0]
    simp only [Sem.run_bind, Sem.run_pure, Result.andThen_ok]
    rw [hf _ (hsz _)]; rfl
  · rw [if_neg h0]
    simp only [Sem.run_bind, hzero, Sem.run_pure, Result.andThen_ok]
    rw [hf _ (hsz _)]; rfl

theorem evM_sound (g : Ag cx.N e a) (ht : tabOk cx.P cx.tab = true) {o : Oper} (h : evM cx o.op o.type e w K) : Does cx.P (execOp a.eval o) w K := by
  obtain ⟨dst, op, type, pos, after, guard⟩ := o
  simp only at h
  cases op with
  | alloc t =>
    simp only [evM] at h
    obtain ⟨p, w', hr, h⟩ := alZ_sound h
    exact Does.of (s := Instr.alloc t true (.tuple #[])) hr h
  | box t x =>
    simp only [evM] at h
    split at h <;> try exact h.elim
    rename_i v hx
    unfold alC at h
    refine Does.of (s := Instr.box t (a.eval x)) ?_ h
    rw [evo_sound g hx]; rfl
  | store t p x =>
    simp only [evM] at h
    split at h <;> try exact h.elim
    rename_i hp hx
    obtain ⟨q, rfl, h⟩ := opnA_some h
    obtain ⟨w', hr, h⟩ := stT_sound (P := cx.P) ht h
    refine Does.ofU (s := Instr.storeAt t (a.eval p) (a.eval x)) ?_ h
    rw [evo_sound g hp, evo_sound g hx]; simpa [Instr.storeAt, run_sureAddr] using hr
  | buildSlice t n ps =>
    simp only [evM] at h
    have h := evos_sound g h
    have e1 : ((ps.toList.map (·.1)).zip ((ps.toList.map (·.2)).map a.eval)).toArray = ps.map fun (i, x) => (i, a.eval x) := by
      apply Array.ext'
      simp only [List.map_map, Array.toList_map]
      induction ps.toList with
      | nil => rfl
      | cons p r ih => simp [ih]
    have gen : sem cx.P (Instr.buildSlice t n ((ps.toList.map (·.1)).zip ((ps.toList.map (·.2)).map a.eval)).toArray) w K → Does cx.P (execOp a.eval ⟨dst, .buildSlice t n ps, type, pos, after, guard⟩) w K := by
      intro h
      rw [e1] at h
      obtain ⟨v, w', hr, h⟩ := sem_sound h
      exact Does.of (s := Instr.buildSlice t n _) hr h
    split at h
    · rename_i cs el z h1 h2 hk _
      split at h
      · exact gen h
      · split at h <;> try exact h.elim
        rename_i zv hz
        cases hb : Nat.ble z 16777216 with
        | false => simp [hb] at h
        | true =>
          simp only [hb, cond_true] at h
          obtain ⟨hs, h⟩ := h
          cases hi : cx.P.info? el with
          | none => simp [hi] at hz
          | some i =>
            simp only [hi, Option.bind_some] at hz
            unfold alC at h
            refine gen ?_
            rw [h1, h2]
            have hle : z ≤ 16777216 := Nat.le_of_ble_eq_true hb
            have hb1 := evM_build1 ht hk hi hz hle hs w
            show sem cx.P (Instr.buildSlice t 1 #[(0, .agg _)]) w K
            unfold sem
            rw [hb1]; exact h
    · exact gen h
  | makeSlice t l c =>
    simp only [evM] at h
    split at h <;> try exact h.elim
    rename_i hx hy
    obtain ⟨v, w', hr, h⟩ := sem_sound h
    unfold opnL at h
    split at h <;> try exact h.elim
    rename_i he; cases he
    refine Does.of (s := Instr.makeSlice t (a.eval l) (a.eval c)) ?_ h
    rw [evo_sound g hx, evo_sound g hy]; exact hr
  | makeMap t r =>
    cases r with
    | none => exact Does.of (s := Instr.makeMap t .none) rfl h
    | some r =>
      simp only [evM] at h
      split at h <;> try exact h.elim
      rename_i hx
      obtain ⟨v, w', hr, h⟩ := sem_sound h
      unfold opnM at h
      split at h <;> try exact h.elim
      rename_i he; cases he
      refine Does.of (s := Instr.makeMap t (some (a.eval r))) ?_ h
      rw [evo_sound g hx]; exact hr
  | makeInterface t x =>
    simp only [evM] at h
    split at h <;> try exact h.elim
    rename_i hx
    obtain ⟨v, w', hr, h⟩ := sem_sound h
    refine Does.of (s := Instr.makeInterface t (a.eval x)) ?_ h
    rw [evo_sound g hx]; exact hr
  | typeAssert x t u ok =>
    simp only [evM] at h
    split at h <;> try exact h.elim
    rename_i hx
    obtain ⟨v, w', hr, h⟩ := sem_sound h
    refine Does.of (s := Instr.typeAssert (a.eval x) t u ok) ?_ (opnR_sound h)
    rw [evo_sound g hx]; exact hr
  | mapUpdate t m k x =>
    simp only [evM] at h
    split at h <;> try exact h.elim
    rename_i hm hk hx
    obtain ⟨w', hr, h⟩ := semU_sound h
    refine Does.ofU (s := Instr.mapUpdate t (a.eval m) (a.eval k) (a.eval x)) ?_ h
    rw [evo_sound g hm, evo_sound g hk, evo_sound g hx]; exact hr
  | insert t m k x =>
    simp only [evM] at h
    split at h <;> try exact h.elim
    rename_i hm hk hx
    obtain ⟨w', hr, h⟩ := semU_sound h
    refine Does.ofU (s := Instr.mapUpdate t (a.eval m) (a.eval k) (a.eval x)) ?_ h
    rw [evo_sound g hm, evo_sound g hk, evo_sound g hx]; exact hr
  | mapEntry t m k =>
    simp only [evM] at h
    split at h <;> try exact h.elim
    rename_i hm hk
    obtain ⟨v, w', hr, h⟩ := sem_sound h
    refine Does.of (s := Instr.mapEntry t (a.eval m) (a.eval k)) ?_ (opnR_sound h)
    rw [evo_sound g hm, evo_sound g hk]; exact hr
  | entryStore t m s x =>
    simp only [evM] at h
    split at h <;> try exact h.elim
    rename_i hm hk hx
    obtain ⟨w', hr, h⟩ := semU_sound h
    refine Does.ofU (s := Instr.entryStore t (a.eval m) (a.eval s) (a.eval x)) ?_ h
    rw [evo_sound g hm, evo_sound g hk, evo_sound g hx]; exact hr
  | range t x =>
    simp only [evM] at h
    split at h <;> try exact h.elim
    rename_i hx
    obtain ⟨v, w', hr, h⟩ := sem_sound h
    unfold opnP at h
    split at h <;> try exact h.elim
    rename_i he; cases he
    obtain ⟨q, rfl, h⟩ := opnA_some h
    refine Does.of (s := Instr.range t (a.eval x)) ?_ h
    rw [evo_sound g hx]; exact hr
  | next x s =>
    simp only [evM] at h
    split at h <;> try exact h.elim
    rename_i hx
    split at h <;> try exact h.elim
    obtain ⟨v, w', hr, h⟩ := sem_sound h
    refine Does.of (s := Instr.next (a.eval _) s type) (v := v) (w' := w') (by rw [evo_sound g hx]; exact hr) ?_
    unfold opnN at h
    split at h <;> try exact h.elim
    rename_i cs
    split at h <;> try exact h.elim
    · rename_i hcs
      have : cs = #[.bool false] := Array.ext' (by simpa using hcs)
      rw [this]; exact h
    · rename_i k x hcs
      obtain ⟨u, hu, h⟩ := opn_sound h; cases hu
      obtain ⟨u, hu, h⟩ := opn_sound h; cases hu
      have : cs = #[.bool true, k, x] := Array.ext' (by simpa using hcs)
      rw [this]; exact h
  | entry x =>
    simp only [evM] at h
    split at h <;> try exact h.elim
    rename_i hx
    split at h <;> try exact h.elim
    obtain ⟨v, w', hr, h⟩ := sem_sound h
    refine Does.of (s := Instr.entry (a.eval _)) (v := v) (w' := w') (by rw [evo_sound g hx]; exact hr) ?_
    unfold opnT at h
    split at h <;> try exact h.elim
    rename_i cs he; cases he
    obtain ⟨hs, h⟩ := h
    obtain ⟨u1, hu1, h⟩ := opn_sound h
    obtain ⟨u2, hu2, h⟩ := opn_sound h
    have : cs = #[u1, u2] := arr_of_all (vs := [u1, u2]) hs rfl (fun j hj => by match j, hj with | 0, _ => simpa using hu1 | 1, _ => simpa using hu2)
    rw [this]; exact h
  | convert s d x =>
    simp only [evM] at h
    split at h <;> try exact h.elim
    rename_i hx
    obtain ⟨v, w', hr, h⟩ := sem_sound h
    obtain ⟨u, hu, h⟩ := opn_sound h; cases hu
    refine Does.of (s := convert s d (a.eval x)) ?_ h
    rw [evo_sound g hx]; exact hr
  | call c =>
    obtain ⟨cal, args, ts⟩ := c
    have hargs : ((args.toList.map a.eval).toArray) = args.map a.eval := Array.ext' (by simp)
    cases cal with
    | builtin b =>
      cases b <;> simp only [evM] at h <;> try exact h.elim
      all_goals
        have h := evos_sound g h
        rw [hargs] at h
        obtain ⟨v, w', hr, h⟩ := sem_sound h
      · unfold opnL at h
        split at h <;> try exact h.elim
        rename_i he; cases he
        exact Does.of (s := Builtin.append_ ts type (args.map a.eval)) hr h
      · exact Does.of (s := Builtin.clear_ ts type (args.map a.eval)) hr h
      · unfold opnI at h
        split at h <;> try exact h.elim
        rename_i he; cases he
        obtain ⟨rfl, h⟩ := h
        exact Does.of (s := Builtin.copy_ ts type (args.map a.eval)) hr h
      · exact Does.of (s := Builtin.delete_ ts type (args.map a.eval)) hr h
    | value f =>
      simp only [evM] at h
      have call : ∀ {G : Nat} {u v : Array Value}, a.eval f = .func (.func G) u v → Does cx.P (callFunc G (u ++ args.map a.eval ++ v)) w K → Does cx.P (execOp a.eval ⟨dst, .call ⟨.value f, args, ts⟩, type, pos, after, guard⟩) w K := by
        intro G u v hf h
        unfold Does at h ⊢
        simpa [execOp, resolve, hf, Deferred.ofValue, invoke] using h
      split at h <;> try exact h.elim
      · rename_i hd hf
        have h := evos_sound g h
        rw [hargs] at h
        unfold invk at h
        split at h <;> try exact h.elim
        exact call (evo_sound g hf) (Does.mono (fun v w hv => opnR_sound hv) (doesC_does h))
      · rename_i hd hf
        have h := evos_sound g h
        rw [hargs] at h
        exact call (evo_sound g hf) (Does.mono (fun v w hv => opnR_sound hv) (doesC_does h))
    | invoke r n => exact (by simp only [evM] at h)
  | _ => exact (by simp only [evM] at h)
end Go.Sh
namespace Go.Sh
variable {cx : Cx} {e : Env} {a : Act} {w : World}

theorem refine_id {o : Nat} {b : Bool} : ∀ {e : Env}, (∀ x ∈ e, x.2.1 = o → x.2.2 = .bool b) → refine o b e = e
  | [], _ => rfl
  | (s, p, v) :: r, h => by
    simp only [refine]
    rw [refine_id (fun x hx => h x (List.mem_cons_of_mem _ hx))]
    cases hb : Nat.beq p o with
    | false => rfl
    | true =>
      have := h (s, p, v) List.mem_cons_self (Nat.eq_of_beq_eq_true hb)
      simp only at this
      simp [this]
theorem Ag.refine (g : Ag cx.N e a) {d : Nat} {b : Bool} (h : gets e d = some (.bool b)) : refine (orig e d) b e = e :=
  refine_id fun x hx ho => g.same x (d, orig e d, .bool b) hx (gets_mem h) ho

theorem Ag.putV (g : Ag cx.N e a) {d : Nat} (hd : d < cx.N) {v : Value} {o : Nat} (ho : o < cx.N + e.length + 1) (hs : ∀ x ∈ e, x.2.1 = o → x.2.2 = v) : Ag cx.N ((d, o, v) :: e) (a.put (some d) v) where
  size := by simp [Act.put, g.size]
  nodef := by simp [Act.put, g.nodef]
  val := fun t u h => by
    simp only [gets] at h
    cases hb : Nat.beq d t with
    | true =>
      have := Nat.eq_of_beq_eq_true hb; subst this
      simp only [hb, cond_true] at h; cases h
      simp [Act.put, g.size, hd]
    | false =>
      simp only [hb, cond_false] at h
      have hne : d ≠ t := fun e => by subst e; simp at hb
      simp only [Act.put]
      rw [Array.getElem?_setIfInBounds_ne hne]
      exact g.val t u h
  same := fun x y hx hy h => by
    rcases List.mem_cons.1 hx with rfl | hx <;> rcases List.mem_cons.1 hy with rfl | hy
    · rfl
    · exact (hs y hy h.symm).symm
    · exact hs x hx h
    · exact g.same x y hx hy h
  mark := fun x hx => by
    rcases List.mem_cons.1 hx with rfl | hx
    · simpa [Nat.add_assoc] using ho
    · have := g.mark x hx; simp only [List.length_cons]; omega
theorem putU_sound (g : Ag cx.N e a) {o : Oper} {K : Env → Prop} (h : putU cx o e K) : ∃ e', Ag cx.N e' (a.put o.dst undef) ∧ K e' := by
  unfold putU at h
  split at h
  · rename_i hd; rw [hd]; exact ⟨e, g, h⟩
  · rename_i d hd
    rw [hd]
    cases hb : Nat.blt d cx.N with
    | false => simp [hb] at h
    | true =>
      simp only [hb, cond_true] at h
      refine ⟨_, g.putV (by simpa [Nat.blt_eq] using hb) (by omega) (fun x hx hx' => ?_), h⟩
      have := g.mark x hx; omega
theorem putE_sound (g : Ag cx.N e a) {o : Oper} {v : Value} {K : Env → Prop} (hm : ∀ t, (o.op = .move (.tmp t) ∨ o.op = .assign (.tmp t)) → gets e t = some v) (h : putE cx o e v K) : ∃ e', Ag cx.N e' (a.put o.dst v) ∧ K e' := by
  unfold putE at h
  split at h
  · rename_i hd; rw [hd]; exact ⟨e, g, h⟩
  · rename_i d hd
    rw [hd]
    cases hb : Nat.blt d cx.N with
    | false => simp [hb] at h
    | true =>
      simp only [hb, cond_true] at h
      refine ⟨_, g.putV (by simpa [Nat.blt_eq] using hb) ?_ ?_, h⟩
      · split
        · rename_i t ht; have := g.mark _ (gets_mem (hm t (.inl ht))); simp only at this; omega
        · rename_i t ht; have := g.mark _ (gets_mem (hm t (.inr ht))); simp only at this; omega
        · omega
      · intro x hx hx'
        split at hx'
        · rename_i t ht; exact g.same x (t, orig e t, v) hx (gets_mem (hm t (.inl ht))) hx'
        · rename_i t ht; exact g.same x (t, orig e t, v) hx (gets_mem (hm t (.inr ht))) hx'
        · have := g.mark x hx; omega

theorem evP_move {o : Oper} {K : Value → Prop} (h : evP cx o.op e K) {t : Nat} (ht : o.op = .move (.tmp t) ∨ o.op = .assign (.tmp t)) : ∃ v, gets e t = some v ∧ K v := by
  rcases ht with ht | ht <;> rw [ht] at h <;> simp only [evP, evo] at h <;> cases hg : gets e t with
  | none => rw [hg] at h; exact h.elim
  | some v => rw [hg] at h; exact ⟨v, rfl, h⟩
end Go.Sh
namespace Go.Sh
variable {cx : Cx} {e : Env} {a : Act} {w : World}

structure Ok (cx : Cx) : Prop where
  tab : tabOk cx.P cx.tab = true
  mix : cx.P.follows .mixedOrders = true

theorem cls_move {o : Op} {t : Nat} (h : o = .move (.tmp t) ∨ o = .assign (.tmp t)) : cls cx o = 0 := by rcases h with rfl | rfl <;> rfl

theorem op0 (k : Ok cx) (g : Ag cx.N e a) {o : Oper} {K : Env → Prop} (h : evP cx o.op e fun v => putE cx o e v K) :
    ∃ v, (∀ w, (execOp a.eval o).run cx.P w = .ok (.value v) w) ∧ ∃ e', Ag cx.N e' (a.put o.dst v) ∧ K e' := by
  by_cases hm : ∃ t, o.op = .move (.tmp t) ∨ o.op = .assign (.tmp t)
  · obtain ⟨t, ht⟩ := hm
    obtain ⟨u, hu, hp⟩ := evP_move h ht
    have h2 : evP cx o.op e fun v => v = u ∧ putE cx o e v K := by
      rcases ht with ht | ht <;> rw [ht] <;> simp only [evP, evo, hu] <;> exact ⟨trivial, hp⟩
    obtain ⟨v, hr, hv, hp⟩ := evP_sound g k.tab h2
    refine ⟨v, hr, putE_sound g (fun t' ht' => ?_) hp⟩
    have : t' = t := by rcases ht with ht | ht <;> rcases ht' with ht' | ht' <;> rw [ht] at ht' <;> cases ht' <;> rfl
    subst this; rw [hv]; exact hu
  · obtain ⟨v, hr, hp⟩ := evP_sound g k.tab h
    exact ⟨v, hr, putE_sound g (fun t ht => absurd ⟨t, ht⟩ hm) hp⟩
theorem op1 (k : Ok cx) (g : Ag cx.N e a) {o : Oper} (hc : cls cx o.op ≠ 0) {K : Value → Env → Prop} (h : evR cx o.op o.type e w fun v => putE cx o e v (K v)) :
    ∃ v, (execOp a.eval o).run cx.P w = .ok (.value v) w ∧ ∃ e', Ag cx.N e' (a.put o.dst v) ∧ K v e' := by
  obtain ⟨v, hr, hp⟩ := evR_sound g k.tab h
  exact ⟨v, hr, putE_sound g (fun t ht => absurd (cls_move ht) hc) hp⟩
theorem op2 (k : Ok cx) (g : Ag cx.N e a) {o : Oper} (hc : cls cx o.op ≠ 0) {K : Value → World → Prop} (h : evM cx o.op o.type e w K) :
    Does cx.P (execOp a.eval o) w fun v w' => K v w' ∧ ∀ K' : Env → Prop, putE cx o e v K' → ∃ e', Ag cx.N e' (a.put o.dst v) ∧ K' e' :=
  Does.mono (fun v w' hk => ⟨hk, fun K' hp => putE_sound g (fun t ht => absurd (cls_move ht) hc) hp⟩) (evM_sound g k.tab h)
theorem opAny (k : Ok cx) (g : Ag cx.N e a) {o : Oper} {K : Env → World → Prop} (h : evOp cx o e w fun v w' => putE cx o e v fun e' => K e' w') :
    Does cx.P (execOp a.eval o) w fun v w' => ∃ e', Ag cx.N e' (a.put o.dst v) ∧ K e' w' := by
  unfold evOp at h
  split at h
  · obtain ⟨v, hr, hp⟩ := op0 k g h
    unfold Does; rw [hr w]; exact hp
  · rename_i hc
    obtain ⟨v, hr, hp⟩ := op1 (K := fun _ e' => K e' w) k g (by rw [hc]; simp) h
    unfold Does; rw [hr]; exact hp
  · rename_i h0 h1
    exact Does.mono (fun v w' hk => hk.2 _ hk.1) (op2 k g h0 h)

theorem nth_dst {ops : Array Oper} {j d : Nat} (h : nth .none (ops.toList.map (·.dst)) j = some d) : (ops[j]?).bind (·.dst) = some d := by
  have key : ∀ (l : List Oper) (j : Nat), nth .none (l.map (·.dst)) j = some d → (l[j]?).bind (·.dst) = some d := by
    intro l
    induction l with
    | nil => intro j h; cases h
    | cons x r ih => intro j h; cases j with
      | zero => simpa [nth] using h
      | succ j => simpa using ih j h
  simpa using key ops.toList j h
theorem wanted_bool {ops : Array Oper} (g : Ag cx.N e a) {o : Oper} {j d : Nat} {want b : Bool} (hg : o.guard = some (j, want)) (hd : nth .none (ops.toList.map (·.dst)) j = some d) (hb : gets e d = some (.bool b)) : Region.wanted o (yielded ops a.tmps) = (b == want) := by
  have h1 := g.val d _ hb
  simp only [Region.wanted, hg, yielded, nth_dst hd, Option.bind_some, h1]
  cases b <;> cases want <;> rfl
theorem wanted_tuple {ops : Array Oper} (g : Ag cx.N e a) {o : Oper} {j d : Nat} {want : Bool} {vs : Array Value} (hg : o.guard = some (j, want)) (hd : nth .none (ops.toList.map (·.dst)) j = some d) (hb : gets e d = some (.tuple vs)) : Region.wanted o (yielded ops a.tmps) = false := by
  have h1 := g.val d _ hb
  simp only [Region.wanted, hg, yielded, nth_dst hd, Option.bind_some, h1]
  cases want <;> rfl
theorem wanted_none {ops : Array Oper} {o : Oper} (hg : o.guard = .none) : Region.wanted o (yielded ops a.tmps) = true := by simp [Region.wanted, hg]

def guarded (dsts : List (Option Nat)) (o : Oper) (e : Env) (X Y : Env → Prop) : Prop :=
  match o.guard with
  | .none => X e
  | some (j, want) => match nth .none dsts j with
    | .none => False
    | some d => match gets e d with
      | some (.bool b) => cond b
          (match want with
            | true => X (refine (orig e d) true e)
            | false => Y (refine (orig e d) true e))
          (match want with
            | true => Y (refine (orig e d) false e)
            | false => X (refine (orig e d) false e))
      | some (.tuple _) => Y e
      | _ => False
theorem guarded_sound {ops : Array Oper} (g : Ag cx.N e a) {o : Oper} {X Y : Env → Prop} (h : guarded (ops.toList.map (·.dst)) o e X Y) :
    (Region.wanted o (yielded ops a.tmps) = true ∧ X e) ∨ (Region.wanted o (yielded ops a.tmps) = false ∧ Y e) := by
  unfold guarded at h
  split at h
  · rename_i hg; exact .inl ⟨wanted_none hg, h⟩
  · rename_i j want hg
    split at h
    · exact h.elim
    · rename_i d hd
      split at h
      · rename_i b hb
        have hw := wanted_bool g hg hd hb
        have hr := g.refine hb
        cases b <;> simp only [cond_true, cond_false] at h <;> rw [hr] at h <;> cases want <;> first
          | exact .inl ⟨hw, h⟩
          | exact .inr ⟨hw, h⟩
      · rename_i hb; exact .inr ⟨wanted_tuple g hg hd hb, h⟩
      · exact h.elim
theorem evOps_guarded {dsts : List (Option Nat)} {o : Oper} {r : List Oper} {K : Env → World → Prop} (h : evOps cx dsts (o :: r) e w K) :
    guarded dsts o e (fun e => evOp cx o e w fun v w' => putE cx o e v fun e' => evOps cx dsts r e' w' K) (fun e => putU cx o e fun e' => evOps cx dsts r e' w K) := by
  simp only [evOps] at h
  exact h
theorem wpOp_of {ops : Array Oper} {Q : Exit → Act → World → Prop} (k : Ok cx) (g : Ag cx.N e a) {i : Nat} {o : Oper} (hi : ops[i]? = some o) {r : List Oper} {K : Env → World → Prop} (h : evOps cx (ops.toList.map (·.dst)) (o :: r) e w K) :
    wpOp cx.P ops Q i (fun a' w' => ∃ e', Ag cx.N e' a' ∧ evOps cx (ops.toList.map (·.dst)) r e' w' K) a w := by
  unfold wpOp
  simp only [hi]
  rcases guarded_sound g (evOps_guarded h) with ⟨hw, h⟩ | ⟨hw, h⟩
  · rw [hw, if_pos rfl]
    exact .inl (Does.wp (opAny k g h))
  · rw [hw, if_neg (by simp)]
    exact putU_sound g h
def QN (N : Nat) (K : Env → World → Prop) : Exit → Act → World → Prop
  | .normal, a, w => ∃ e, Ag N e a ∧ K e w
  | _, _, _ => False
theorem wpOps_of {ops : Array Oper} (k : Ok cx) {K : Env → World → Prop} : ∀ (l : List Nat) (os : List Oper) {e : Env} {a : Act} {w : World}, l.map (ops[·]?) = os.map some → Ag cx.N e a → evOps cx (ops.toList.map (·.dst)) os e w K → wpOps cx.P ops (QN cx.N K) l a w
  | [], os, e, a, w, hl, g, h => by
    cases os with
    | nil => exact ⟨e, g, h⟩
    | cons _ _ => simp at hl
  | i :: l, os, e, a, w, hl, g, h => by
    cases os with
    | nil => simp at hl
    | cons o os =>
      simp only [List.map_cons, List.cons.injEq] at hl
      rw [wpOps_cons]
      exact wpOp_mono (fun a' w' ⟨e', g', h'⟩ => wpOps_of k l os hl.2 g' h') (wpOp_of k g hl.1 h)
theorem region_text {ops : Array Oper} (k : Ok cx) (g : Ag cx.N e a) {id : Nat} {K : Env → World → Prop} (h : evRegion cx ops false e w K) : (Code.region id ops false).wp cx.P (QN cx.N K) a w := by
  refine wp_region (wpOps_of k _ ops.toList ?_ g h)
  apply List.ext_getElem?
  intro i
  by_cases hi : i < ops.size
  · simp [List.getElem?_range hi, hi]
  · rw [List.getElem?_eq_none (by simp; omega), List.getElem?_eq_none (by simp; omega)]
end Go.Sh
namespace Go.Sh
section
variable {P : Program} {ops : Array Oper} {cl : Op → Nat} {ms : List Nat}

def Stab (P : Program) (ops : Array Oper) (m : Nat) (D : List (Nat × Value)) (a : Act) (w : World) : Prop :=
  ∀ j v, (j, v) ∈ D → has m j = false → ∀ o, ops[j]? = some o → (execOp a.eval o).run P w = .ok (.value v) w
def cstep (P : Program) (ops : Array Oper) (cl : Op → Nat) (ms : List Nat) (i : Nat) (D : List (Nat × Value)) (a : Act) (w : World) (R : List (Nat × Value) → Act → World → Prop) : Prop :=
  ∃ o, ops[i]? = some o ∧
    ((Region.wanted o (yielded ops a.tmps) = false ∧ R D (a.put o.dst undef) w) ∨
     (Region.wanted o (yielded ops a.tmps) = true ∧
      ((cl o.op = 0 ∧ ∃ v, (∀ w, (execOp a.eval o).run P w = .ok (.value v) w) ∧ R D (a.put o.dst v) w) ∨
       (cl o.op = 1 ∧ ∃ v, (execOp a.eval o).run P w = .ok (.value v) w ∧ R ((i, v) :: D) (a.put o.dst v) w) ∨
       (cl o.op ≠ 0 ∧ cl o.op ≠ 1 ∧ Does P (execOp a.eval o) w fun v w' => Stab P ops (nth 0 ms i) D a w' ∧ R D (a.put o.dst v) w'))))
def wpC (P : Program) (ops : Array Oper) (cl : Op → Nat) (ms : List Nat) (K : Act → World → Prop) : List Nat → List (Nat × Value) → Act → World → Prop
  | [], _, a, w => K a w
  | i :: r, D, a, w => cstep P ops cl ms i D a w (wpC P ops cl ms K r)

theorem cstep_sub {i : Nat} {D D' : List (Nat × Value)} {a : Act} {w : World} {R R' : List (Nat × Value) → Act → World → Prop} (hD : ∀ x ∈ D', x ∈ D) (h : ∀ D D' a w, (∀ x ∈ D', x ∈ D) → R D a w → R' D' a w) (hc : cstep P ops cl ms i D a w R) : cstep P ops cl ms i D' a w R' := by
  obtain ⟨o, ho, hc⟩ := hc
  refine ⟨o, ho, ?_⟩
  rcases hc with ⟨hw, hc⟩ | ⟨hw, ⟨h0, v, hv, hc⟩ | ⟨h1, v, hv, hc⟩ | ⟨h0, h1, hc⟩⟩
  · exact .inl ⟨hw, h _ _ _ _ hD hc⟩
  · exact .inr ⟨hw, .inl ⟨h0, v, hv, h _ _ _ _ hD hc⟩⟩
  · refine .inr ⟨hw, .inr (.inl ⟨h1, v, hv, h _ _ _ _ (fun x hx => ?_) hc⟩)⟩
    rcases List.mem_cons.1 hx with rfl | hx
    · exact List.mem_cons_self
    · exact List.mem_cons_of_mem _ (hD x hx)
  · exact .inr ⟨hw, .inr (.inr ⟨h0, h1, Does.mono (fun v w hk => ⟨fun j v hj => hk.1 j v (hD _ hj), h _ _ _ _ hD hk.2⟩) hc⟩)⟩
theorem wpC_sub {K : Act → World → Prop} : ∀ (l : List Nat) (D D' : List (Nat × Value)) (a : Act) (w : World), (∀ x ∈ D', x ∈ D) → wpC P ops cl ms K l D a w → wpC P ops cl ms K l D' a w
  | [], _, _, _, _, _, h => h
  | _ :: r, _, _, _, _, hD, h => cstep_sub hD (wpC_sub r) h

structure Free (ops : Array Oper) (cl : Op → Nat) (ms : List Nat) (p i : Nat) (op oi : Oper) : Prop where
  apart : op.apart ops oi = true
  kind : cl op.op = 0 ∨ (cl op.op = 1 ∧ (cl oi.op ≠ 0 → cl oi.op ≠ 1 → (∀ d, op.dst = some d → d ∉ op.looksAt ops) ∧ has (nth 0 ms i) p = false))

theorem cswap {p i : Nat} {op oi : Oper} (hp : ops[p]? = some op) (hi : ops[i]? = some oi) (F : Free ops cl ms p i op oi) (hsel : Region.noSelect ops = true)
    {D : List (Nat × Value)} (hD : ∀ j v, (j, v) ∈ D → ∀ oj, ops[j]? = some oj → ∀ d, op.dst = some d → d ∉ oj.looksAt ops)
    {R : List (Nat × Value) → Act → World → Prop} (hR : ∀ D D' a w, (∀ x ∈ D', x ∈ D) → R D a w → R D' a w) {a : Act} {w : World}
    (h : cstep P ops cl ms p D a w fun D a w => cstep P ops cl ms i D a w R) : cstep P ops cl ms i D a w fun D a w => cstep P ops cl ms p D a w R := by
  obtain ⟨h1, h2, h3⟩ := Oper.apart_spec F.apart
  have sp := fun cs b => Region.noSelect_spec hsel p op cs b hp
  have si := fun cs b => Region.noSelect_spec hsel i oi cs b hi
  have ei : ∀ (a : Act) v, execOp (a.put op.dst v).eval oi = execOp a.eval oi := fun a v => execOp_put oi si a op.dst v h1
  have wi : ∀ (a : Act) v, Region.wanted oi (yielded ops (a.put op.dst v).tmps) = Region.wanted oi (yielded ops a.tmps) := fun a v => wanted_put oi a op.dst v h1
  have ep : ∀ (a : Act) v, execOp (a.put oi.dst v).eval op = execOp a.eval op := fun a v => execOp_put op sp a oi.dst v h3
  have wp : ∀ (a : Act) v, Region.wanted op (yielded ops (a.put oi.dst v).tmps) = Region.wanted op (yielded ops a.tmps) := fun a v => wanted_put op a oi.dst v h3
  have sD : ∀ m (a : Act) v w, Stab P ops m D (a.put op.dst v) w → Stab P ops m D a w := fun m a v w hs j u hj hh o ho => by
    have := hs j u hj hh o ho
    rwa [execOp_put o (fun cs b => Region.noSelect_spec hsel j o cs b ho) a op.dst v (hD j u hj o ho)] at this
  obtain ⟨o, ho, h⟩ := h
  rw [hp] at ho; cases ho
  rcases h with ⟨hw, o, ho, h⟩ | ⟨hw, ⟨h0, u, hu, o, ho, h⟩ | ⟨hp1, u, hu, o, ho, h⟩ | ⟨hn0, hn1, _⟩⟩
  · rw [hi] at ho; cases ho
    simp only [wi, ei] at h
    refine ⟨oi, hi, ?_⟩
    rcases h with ⟨hv, h⟩ | ⟨hv, ⟨k0, v, hr, h⟩ | ⟨k1, v, hr, h⟩ | ⟨k0, k1, h⟩⟩
    · exact .inl ⟨hv, op, hp, .inl ⟨by rw [wp]; exact hw, by rw [← Act.put_comm a undef undef h2]; exact h⟩⟩
    · exact .inr ⟨hv, .inl ⟨k0, v, hr, op, hp, .inl ⟨by rw [wp]; exact hw, by rw [← Act.put_comm a undef v h2]; exact h⟩⟩⟩
    · exact .inr ⟨hv, .inr (.inl ⟨k1, v, hr, op, hp, .inl ⟨by rw [wp]; exact hw, by rw [← Act.put_comm a undef v h2]; exact h⟩⟩)⟩
    · exact .inr ⟨hv, .inr (.inr ⟨k0, k1, Does.mono (fun v w hk => ⟨sD _ _ _ _ hk.1, op, hp, .inl ⟨by rw [wp]; exact hw, by rw [← Act.put_comm a undef v h2]; exact hk.2⟩⟩) h⟩)⟩
  · rw [hi] at ho; cases ho
    simp only [wi, ei] at h
    refine ⟨oi, hi, ?_⟩
    rcases h with ⟨hv, h⟩ | ⟨hv, ⟨k0, v, hr, h⟩ | ⟨k1, v, hr, h⟩ | ⟨k0, k1, h⟩⟩
    · exact .inl ⟨hv, op, hp, .inr ⟨by rw [wp]; exact hw, .inl ⟨h0, u, fun w => by rw [ep]; exact hu w, by rw [← Act.put_comm a u undef h2]; exact h⟩⟩⟩
    · exact .inr ⟨hv, .inl ⟨k0, v, hr, op, hp, .inr ⟨by rw [wp]; exact hw, .inl ⟨h0, u, fun w => by rw [ep]; exact hu w, by rw [← Act.put_comm a u v h2]; exact h⟩⟩⟩⟩
    · exact .inr ⟨hv, .inr (.inl ⟨k1, v, hr, op, hp, .inr ⟨by rw [wp]; exact hw, .inl ⟨h0, u, fun w => by rw [ep]; exact hu w, by rw [← Act.put_comm a u v h2]; exact h⟩⟩⟩)⟩
    · exact .inr ⟨hv, .inr (.inr ⟨k0, k1, Does.mono (fun v w hk => ⟨sD _ _ _ _ hk.1, op, hp, .inr ⟨by rw [wp]; exact hw, .inl ⟨h0, u, fun w => by rw [ep]; exact hu w, by rw [← Act.put_comm a u v h2]; exact hk.2⟩⟩⟩) h⟩)⟩
  · rw [hi] at ho; cases ho
    simp only [wi, ei] at h
    refine ⟨oi, hi, ?_⟩
    rcases h with ⟨hv, h⟩ | ⟨hv, ⟨k0, v, hr, h⟩ | ⟨k1, v, hr, h⟩ | ⟨k0, k1, h⟩⟩
    · exact .inl ⟨hv, op, hp, .inr ⟨by rw [wp]; exact hw, .inr (.inl ⟨hp1, u, by rw [ep]; exact hu, by rw [← Act.put_comm a u undef h2]; exact h⟩)⟩⟩
    · exact .inr ⟨hv, .inl ⟨k0, v, hr, op, hp, .inr ⟨by rw [wp]; exact hw, .inr (.inl ⟨hp1, u, by rw [ep]; exact hu, by rw [← Act.put_comm a u v h2]; exact h⟩)⟩⟩⟩
    · exact .inr ⟨hv, .inr (.inl ⟨k1, v, hr, op, hp, .inr ⟨by rw [wp]; exact hw, .inr (.inl ⟨hp1, u, by rw [ep]; exact hu, by
        rw [← Act.put_comm a u v h2]
        exact hR _ _ _ _ (fun x hx => by simp only [List.mem_cons] at hx ⊢; rcases hx with rfl | rfl | hx <;> simp_all) h⟩)⟩⟩)⟩
    · refine .inr ⟨hv, .inr (.inr ⟨k0, k1, Does.mono (fun v w' hk => ?_) h⟩)⟩
      obtain ⟨hs, hk⟩ := hk
      have hkind : (∀ d, op.dst = some d → d ∉ op.looksAt ops) ∧ has (nth 0 ms i) p = false := by
        rcases F.kind with hk0 | ⟨_, hk1⟩
        · rw [hk0] at hp1; cases hp1
        · exact hk1 k0 k1
      refine ⟨sD _ _ u _ (fun j v hj => hs j v (List.mem_cons_of_mem _ hj)), op, hp, .inr ⟨by rw [wp]; exact hw, .inr (.inl ⟨hp1, u, ?_, by rw [← Act.put_comm a u v h2]; exact hk⟩)⟩⟩
      have := hs p u List.mem_cons_self hkind.2 op hp
      rw [execOp_put op sp a op.dst u hkind.1] at this
      rw [ep]; exact this
  · rcases F.kind with hk0 | ⟨hk1, _⟩
    · exact absurd hk0 hn0
    · exact absurd hk1 hn1
end
end Go.Sh
namespace Go.Sh
section
variable {P : Program} {ops : Array Oper} {cl : Op → Nat} {ms : List Nat}

theorem cstep_mono' {i : Nat} {D : List (Nat × Value)} {a : Act} {w : World} {R R' : List (Nat × Value) → Act → World → Prop}
    (h : ∀ D' a w, (D' = D ∨ ∃ v o, D' = (i, v) :: D ∧ ops[i]? = some o ∧ cl o.op = 1) → R D' a w → R' D' a w) (hc : cstep P ops cl ms i D a w R) : cstep P ops cl ms i D a w R' := by
  obtain ⟨o, ho, hc⟩ := hc
  refine ⟨o, ho, ?_⟩
  rcases hc with ⟨hw, hc⟩ | ⟨hw, ⟨h0, v, hv, hc⟩ | ⟨h1, v, hv, hc⟩ | ⟨h0, h1, hc⟩⟩
  · exact .inl ⟨hw, h _ _ _ (.inl rfl) hc⟩
  · exact .inr ⟨hw, .inl ⟨h0, v, hv, h _ _ _ (.inl rfl) hc⟩⟩
  · exact .inr ⟨hw, .inr (.inl ⟨h1, v, hv, h _ _ _ (.inr ⟨v, o, rfl, ho, h1⟩) hc⟩)⟩
  · exact .inr ⟨hw, .inr (.inr ⟨h0, h1, Does.mono (fun v w hk => ⟨hk.1, h _ _ _ (.inl rfl) hk.2⟩) hc⟩)⟩

def NoHit (ops : Array Oper) (q j : Nat) : Prop := ∀ oq oj, ops[q]? = some oq → ops[j]? = some oj → ∀ d, oq.dst = some d → d ∉ oj.looksAt ops
structure PairR (ops : Array Oper) (cl : Op → Nat) (ms : List Nat) (p q : Nat) : Prop where
  hit : ∀ op, ops[p]? = some op → cl op.op = 1 → NoHit ops q p
  late : ∀ op, ops[p]? = some op → ∀ e ∈ op.after, Region.binds .any e = true → e.on ≠ q
  free : has (nth 0 ms q) p = true ∨ ∀ op oq, ops[p]? = some op → ops[q]? = some oq → Free ops cl ms p q op oq
def DOk (ops : Array Oper) (l : List Nat) (D : List (Nat × Value)) : Prop := ∀ j v, (j, v) ∈ D → ∀ p ∈ l, NoHit ops p j

theorem front (hsel : Region.noSelect ops = true) {K : Act → World → Prop} {i : Nat} {oi : Oper} (hi : ops[i]? = some oi) {post : List Nat} : ∀ (pre : List Nat), (pre ++ i :: post).Pairwise (PairR ops cl ms) → (∀ p ∈ pre, has (nth 0 ms i) p = false) → ∀ (D : List (Nat × Value)), DOk ops (pre ++ i :: post) D → ∀ a w,
    wpC P ops cl ms K (pre ++ i :: post) D a w → wpC P ops cl ms K (i :: (pre ++ post)) D a w
  | [], _, _, _, _, _, _, h => h
  | p :: pre, hpw, hno, D, hD, a, w, h => by
    simp only [List.cons_append, List.pairwise_cons] at hpw
    obtain ⟨hp1, hpw⟩ := hpw
    have hip : PairR ops cl ms p i := hp1 i (by simp)
    have h2 : cstep P ops cl ms p D a w fun D a w => cstep P ops cl ms i D a w (wpC P ops cl ms K (pre ++ post)) := by
      refine cstep_mono' (fun D' a' w' hd hr => ?_) h
      refine front hsel hi pre hpw (fun q hq => hno q (List.mem_cons_of_mem _ hq)) D' ?_ a' w' hr
      intro j v hj q hq
      rcases hd with rfl | ⟨u, o, rfl, ho, h1⟩
      · exact hD j v hj q (List.mem_cons_of_mem _ hq)
      · rcases List.mem_cons.1 hj with heq | hj
        · cases heq; exact (hp1 q hq).hit o ho h1
        · exact hD j v hj q (List.mem_cons_of_mem _ hq)
    obtain ⟨op, hop, _⟩ := h
    have hF := (hip.free.resolve_left (by rw [hno p List.mem_cons_self]; simp)) op oi hop hi
    exact cswap hop hi hF hsel (fun j v hj oj hoj d hd => hD j v hj p (List.mem_cons_self) op oj hop hoj d hd) (fun D D' a w hs hk => wpC_sub _ D D' a w hs hk) h2

theorem any_of {Q : Exit → Act → World → Prop} (hsel : Region.noSelect ops = true)
    (hdep : ∀ j x oj, ops[j]? = some oj → x < ops.size → has (nth 0 ms j) x = true → ∃ e ∈ oj.after, Region.binds .any e = true ∧ (e.on = x ∨ has (nth 0 ms e.on) x = true))
    (hself : ∀ p op, ops[p]? = some op → ∀ e ∈ op.after, Region.binds .any e = true → e.on < ops.size ∧ e.on ≠ p) :
    ∀ (fuel : Nat) (l : List Nat) (D : List (Nat × Value)) (listed : Array Bool) (a : Act) (w : World),
      l.length ≤ fuel → l.Pairwise (PairR ops cl ms) → l.Nodup → DOk ops l D →
      (∀ i, i ∈ l ↔ i < ops.size ∧ listed.getD i true = false) → listed.size = ops.size →
      (∀ q p, q < ops.size → q ∉ l → p < ops.size → has (nth 0 ms q) p = true → p ∉ l) →
      wpC P ops cl ms (Q .normal) l D a w → wpAny P .any ops Q fuel listed a w := by
  intro fuel
  induction fuel with
  | zero =>
    intro l D listed a w hl _ _ _ hmem _ _ h
    have : l = [] := List.length_eq_zero_iff.1 (by omega)
    subst this
    refine ⟨?_, h⟩
    rw [List.eq_nil_iff_forall_not_mem]
    intro i hi
    obtain ⟨h0, o, ho, _⟩ := mem_ready.1 hi
    exact absurd ((hmem i).2 ⟨(Array.getElem?_eq_some_iff.1 ho).1, h0⟩) (by simp)
  | succ fuel ih =>
    intro l D listed a w hl hpw hnd hD hmem hsz hcl h
    have hlisted : ∀ j, j < ops.size → j ∉ l → listed.getD j false = true := by
      intro j hj hn
      have : ¬ listed.getD j true = false := fun h => hn ((hmem j).2 ⟨hj, h⟩)
      have hj' : j < listed.size := by omega
      simp only [Array.getD_eq_getD_getElem?, Array.getElem?_eq_getElem hj', Option.getD_some] at this ⊢
      cases hb : listed[j] with
      | true => rfl
      | false => exact absurd hb this
    have hunl : ∀ j, j ∈ l → listed.getD j false = false := by
      intro j hj
      obtain ⟨h1, h2⟩ := (hmem j).1 hj
      have hj' : j < listed.size := by omega
      simpa only [Array.getD_eq_getD_getElem?, Array.getElem?_eq_getElem hj', Option.getD_some] using h2
    refine ⟨fun hnil => ?_, fun i hi => ?_⟩
    · cases l with
      | nil => exact h
      | cons i r =>
        exfalso
        obtain ⟨h1, h2⟩ := (hmem i).1 List.mem_cons_self
        have : i ∈ Region.ready .any ops listed := by
          refine mem_ready.2 ⟨h2, ops[i], by simp [h1], fun e he hb => ?_⟩
          obtain ⟨hlt, hne⟩ := hself i ops[i] (by simp [h1]) e he hb
          refine hlisted _ hlt fun hin => ?_
          rcases List.mem_cons.1 hin with heq | hin
          · exact hne heq
          · exact ((List.pairwise_cons.1 hpw).1 e.on hin).late ops[i] (by simp [h1]) e he hb rfl
        rw [hnil] at this; cases this
    · obtain ⟨h0, oi, hoi, hall⟩ := mem_ready.1 hi
      have hisz := (Array.getElem?_eq_some_iff.1 hoi).1
      have hil : i ∈ l := (hmem i).2 ⟨hisz, h0⟩
      have hno : ∀ p ∈ l, has (nth 0 ms i) p = false := by
        intro p hp
        cases hh : has (nth 0 ms i) p with
        | false => rfl
        | true =>
          exfalso
          have hpsz := ((hmem p).1 hp).1
          obtain ⟨e, he, hb, heq⟩ := hdep i p oi hoi hpsz hh
          have hlt := (hself i oi hoi e he hb).1
          have hli := hall e he hb
          have hnl : e.on ∉ l := fun hin => by rw [hunl _ hin] at hli; cases hli
          rcases heq with rfl | heq
          · exact hnl hp
          · exact hcl e.on p hlt hnl hpsz heq hp
      obtain ⟨pre, post, rfl⟩ := List.append_of_mem hil
      have h := front hsel hoi pre hpw (fun p hp => hno p (by simp [hp])) D hD a w h
      have hnd' := List.nodup_append.1 hnd
      have hi1 : i ∉ pre := fun hin => hnd'.2.2 i hin i List.mem_cons_self rfl
      have hi2 : i ∉ post := (List.nodup_cons.1 hnd'.2.1).1
      have hml : ∀ j, j ∈ pre ++ post ↔ j ∈ pre ++ i :: post ∧ j ≠ i := by
        intro j
        simp only [List.mem_append, List.mem_cons]
        constructor
        · rintro (hj | hj)
          · exact ⟨.inl hj, fun e => hi1 (e ▸ hj)⟩
          · exact ⟨.inr (.inr hj), fun e => hi2 (e ▸ hj)⟩
        · rintro ⟨hj | rfl | hj, hne⟩
          · exact .inl hj
          · exact absurd rfl hne
          · exact .inr hj
      have hpw' : (pre ++ post).Pairwise (PairR ops cl ms) := hpw.sublist (List.Sublist.append_left (List.sublist_cons_self i post) pre)
      have go : ∀ D' a' w', DOk ops (pre ++ post) D' → wpC P ops cl ms (Q .normal) (pre ++ post) D' a' w' → wpAny P .any ops Q fuel (listed.setIfInBounds i true) a' w' := by
        intro D' a' w' hD' h'
        refine ih (pre ++ post) D' _ a' w' (by simp at hl ⊢; omega) hpw' (hnd.sublist (List.Sublist.append_left (List.sublist_cons_self i post) pre)) hD' (fun j => ?_) (by simp [hsz]) (fun q p hq hnq hp hh hin => ?_) h'
        · rw [hml, hmem]
          by_cases hji : j = i
          · subst hji; simp [hsz, hisz]
          · rw [getD_set_ne true (Ne.symm hji)]; simp [hji]
        · rw [hml] at hin
          by_cases hqi : q = i
          · subst hqi; rw [hno p hin.1] at hh; cases hh
          · exact hcl q p hq (fun hql => hnq ((hml q).2 ⟨hql, hqi⟩)) hp hh hin.1
      have hD0 : DOk ops (pre ++ post) D := fun j v hj p hp => hD j v hj p ((hml p).1 hp).1
      have hD1 : cl oi.op = 1 → ∀ v, DOk ops (pre ++ post) ((i, v) :: D) := by
        intro h1 v j u hj p hp
        rcases List.mem_cons.1 hj with heq | hj
        · cases heq
          rcases List.mem_append.1 hp with hp | hp
          · intro op oj hop hoj d hd
            rw [hoi] at hoj; cases hoj
            have hpair := (List.pairwise_append.1 hpw).2.2 p hp i List.mem_cons_self
            have hF := hpair.free.resolve_left (by rw [hno p (by simp [hp])]; simp) op oi hop hoi
            exact (Oper.apart_spec hF.apart).1 d hd
          · exact ((List.pairwise_cons.1 (List.pairwise_append.1 hpw).2.1).1 p hp).hit oi hoi h1
        · exact hD0 j u hj p hp
      obtain ⟨o, ho, h⟩ := h
      rw [hoi] at ho; cases ho
      unfold wpOp
      simp only [hoi]
      rcases h with ⟨hw, h⟩ | ⟨hw, ⟨c0, v, hv, h⟩ | ⟨c1, v, hv, h⟩ | ⟨c0, c1, h⟩⟩
      · rw [hw, if_neg (by simp)]; exact go _ _ _ hD0 h
      · rw [hw, if_pos rfl]
        exact .inl (Does.wp (by unfold Does; rw [hv w]; exact go _ _ _ hD0 h))
      · rw [hw, if_pos rfl]
        exact .inl (Does.wp (by unfold Does; rw [hv]; exact go _ _ _ (hD1 c1 v) h))
      · rw [hw, if_pos rfl]
        exact .inl (Does.wp (Does.mono (fun v w' hk => go _ _ _ hD0 hk.2) h))
end
end Go.Sh
namespace Go.Sh

theorem pigeon : ∀ (n : Nat) (l : List Nat), l.Nodup → (∀ x ∈ l, x < n) → l.length ≤ n
  | 0, l, _, h => by
    cases l with
    | nil => simp
    | cons x r => exact absurd (h x List.mem_cons_self) (by omega)
  | n + 1, l, hn, h => by
    have h1 := pigeon n (l.erase n) (hn.erase n) (fun x hx => by
      have := (hn.mem_erase_iff).1 hx
      have := h x this.2
      omega)
    by_cases hm : n ∈ l
    · rw [List.length_erase_of_mem hm] at h1; omega
    · rw [List.erase_of_not_mem hm] at h1; omega
theorem full {l : List Nat} {n : Nat} (hn : l.Nodup) (h : ∀ x ∈ l, x < n) (hl : l.length = n) {i : Nat} (hi : i < n) : i ∈ l := by
  by_cases hm : i ∈ l
  · exact hm
  · have := pigeon n (i :: l) (List.nodup_cons.2 ⟨hm, hn⟩) (fun x hx => by rcases List.mem_cons.1 hx with rfl | hx; exact hi; exact h x hx)
    simp at this; omega
theorem distinct_nodup : ∀ {l : List Nat}, distinct l = true → l.Nodup
  | [], _ => List.nodup_nil
  | x :: r, h => by
    simp only [distinct] at h
    cases hb : r.any (Nat.beq x) with
    | true => simp [hb] at h
    | false =>
      simp only [hb, cond_false] at h
      refine List.nodup_cons.2 ⟨fun hx => ?_, distinct_nodup h⟩
      have := List.any_eq_false.1 hb x hx
      simp at this
theorem binds_eq (e : Edge) : binds e = Region.binds .any e := by
  unfold binds Region.binds
  cases e.ground <;> rfl
theorem cond3 {a b c : Bool} : cond a b c = true ↔ (a = true ∧ b = true) ∨ (a = false ∧ c = true) := by cases a <;> simp
theorem cond_and {a b : Bool} (h : cond a b false = true) : a = true ∧ b = true := by cases a <;> simp_all
theorem nbeq {a b : Nat} : Nat.beq a b = true ↔ a = b := ⟨Nat.eq_of_beq_eq_true, fun h => h ▸ Nat.beq_refl a⟩

section
variable {cx : Cx} {ops : Array Oper}
theorem frontOk_spec : ∀ (l done : List Nat), frontOk ops done l = true → (∀ x ∈ done, x ∉ l) → l.Nodup → (∀ x ∈ done, x < ops.size) →
    (∀ p ∈ l, p < ops.size) ∧ (l.Pairwise fun p q => ∀ op, ops[p]? = some op → ∀ e ∈ op.after, Region.binds .any e = true → e.on ≠ q) ∧
    ∀ p ∈ l, ∀ op, ops[p]? = some op → ∀ e ∈ op.after, Region.binds .any e = true → e.on < ops.size ∧ e.on ≠ p
  | [], done, _, _, _, _ => ⟨by simp, .nil, by simp⟩
  | i :: r, done, h, hd, hn, hs => by
    simp only [frontOk] at h
    obtain ⟨h1, h2⟩ := cond_and h
    cases ho : ops.toList[i]? with
    | none => simp [ho] at h1
    | some o =>
      simp only [ho] at h1
      have ho' : ops[i]? = some o := by simpa using ho
      have hi : i < ops.size := (Array.getElem?_eq_some_iff.1 ho').1
      have key : ∀ e ∈ o.after, Region.binds .any e = true → e.on ∈ done := by
        intro e he hb
        have := List.all_eq_true.1 h1 e (by simpa using he)
        rw [binds_eq, hb, cond_true] at this
        obtain ⟨x, hx, hxe⟩ := List.any_eq_true.1 this
        rw [nbeq.1 hxe]; exact hx
      obtain ⟨hni, hnr⟩ := List.nodup_cons.1 hn
      obtain ⟨g1, g2, g3⟩ := frontOk_spec r (i :: done) h2 (fun x hx => by
        rcases List.mem_cons.1 hx with rfl | hx
        · exact hni
        · exact fun hxr => hd x hx (List.mem_cons_of_mem _ hxr)) hnr (fun x hx => by rcases List.mem_cons.1 hx with rfl | hx; exact hi; exact hs x hx)
      refine ⟨fun p hp => ?_, List.pairwise_cons.2 ⟨fun q hq op hop e he hb heq => ?_, g2⟩, fun p hp op hop e he hb => ?_⟩
      · rcases List.mem_cons.1 hp with rfl | hp; exact hi; exact g1 p hp
      · rw [ho'] at hop; cases hop
        exact hd e.on (key e he hb) (heq ▸ List.mem_cons_of_mem _ hq)
      · rcases List.mem_cons.1 hp with rfl | hp
        · rw [ho'] at hop; cases hop
          have := key e he hb
          exact ⟨hs _ this, fun heq => hd e.on this (heq ▸ List.mem_cons_self)⟩
        · exact g3 p hp op hop e he hb

theorem pairOk_spec {ms : List Nat} {x y : Nat} (h : pairOk cx ops ms x y = true) :
    (∀ op, ops[x]? = some op → cls cx op.op = 1 → NoHit ops y x) ∧ (has (nth 0 ms y) x = true ∨ ∀ op oq, ops[x]? = some op → ops[y]? = some oq → Free ops (cls cx) ms x y op oq) := by
  unfold pairOk at h
  split at h
  · rename_i ox oy hx hy
    have hx' : ops[x]? = some ox := by simpa using hx
    have hy' : ops[y]? = some oy := by simpa using hy
    rcases cond3.1 h with ⟨hh, h⟩ | ⟨hh, h⟩
    · refine ⟨fun op hop hc oq oj hoq hoj d hd => ?_, .inl hh⟩
      rw [hx'] at hop hoj; cases hop; cases hoj
      rw [hy'] at hoq; cases hoq
      simp only [hc, hd] at h
      simpa using h
    · obtain ⟨hap, h⟩ := cond_and h
      obtain ⟨a1, a2, a3⟩ := Oper.apart_spec hap
      refine ⟨fun op hop hc oq oj hoq hoj d hd => ?_, .inr fun op oq hop hoq => ?_⟩
      · rw [hx'] at hoj; cases hoj
        rw [hy'] at hoq; cases hoq
        exact a3 d hd
      · rw [hx'] at hop; cases hop
        rw [hy'] at hoq; cases hoq
        refine ⟨hap, ?_⟩
        split at h
        · rename_i h0; exact .inl h0
        · rename_i h1 h0; exact .inr ⟨h1, fun k0 k1 => absurd h0 k0⟩
        · rename_i h1 h0; exact .inr ⟨h1, fun k0 k1 => absurd h0 k1⟩
        · rename_i h1 _ _
          refine .inr ⟨h1, fun k0 k1 => ⟨fun d hd => ?_, hh⟩⟩
          simp only [hd] at h
          simpa using h
        · cases h
  · cases h
theorem pairsOk_spec {ms : List Nat} : ∀ {l : List Nat}, pairsOk cx ops ms l = true → l.Pairwise fun x y => pairOk cx ops ms x y = true
  | [], _ => .nil
  | x :: r, h => by
    simp only [pairsOk] at h
    obtain ⟨h1, h2⟩ := cond_and h
    exact List.pairwise_cons.2 ⟨fun y hy => List.all_eq_true.1 h1 y hy, pairsOk_spec h2⟩
theorem regOk_any {Q : Exit → Act → World → Prop} {ord : List Nat} (h : regOk cx ops ord = true) {a : Act} {w : World} (hw : wpC cx.P ops (cls cx) (masks ops) (Q .normal) ord [] a w) :
    wpAny cx.P .any ops Q ops.size (Array.replicate ops.size false) a w := by
  unfold regOk at h
  obtain ⟨hlen, h⟩ := cond_and h
  obtain ⟨hdis, h⟩ := cond_and h
  obtain ⟨hfr, h⟩ := cond_and h
  obtain ⟨hpr, h⟩ := cond_and h
  obtain ⟨hdep, hsel⟩ := cond_and h
  have hlen := nbeq.1 hlen
  have hnd := distinct_nodup hdis
  obtain ⟨f1, f2, f3⟩ := frontOk_spec ord [] hfr (by simp) hnd (by simp)
  have hall : ∀ i, i < ops.size → i ∈ ord := fun i hi => full hnd f1 hlen hi
  have hin : ∀ p op, ops[p]? = some op → p ∈ ord := fun p op hp => hall p (Array.getElem?_eq_some_iff.1 hp).1
  refine any_of hsel (fun j x oj hj hx hh => ?_) (fun p op hp => f3 p (hin p op hp) op hp) ops.size ord [] _ a w (by omega) ?_ hnd (fun _ _ h => by cases h) (fun i => ?_) (by simp) (fun q p hq hn => absurd (hall q hq) hn) hw
  · have hj' := (Array.getElem?_eq_some_iff.1 hj).1
    have := List.all_eq_true.1 hdep j (List.mem_range.2 hj')
    unfold depOk at this
    simp only [show ops.toList[j]? = some oj from by simpa using hj] at this
    have := List.all_eq_true.1 this x (List.mem_range.2 hx)
    rw [hh, cond_true] at this
    obtain ⟨e, he, hb⟩ := List.any_eq_true.1 this
    obtain ⟨hb1, hb2⟩ := cond_and hb
    refine ⟨e, by simpa using he, by rw [← binds_eq]; exact hb1, ?_⟩
    rcases cond3.1 hb2 with ⟨h1, _⟩ | ⟨_, h1⟩
    · exact .inl (nbeq.1 h1)
    · exact .inr h1
  · refine (List.Pairwise.and f2 (pairsOk_spec hpr)).imp fun {x y} hxy => ?_
    obtain ⟨p1, p2⟩ := pairOk_spec hxy.2
    exact ⟨p1, hxy.1, p2⟩
  · constructor
    · intro hi; have := f1 i hi; exact ⟨this, by simp [this]⟩
    · intro hi; exact hall i hi.1
end
end Go.Sh
namespace Go.Sh
section
variable {cx : Cx} {ops : Array Oper} {e : Env} {a : Act} {w : World}

theorem stab_sound (k : Ok cx) (g : Ag cx.N e a) {m : Nat} {p : Prop} : ∀ {D : List (Nat × Value)}, stab cx ops m e w p D → Stab cx.P ops m D a w ∧ p
  | [], h => ⟨(fun _ _ hj => by cases hj), h⟩
  | (j, v) :: D, h => by
    simp only [stab] at h
    cases hh : has m j with
    | true =>
      simp only [hh, cond_true] at h
      obtain ⟨h1, h2⟩ := stab_sound k g h
      refine ⟨fun j' v' hj hh' => ?_, h2⟩
      rcases List.mem_cons.1 hj with heq | hj
      · cases heq; rw [hh] at hh'; cases hh'
      · exact h1 j' v' hj hh'
    | false =>
      simp only [hh, cond_false] at h
      split at h
      · rename_i o ho
        obtain ⟨hr, h⟩ := h
        obtain ⟨h1, h2⟩ := stab_sound k g h
        refine ⟨fun j' v' hj hh' o' ho' => ?_, h2⟩
        rcases List.mem_cons.1 hj with heq | hj
        · cases heq
          have : ops[j]? = some o := by simpa using ho
          rw [this] at ho'; cases ho'
          obtain ⟨u, hu, hv⟩ := evR_sound g k.tab hr
          rw [← hv]; exact hu
        · exact h1 j' v' hj hh' o' ho'
      · exact h.elim
theorem evOrd_guarded {ms : List Nat} {dsts : List (Option Nat)} {K : Env → World → Prop} {i : Nat} {r : List Nat} {D : List (Nat × Value)} (h : evOrd cx ops ms dsts K (i :: r) D e w) :
    ∃ o, ops[i]? = some o ∧ guarded dsts o e (fun e => evStep cx ops ms i o D e w fun D' e' w' => evOrd cx ops ms dsts K r D' e' w') (fun e => putU cx o e fun e' => evOrd cx ops ms dsts K r D e' w) := by
  simp only [evOrd] at h
  split at h
  · exact h.elim
  · rename_i o ho
    exact ⟨o, by simpa using ho, h⟩
theorem ord_wpC (k : Ok cx) {ms : List Nat} {K : Env → World → Prop} : ∀ (r : List Nat) (D : List (Nat × Value)) {e : Env} {a : Act} {w : World}, Ag cx.N e a → evOrd cx ops ms (ops.toList.map (·.dst)) K r D e w → wpC cx.P ops (cls cx) ms (fun a w => ∃ e, Ag cx.N e a ∧ K e w) r D a w
  | [], D, e, a, w, g, h => ⟨e, g, h⟩
  | i :: r, D, e, a, w, g, h => by
    obtain ⟨o, ho, h⟩ := evOrd_guarded h
    refine ⟨o, ho, ?_⟩
    rcases guarded_sound g h with ⟨hw, h⟩ | ⟨hw, h⟩
    · refine .inr ⟨hw, ?_⟩
      unfold evStep at h
      split at h
      · rename_i hc
        obtain ⟨v, hr, e', g', h⟩ := op0 k g h
        exact .inl ⟨hc, v, hr, ord_wpC k r D g' h⟩
      · rename_i hc
        obtain ⟨v, hr, e', g', h⟩ := op1 k g (by rw [hc]; simp) h
        exact .inr (.inl ⟨hc, v, hr, ord_wpC k r _ g' h⟩)
      · rename_i h0 h1
        refine .inr (.inr ⟨h0, h1, Does.mono (fun v w' hk => ?_) (op2 k g h0 h)⟩)
        obtain ⟨hs, hp⟩ := hk
        obtain ⟨s1, s2⟩ := stab_sound k g hs
        obtain ⟨e', g', h⟩ := hp _ s2
        exact ⟨s1, ord_wpC k r D g' h⟩
    · obtain ⟨e', g', h⟩ := putU_sound g h
      exact .inl ⟨hw, ord_wpC k r D g' h⟩

theorem andL_mem : ∀ {l : List Prop} {p : Prop}, andL l → p ∈ l → p
  | [p], q, h, hq => by rw [List.mem_singleton] at hq; subst hq; exact h
  | p :: q :: r, x, h, hx => by
    simp only [andL] at h
    rcases List.mem_cons.1 hx with rfl | hx
    · exact h.1
    · exact andL_mem h.2 hx
theorem firstPure_spec {listed : Array Bool} {i : Nat} {o : Oper} : ∀ {l : List Nat}, firstPure cx ops listed l = some (i, o) → i ∈ l ∧ ops[i]? = some o ∧ cls cx o.op = 0 ∧ Region.free .any ops listed i = true
  | [], h => by cases h
  | j :: r, h => by
    simp only [firstPure] at h
    split at h
    · rename_i o' ho
      rcases hb : (cond (Nat.beq (cls cx o'.op) 0) (Region.free .any ops listed j) false) with _ | _
      · rw [hb, cond_false] at h
        obtain ⟨h1, h2⟩ := firstPure_spec h
        exact ⟨List.mem_cons_of_mem _ h1, h2⟩
      · rw [hb, cond_true] at h
        cases h
        obtain ⟨b1, b2⟩ := cond_and hb
        exact ⟨List.mem_cons_self, ho, nbeq.1 b1, b2⟩
    · obtain ⟨h1, h2⟩ := firstPure_spec h
      exact ⟨List.mem_cons_of_mem _ h1, h2⟩
theorem any_sound (k : Ok cx) (hsel : Region.noSelect ops = true) {K : Env → World → Prop} : ∀ (n : Nat) (listed : Array Bool) {e : Env} {a : Act} {w : World}, Ag cx.N e a → evAny cx ops (ops.toList.map (·.dst)) K n listed e w → wpAny cx.P .any ops (QN cx.N K) n listed a w
  | 0, listed, e, a, w, g, h => by
    simp only [evAny] at h
    split at h
    · rename_i hr; exact ⟨hr, e, g, h⟩
    · exact h.elim
  | n + 1, listed, e, a, w, g, h => by
    simp only [evAny] at h
    split at h
    · rename_i hr; exact wpAny_done hr ⟨e, g, h⟩ _
    · rename_i hne
      split at h
      · rename_i i o hf
        obtain ⟨h1, h2, h3, h4⟩ := firstPure_spec hf
        have hy : ∃ v, Yields cx.P ops o v a ∧ ∃ e', Ag cx.N e' (a.put o.dst v) ∧ evAny cx ops (ops.toList.map (·.dst)) K n (listed.setIfInBounds i true) e' w := by
          rcases guarded_sound g (evOps_guarded h) with ⟨hw, h⟩ | ⟨hw, h⟩
          · unfold evOp at h
            rw [h3] at h
            obtain ⟨v, hr, hp⟩ := op0 k g h
            exact ⟨v, .inl ⟨hw, hr⟩, hp⟩
          · exact ⟨undef, .inr ⟨hw, rfl⟩, putU_sound g h⟩
        obtain ⟨v, hy, e', g', h⟩ := hy
        exact wpAny_take h2 hsel h4 (by simpa using h1) (fun _ _ _ hq => hq) hy (any_sound k hsel n _ g' h)
      · refine wpAny_all rfl (fun heq => hne heq) fun i hi => ?_
        have := andL_mem h (List.mem_map.2 ⟨i, hi, rfl⟩)
        split at this
        · rename_i o ho
          exact wpOp_mono (fun a' w' ⟨e', g', h'⟩ => any_sound k hsel n _ g' h') (wpOp_of k g ho this)
        · exact this.elim

end
end Go.Sh
namespace Go.Sh
inductive OT where
  | leaf
  | light (i : Nat) (t : OT)
  | heavy (l : List Nat) (f : Nat → OT)
section
variable {P : Program} {ops : Array Oper} {cl : Op → Nat} {ms : List Nat}
def wpT (P : Program) (ops : Array Oper) (cl : Op → Nat) (ms : List Nat) (K : Act → World → Prop) : OT → List (Nat × Value) → Act → World → Prop
  | .leaf, _, a, w => K a w
  | .light i t, D, a, w => cstep P ops cl ms i D a w (wpT P ops cl ms K t)
  | .heavy l f, D, a, w => ∀ i ∈ l, cstep P ops cl ms i D a w (wpT P ops cl ms K (f i))
theorem wpT_sub {K : Act → World → Prop} : ∀ (t : OT) (D D' : List (Nat × Value)) (a : Act) (w : World), (∀ x ∈ D', x ∈ D) → wpT P ops cl ms K t D a w → wpT P ops cl ms K t D' a w
  | .leaf, _, _, _, _, _, h => h
  | .light _ t, _, _, _, _, hD, h => cstep_sub hD (wpT_sub t) h
  | .heavy _ f, _, _, _, _, hD, h => fun i hi => cstep_sub hD (wpT_sub (f i)) (h i hi)
def Good (ops : Array Oper) (cl : Op → Nat) : OT → Array Bool → Prop
  | .leaf, L => Region.ready .any ops L = []
  | .light i t, L => i ∈ Region.ready .any ops L ∧ (∃ o, ops[i]? = some o ∧ cl o.op ≤ 1) ∧ Good ops cl t (L.setIfInBounds i true)
  | .heavy l f, L => Region.ready .any ops L ≠ [] ∧ l = Region.ready .any ops L ∧ ∀ i ∈ l, Good ops cl (f i) (L.setIfInBounds i true)
structure RF (ops : Array Oper) (cl : Op → Nat) (ms : List Nat) : Prop where
  hsel : Region.noSelect ops = true
  hdep : ∀ (j x : Nat) (oj : Oper), ops[j]? = some oj → x < ops.size → has (nth 0 ms j) x = true → ∃ e ∈ oj.after, Region.binds .any e = true ∧ (e.on = x ∨ has (nth 0 ms e.on) x = true)
  hself : ∀ (p : Nat) (op : Oper), ops[p]? = some op → ∀ e ∈ op.after, Region.binds .any e = true → e.on < ops.size
  pair : ∀ (p : Nat) (op : Oper), ops[p]? = some op → cl op.op ≤ 1 → ∀ (q : Nat) (oq : Oper), ops[q]? = some oq → p ≠ q → has (nth 0 ms p) q = true ∨ ((cl op.op = 1 → NoHit ops q p) ∧ (has (nth 0 ms q) p = true ∨ Free ops cl ms p q op oq))
def Closed (ops : Array Oper) (ms : List Nat) (L : Array Bool) : Prop := ∀ q, q < ops.size → L.getD q false = true → ∀ x, x < ops.size → has (nth 0 ms q) x = true → L.getD x false = true
def DOkL (ops : Array Oper) (L : Array Bool) (D : List (Nat × Value)) : Prop := ∀ j v, (j, v) ∈ D → ∀ p, p < ops.size → L.getD p true = false → NoHit ops p j
theorem getD_same {L : Array Bool} {i : Nat} (h : i < L.size) (d : Bool) : (L.setIfInBounds i true).getD i d = true := by
  simp [Array.getD_eq_getD_getElem?, h]
theorem un_true {L : Array Bool} {i : Nat} (hi : i < L.size) : L.getD i true = false ↔ L.getD i false = false := by
  simp [Array.getD_eq_getD_getElem?, Array.getElem?_eq_getElem hi]
theorem not_un {L : Array Bool} {i : Nat} (hi : i < L.size) (h : L.getD i false = true) : ¬ L.getD i true = false := by
  rw [un_true hi, h]; simp
theorem ready_before (F : RF ops cl ms) {L : Array Bool} (hc : Closed ops ms L) {i : Nat} (hi : i ∈ Region.ready .any ops L) {x : Nat} (hx : x < ops.size) (hh : has (nth 0 ms i) x = true) : L.getD x false = true := by
  obtain ⟨_, o, ho, hall⟩ := mem_ready.1 hi
  obtain ⟨e, he, hb, heq⟩ := F.hdep i x o ho hx hh
  have hl := hall e he hb
  rcases heq with rfl | heq
  · exact hl
  · exact hc e.on (F.hself i o ho e he hb) hl x hx heq
theorem ready_mono {L : Array Bool} {i p : Nat} (hp : p < L.size) (hi : i ∈ Region.ready .any ops L) (hne : p ≠ i) : i ∈ Region.ready .any ops (L.setIfInBounds p true) := by
  obtain ⟨h0, o, ho, hall⟩ := mem_ready.1 hi
  refine mem_ready.2 ⟨by rw [getD_set_ne true hne]; exact h0, o, ho, fun e he hb => ?_⟩
  by_cases h : p = e.on
  · subst h; exact getD_same hp false
  · rw [getD_set_ne false h]; exact hall e he hb
theorem closed_set (F : RF ops cl ms) {L : Array Bool} (hs : L.size = ops.size) (hc : Closed ops ms L) {i : Nat} (hi : i ∈ Region.ready .any ops L) : Closed ops ms (L.setIfInBounds i true) := fun q hq hl x hx hh => by
  have hold : L.getD x false = true := by
    by_cases hqi : i = q
    · subst hqi; exact ready_before F hc hi hx hh
    · rw [getD_set_ne false hqi] at hl; exact hc q hq hl x hx hh
  by_cases h : i = x
  · subst h; exact getD_same (by omega) false
  · rw [getD_set_ne false h]; exact hold
theorem dok_set {L : Array Bool} {D : List (Nat × Value)} {i : Nat} (hD : DOkL ops L D) : DOkL ops (L.setIfInBounds i true) D := fun j v hj p hp hl => by
  by_cases h : i = p
  · subst h
    by_cases hi : i < L.size
    · rw [getD_same hi true] at hl; cases hl
    · rw [Array.setIfInBounds_eq_of_size_le (by omega)] at hl
      exact hD j v hj i hp hl
  · rw [getD_set_ne true h] at hl; exact hD j v hj p hp hl
theorem light_pair (F : RF ops cl ms) {L : Array Bool} (hs : L.size = ops.size) (hc : Closed ops ms L) {p : Nat} {op : Oper} (hp : p ∈ Region.ready .any ops L) (hop : ops[p]? = some op) (h1 : cl op.op ≤ 1) {q : Nat} {oq : Oper} (hoq : ops[q]? = some oq) (hl : L.getD q true = false) (hne : p ≠ q) : (cl op.op = 1 → NoHit ops q p) ∧ (has (nth 0 ms q) p = true ∨ Free ops cl ms p q op oq) := by
  have hq := (Array.getElem?_eq_some_iff.1 hoq).1
  refine (F.pair p op hop h1 q oq hoq hne).resolve_left fun hh => ?_
  exact not_un (by omega) (ready_before F hc hp hq hh) hl
theorem dok_read (F : RF ops cl ms) {L : Array Bool} (hs : L.size = ops.size) (hc : Closed ops ms L) {p : Nat} {op : Oper} (hp : p ∈ Region.ready .any ops L) (hop : ops[p]? = some op) (h1 : cl op.op = 1) {D : List (Nat × Value)} (hD : DOkL ops L D) {v : Value} : DOkL ops (L.setIfInBounds p true) ((p, v) :: D) := fun j u hj q hq hl => by
  have hpl := (Array.getElem?_eq_some_iff.1 hop).1
  have hne : p ≠ q := fun h => by subst h; rw [getD_same (by omega) true] at hl; cases hl
  have hl' : L.getD q true = false := by rw [getD_set_ne true hne] at hl; exact hl
  rcases List.mem_cons.1 hj with heq | hj
  · cases heq
    exact (light_pair F hs hc hp hop (by omega) (show ops[q]? = some ops[q] by simp [hq]) hl' hne).1 h1
  · exact hD j u hj q hq hl'
theorem frontT (F : RF ops cl ms) {K : Act → World → Prop} {i : Nat} {oi : Oper} (hi : ops[i]? = some oi) : ∀ (t : OT) (L : Array Bool), L.size = ops.size → Good ops cl t L → Closed ops ms L → i ∈ Region.ready .any ops L →
    ∃ t', Good ops cl t' (L.setIfInBounds i true) ∧ ∀ D a w, DOkL ops L D → wpT P ops cl ms K t D a w → cstep P ops cl ms i D a w (wpT P ops cl ms K t')
  | .leaf, L, _, hg, _, hr => by
    have : Region.ready .any ops L = [] := hg
    rw [this] at hr; cases hr
  | .heavy l f, L, _, hg, _, hr => by
    obtain ⟨_, h2, h3⟩ := hg
    exact ⟨f i, h3 i (h2 ▸ hr), fun D a w _ h => h i (h2 ▸ hr)⟩
  | .light p t, L, hs, hg, hc, hr => by
    obtain ⟨hp, ⟨op, hop, h1⟩, hg⟩ := hg
    have hpl := (Array.getElem?_eq_some_iff.1 hop).1
    by_cases hne : p = i
    · subst hne; exact ⟨t, hg, fun D a w _ h => h⟩
    · obtain ⟨t'', g'', h''⟩ := frontT F (K := K) hi t (L.setIfInBounds p true) (by simp [hs]) hg (closed_set F hs hc hp) (ready_mono (by omega) hr hne)
      refine ⟨.light p t'', ⟨?_, ⟨op, hop, h1⟩, ?_⟩, fun D a w hD h => ?_⟩
      · have hil := (Array.getElem?_eq_some_iff.1 hi).1
        exact ready_mono (by omega) hp (fun h => hne h.symm)
      · rw [Array.setIfInBounds_comm _ _ (fun h => hne h.symm)]; exact g''
      · have hp0 := (mem_ready.1 hp).1
        have hi0 := (mem_ready.1 hr).1
        have hF := (light_pair F hs hc hp hop h1 hi hi0 hne).2.resolve_left fun hh => not_un (by omega) (ready_before F hc hr hpl hh) hp0
        refine cswap hop hi hF F.hsel (fun j v hj oj hoj d hd => hD j v hj p hpl hp0 op oj hop hoj d hd) (fun D D' a w hs hk => wpT_sub _ D D' a w hs hk) ?_
        refine cstep_mono' (fun D' a' w' hd hr' => h'' D' a' w' ?_ hr') h
        rcases hd with rfl | ⟨u, o, rfl, ho, hc1⟩
        · exact dok_set hD
        · rw [hop] at ho; cases ho
          exact dok_read F hs hc hp hop hc1 hD
theorem any_ofT (F : RF ops cl ms) {Q : Exit → Act → World → Prop} : ∀ (fuel : Nat) (l : List Nat) (t : OT) (D : List (Nat × Value)) (L : Array Bool) (a : Act) (w : World),
    l.length ≤ fuel → (∀ i, i < ops.size → L.getD i true = false → i ∈ l) → L.size = ops.size → Good ops cl t L → Closed ops ms L → DOkL ops L D → wpT P ops cl ms (Q .normal) t D a w → wpAny P .any ops Q fuel L a w := by
  intro fuel
  induction fuel with
  | zero =>
    intro l t D L a w hl hmem hs hg _ _ h
    have hnil : l = [] := List.length_eq_zero_iff.1 (by omega)
    subst hnil
    have hr : Region.ready .any ops L = [] := by
      rw [List.eq_nil_iff_forall_not_mem]
      intro i hi
      obtain ⟨h0, o, ho, _⟩ := mem_ready.1 hi
      exact absurd (hmem i (Array.getElem?_eq_some_iff.1 ho).1 h0) (by simp)
    refine ⟨hr, ?_⟩
    cases t with
    | leaf => exact h
    | light i t => have := hg.1; rw [hr] at this; cases this
    | heavy l f => exact absurd hr hg.1
  | succ fuel ih =>
    intro l t D L a w hl hmem hs hg hc hD h
    refine ⟨fun hnil => ?_, fun i hi => ?_⟩
    · cases t with
      | leaf => exact h
      | light i t => have := hg.1; rw [hnil] at this; cases this
      | heavy l f => exact absurd hnil hg.1
    · obtain ⟨h0, oi, hoi, _⟩ := mem_ready.1 hi
      have hisz := (Array.getElem?_eq_some_iff.1 hoi).1
      have hil := hmem i hisz h0
      obtain ⟨t', g', h'⟩ := frontT F (P := P) (K := Q .normal) hoi t L hs hg hc hi
      have h := h' D a w hD h
      have go : ∀ D' a' w', DOkL ops (L.setIfInBounds i true) D' → wpT P ops cl ms (Q .normal) t' D' a' w' → wpAny P .any ops Q fuel (L.setIfInBounds i true) a' w' := by
        intro D' a' w' hD' hw'
        refine ih (l.erase i) t' D' _ a' w' (by rw [List.length_erase_of_mem hil]; omega) (fun j hj hlj => ?_) (by simp [hs]) g' (closed_set F hs hc hi) hD' hw'
        have hne : i ≠ j := fun he => by subst he; rw [getD_same (by omega) true] at hlj; cases hlj
        rw [getD_set_ne true hne] at hlj
        exact (List.mem_erase_of_ne (fun he => hne he.symm)).2 (hmem j hj hlj)
      have hD0 : DOkL ops (L.setIfInBounds i true) D := dok_set hD
      obtain ⟨o, ho, h⟩ := h
      rw [hoi] at ho; cases ho
      unfold wpOp
      simp only [hoi]
      rcases h with ⟨hw, h⟩ | ⟨hw, ⟨c0, v, hv, h⟩ | ⟨c1, v, hv, h⟩ | ⟨c0, c1, h⟩⟩
      · rw [hw, if_neg (by simp)]; exact go _ _ _ hD0 h
      · rw [hw, if_pos rfl]
        exact .inl (Does.wp (by unfold Does; rw [hv w]; exact go _ _ _ hD0 h))
      · rw [hw, if_pos rfl]
        exact .inl (Does.wp (by unfold Does; rw [hv]; exact go _ _ _ (dok_read F hs hc hi hoi c1 hD) h))
      · rw [hw, if_pos rfl]
        exact .inl (Does.wp (Does.mono (fun v w' hk => go _ _ _ hD0 hk.2) h))
end
section
variable {cx : Cx} {ops : Array Oper} {e : Env} {a : Act} {w : World}
theorem treeOk_rf (h : treeOk cx ops = true) : RF ops (cls cx) (masks ops) := by
  unfold treeOk at h
  obtain ⟨hl, h⟩ := cond_and h
  obtain ⟨hdep, hsel⟩ := cond_and h
  have key : ∀ p op, ops[p]? = some op → (∀ e ∈ op.after, Region.binds .any e = true → e.on < p) ∧ (cls cx op.op ≤ 1 → ∀ q, q < ops.size → p ≠ q → has (nth 0 (masks ops) p) q = true ∨ pairOk cx ops (masks ops) p q = true) := by
    intro p op hop
    have hps := (Array.getElem?_eq_some_iff.1 hop).1
    have := List.all_eq_true.1 hl p (List.mem_range.2 hps)
    unfold lightOk at this
    simp only [show ops.toList[p]? = some op from by simpa using hop] at this
    obtain ⟨h1, h2⟩ := cond_and this
    refine ⟨fun e he hb => ?_, fun hc q hq hne => ?_⟩
    · have := List.all_eq_true.1 h1 e (by simpa using he)
      rw [binds_eq, hb, cond_true] at this
      have := Nat.le_of_ble_eq_true (n := e.on + 1) (m := p) this
      omega
    · rw [Nat.ble_eq_true_of_le hc, cond_true] at h2
      have := List.all_eq_true.1 h2 q (List.mem_range.2 hq)
      rcases cond3.1 this with ⟨g, _⟩ | ⟨_, g⟩
      · exact absurd (nbeq.1 g) hne
      · rcases cond3.1 g with ⟨g, _⟩ | ⟨_, g⟩
        · exact .inl g
        · exact .inr g
  refine ⟨hsel, fun j x oj hj hx hh => ?_, fun p op hop e he hb => ?_, fun p op hop hc q oq hoq hne => ?_⟩
  · have hj' := (Array.getElem?_eq_some_iff.1 hj).1
    have := List.all_eq_true.1 hdep j (List.mem_range.2 hj')
    unfold depOk at this
    simp only [show ops.toList[j]? = some oj from by simpa using hj] at this
    have := List.all_eq_true.1 this x (List.mem_range.2 hx)
    rw [hh, cond_true] at this
    obtain ⟨e, he, hb⟩ := List.any_eq_true.1 this
    obtain ⟨hb1, hb2⟩ := cond_and hb
    refine ⟨e, by simpa using he, by rw [← binds_eq]; exact hb1, ?_⟩
    rcases cond3.1 hb2 with ⟨h1, _⟩ | ⟨_, h1⟩
    · exact .inl (nbeq.1 h1)
    · exact .inr h1
  · have := (key p op hop).1 e he hb
    have := (Array.getElem?_eq_some_iff.1 hop).1
    omega
  · rcases (key p op hop).2 hc q (Array.getElem?_eq_some_iff.1 hoq).1 hne with g | g
    · exact .inl g
    · obtain ⟨p1, p2⟩ := pairOk_spec g
      refine .inr ⟨fun h1 => p1 op hop h1, ?_⟩
      rcases p2 with p2 | p2
      · exact .inl p2
      · exact .inr (p2 op oq hop hoq)
def treeOf (cx : Cx) (ops : Array Oper) : Nat → Array Bool → OT
  | 0, _ => .leaf
  | n + 1, L => match Region.ready .any ops L with
    | [] => .leaf
    | i :: r => match firstLight cx ops 0 (i :: r) with
      | some j => .light j (treeOf cx ops n (L.setIfInBounds j true))
      | .none => match firstLight cx ops 1 (i :: r) with
        | some j => .light j (treeOf cx ops n (L.setIfInBounds j true))
        | .none => .heavy (i :: r) fun j => treeOf cx ops n (L.setIfInBounds j true)
theorem firstLight_spec {c i : Nat} : ∀ {l : List Nat}, firstLight cx ops c l = some i → i ∈ l ∧ ∃ o, ops[i]? = some o ∧ cls cx o.op ≤ c
  | [], h => by cases h
  | j :: r, h => by
    simp only [firstLight] at h
    split at h
    · rename_i o ho
      rcases hb : Nat.ble (cls cx o.op) c with _ | _
      · rw [hb, cond_false] at h
        obtain ⟨h1, h2⟩ := firstLight_spec h
        exact ⟨List.mem_cons_of_mem _ h1, h2⟩
      · rw [hb, cond_true] at h
        cases h
        exact ⟨List.mem_cons_self, o, by simpa using ho, Nat.le_of_ble_eq_true hb⟩
    · obtain ⟨h1, h2⟩ := firstLight_spec h
      exact ⟨List.mem_cons_of_mem _ h1, h2⟩
theorem treeOf_good : ∀ (n : Nat) (l : List Nat) (L : Array Bool), l.length ≤ n → (∀ i, i < ops.size → L.getD i true = false → i ∈ l) → L.size = ops.size → Good ops (cls cx) (treeOf cx ops n L) L
  | 0, l, L, hl, hmem, _ => by
    have hnil : l = [] := List.length_eq_zero_iff.1 (by omega)
    subst hnil
    show Region.ready .any ops L = []
    rw [List.eq_nil_iff_forall_not_mem]
    intro i hi
    obtain ⟨h0, o, ho, _⟩ := mem_ready.1 hi
    exact absurd (hmem i (Array.getElem?_eq_some_iff.1 ho).1 h0) (by simp)
  | n + 1, l, L, hl, hmem, hs => by
    have step : ∀ j, j ∈ Region.ready .any ops L → Good ops (cls cx) (treeOf cx ops n (L.setIfInBounds j true)) (L.setIfInBounds j true) := fun j hj => by
      obtain ⟨h0, o, ho, _⟩ := mem_ready.1 hj
      have hjs := (Array.getElem?_eq_some_iff.1 ho).1
      have hjl := hmem j hjs h0
      refine treeOf_good n (l.erase j) _ (by rw [List.length_erase_of_mem hjl]; omega) (fun q hq hlq => ?_) (by simp [hs])
      have hne : j ≠ q := fun he => by subst he; rw [getD_same (by omega) true] at hlq; cases hlq
      rw [getD_set_ne true hne] at hlq
      exact (List.mem_erase_of_ne (fun he => hne he.symm)).2 (hmem q hq hlq)
    unfold treeOf
    split
    · rename_i hr; exact hr
    · rename_i i r hr
      split
      · rename_i j hj
        obtain ⟨h1, o, ho, hc⟩ := firstLight_spec hj
        exact ⟨hr ▸ h1, ⟨o, ho, by omega⟩, step j (hr ▸ h1)⟩
      · split
        · rename_i j hj
          obtain ⟨h1, o, ho, hc⟩ := firstLight_spec hj
          exact ⟨hr ▸ h1, ⟨o, ho, hc⟩, step j (hr ▸ h1)⟩
        · exact ⟨by rw [hr]; simp, hr.symm, fun j hj => step j (hr ▸ hj)⟩
theorem one_cstep (k : Ok cx) {ms : List Nat} {R : List (Nat × Value) → Env → World → Prop} {R' : List (Nat × Value) → Act → World → Prop} (hR : ∀ D e a w, Ag cx.N e a → R D e w → R' D a w) {i : Nat} {D : List (Nat × Value)} {e : Env} {a : Act} {w : World} (g : Ag cx.N e a) (h : evOne cx ops ms (ops.toList.map (·.dst)) R i D e w) : cstep cx.P ops (cls cx) ms i D a w R' := by
  have hg : ∃ o, ops[i]? = some o ∧ guarded (ops.toList.map (·.dst)) o e (fun e => evStep cx ops ms i o D e w R) (fun e => putU cx o e fun e' => R D e' w) := by
    simp only [evOne] at h
    split at h
    · exact h.elim
    · rename_i o ho
      exact ⟨o, by simpa using ho, h⟩
  obtain ⟨o, ho, h⟩ := hg
  refine ⟨o, ho, ?_⟩
  rcases guarded_sound g h with ⟨hw, h⟩ | ⟨hw, h⟩
  · refine .inr ⟨hw, ?_⟩
    unfold evStep at h
    split at h
    · rename_i hc
      obtain ⟨v, hr, e', g', h⟩ := op0 k g h
      exact .inl ⟨hc, v, hr, hR _ _ _ _ g' h⟩
    · rename_i hc
      obtain ⟨v, hr, e', g', h⟩ := op1 k g (by rw [hc]; simp) h
      exact .inr (.inl ⟨hc, v, hr, hR _ _ _ _ g' h⟩)
    · rename_i h0 h1
      refine .inr (.inr ⟨h0, h1, Does.mono (fun v w' hk => ?_) (op2 k g h0 h)⟩)
      obtain ⟨hs, hp⟩ := hk
      obtain ⟨s1, s2⟩ := stab_sound k g hs
      obtain ⟨e', g', h⟩ := hp _ s2
      exact ⟨s1, hR _ _ _ _ g' h⟩
  · obtain ⟨e', g', h⟩ := putU_sound g h
    exact .inl ⟨hw, hR _ _ _ _ g' h⟩
theorem tree_wpT (k : Ok cx) {ms : List Nat} {K : Env → World → Prop} : ∀ (n : Nat) (L : Array Bool) (D : List (Nat × Value)) {e : Env} {a : Act} {w : World}, Ag cx.N e a → evTree cx ops ms (ops.toList.map (·.dst)) K n L D e w → wpT cx.P ops (cls cx) ms (fun a w => ∃ e, Ag cx.N e a ∧ K e w) (treeOf cx ops n L) D a w
  | 0, L, D, e, a, w, g, h => by
    simp only [evTree] at h
    split at h
    · exact ⟨e, g, h⟩
    · exact h.elim
  | n + 1, L, D, e, a, w, g, h => by
    simp only [evTree] at h
    split at h
    · rename_i hr
      have ht : treeOf cx ops (n + 1) L = .leaf := by simp only [treeOf, hr]
      rw [ht]
      exact ⟨e, g, h⟩
    · rename_i i r hr
      split at h
      · rename_i j hj
        have ht : treeOf cx ops (n + 1) L = .light j (treeOf cx ops n (L.setIfInBounds j true)) := by simp only [treeOf, hr, hj]
        rw [ht]
        refine one_cstep (ops := ops) (ms := ms) k ?_ g h
        exact fun D e a w g h => tree_wpT k n _ D g h
      · rename_i hj0
        split at h
        · rename_i j hj
          have ht : treeOf cx ops (n + 1) L = .light j (treeOf cx ops n (L.setIfInBounds j true)) := by simp only [treeOf, hr, hj0, hj]
          rw [ht]
          refine one_cstep (ops := ops) (ms := ms) k ?_ g h
          exact fun D e a w g h => tree_wpT k n _ D g h
        · rename_i hj1
          have ht : treeOf cx ops (n + 1) L = .heavy (i :: r) fun j => treeOf cx ops n (L.setIfInBounds j true) := by simp only [treeOf, hr, hj0, hj1]
          rw [ht]
          intro j hj
          have hm := andL_mem h (List.mem_map.2 ⟨j, hj, rfl⟩)
          refine one_cstep (ops := ops) (ms := ms) k ?_ g hm
          exact fun D e a w g h => tree_wpT k n _ D g h
theorem treeOk_any {K : Env → World → Prop} (k : Ok cx) (h : treeOk cx ops = true) (g : Ag cx.N e a) (hw : evTree cx ops (masks ops) (ops.toList.map (·.dst)) K ops.size (Array.replicate ops.size false) [] e w) : wpAny cx.P .any ops (QN cx.N K) ops.size (Array.replicate ops.size false) a w := by
  have F := treeOk_rf h
  have hmem : ∀ i, i < ops.size → (Array.replicate ops.size false).getD i true = false → i ∈ List.range ops.size := fun i hi _ => List.mem_range.2 hi
  refine any_ofT F ops.size (List.range ops.size) (treeOf cx ops ops.size (Array.replicate ops.size false)) [] _ a w (by simp) hmem (by simp) (treeOf_good ops.size (List.range ops.size) _ (by simp) hmem (by simp)) (fun q hq hl => ?_) (fun _ _ hj => by cases hj) (tree_wpT k _ _ _ g hw)
  simp [hq] at hl
theorem region_sound (k : Ok cx) (g : Ag cx.N e a) {id : Nat} {draw : Bool} {K : Env → World → Prop} (h : evRegion cx ops draw e w K) : (Code.region id ops draw).wp cx.P (QN cx.N K) a w := by
  cases draw with
  | false => exact region_text k g h
  | true =>
    simp only [evRegion] at h
    refine wp_region_any k.mix ?_
    cases hr : regOk cx ops (ordered cx ops) with
    | true =>
      rw [hr, cond_true] at h
      exact regOk_any hr (ord_wpC k (ordered cx ops) [] g h)
    | false =>
      rw [hr, cond_false] at h
      cases ht : treeOk cx ops with
      | true => rw [ht, cond_true] at h; exact treeOk_any k ht g h
      | false =>
        rw [ht, cond_false] at h
        cases hn : Region.noSelect ops with
        | true => rw [hn, cond_true] at h; exact any_sound k hn _ _ g h
        | false => rw [hn, cond_false] at h; exact h.elim
end
end Go.Sh
namespace Go.Sh
section
variable {cx : Cx} {e : Env} {a : Act} {w : World}

theorem Fin.step {P : Program} {f : FuncId} {Q : Value → World → Prop} {a a' : Act} {todo todo' : List Item} {w w' : World} (hs : ∀ b cs, Steps P (lone (b.at a todo) cs w) (lone (Frame.at b a' todo') cs w')) (h : Fin P f Q a' todo' w') : Fin P f Q a todo w := by
  intro b cs hb hk
  obtain ⟨v, w₁, fr, hq, hst, hf, hl⟩ := h b cs hb hk
  exact ⟨v, w₁, fr, hq, Steps.trans (hs b cs) hst, hf, hl⟩

def resOne (a : Act) : ResultVar → Sem Value
  | .tmp t => pure (a.tmps.getD t undef)
  | .cell p t => do loadVar t (← asAddr (a.tmps.getD p undef))
theorem evResults_sound (k : Ok cx) (g : Ag cx.N e a) : ∀ {rs : List ResultVar} {K : List Value → Prop}, evResults cx e w rs K →
    ∃ vs, (rs.mapM (resOne a)).run cx.P w = .ok vs w ∧ vs.length = rs.length ∧ K vs
  | [], K, h => ⟨[], by simp, rfl, h⟩
  | .tmp t :: r, K, h => by
    simp only [evResults] at h
    split at h
    · rename_i v hv
      obtain ⟨vs, h1, h2, h3⟩ := evResults_sound k g h
      refine ⟨v :: vs, ?_, by simp [h2], h3⟩
      have : a.tmps.getD t undef = v := by simp [Array.getD_eq_getD_getElem?, g.val t v hv]
      simp only [List.mapM_cons, resOne, Sem.run_bind, Sem.run_pure, Result.andThen_ok, this, h1]
    · exact h.elim
  | .cell p t :: r, K, h => by
    simp only [evResults] at h
    split at h
    · rename_i q hv
      obtain ⟨q, rfl, h⟩ := opnA_some h
      obtain ⟨v, hl, h⟩ := ldT_sound (P := cx.P) k.tab h
      obtain ⟨vs, h1, h2, h3⟩ := evResults_sound k g h
      refine ⟨v :: vs, ?_, by simp [h2], h3⟩
      have : a.tmps.getD p undef = .pointer (some q) := by simp [Array.getD_eq_getD_getElem?, g.val p _ hv]
      simp only [List.mapM_cons, resOne, Sem.run_bind, Sem.run_pure, Result.andThen_ok, this, asAddr, hl, h1]
    · exact h.elim
theorem results_sound (k : Ok cx) (g : Ag cx.N e a) {fn : Func} (hr : fn.results.toList = cx.results) {K : List Value → Prop} (h : evResults cx e w cx.results K) :
    ∃ vs, (results fn a.tmps).run cx.P w = .ok (retV vs) w ∧ K vs := by
  obtain ⟨vs, h1, h2, h3⟩ := evResults_sound k g h
  refine ⟨vs, ?_, h3⟩
  have : results fn a.tmps = (do
      let vs ← fn.results.mapM (resOne a)
      pure (if h : vs.size = 1 then vs[0] else .tuple vs)) := rfl
  rw [this, Array.mapM_eq_mapM_toList, hr]
  simp only [map_eq_pure_bind, Sem.run_bind, h1, Result.andThen_ok, Sem.run_pure]
  congr 1
  match vs with
  | [] => rfl
  | [v] => rfl
  | v :: u :: r => rfl

theorem restrict_sound (g : Ag cx.N e a) : ∀ {S : List Nat} {e' : Env}, restrict e S = some e' → (∀ t v, gets e' t = some v → gets e t = some v) ∧ (∀ x ∈ e', x.2.1 = x.1 ∧ gets e x.1 = some x.2.2)
  | [], e', h => by cases h; exact ⟨fun t v h => (by cases h), by simp⟩
  | s :: r, e', h => by
    simp only [restrict] at h
    split at h
    · rename_i v e'' hv hr
      cases h
      obtain ⟨h1, h2⟩ := restrict_sound g hr
      refine ⟨fun t u hu => ?_, fun x hx => ?_⟩
      · simp only [gets] at hu
        cases hb : Nat.beq s t with
        | true => rw [hb, cond_true] at hu; cases hu; rw [← nbeq.1 hb]; exact hv
        | false => rw [hb, cond_false] at hu; exact h1 t u hu
      · rcases List.mem_cons.1 hx with rfl | hx
        · exact ⟨rfl, hv⟩
        · exact h2 x hx
    · cases h
theorem restrict_ag (g : Ag cx.N e a) {S : List Nat} {e' : Env} (h : restrict e S = some e') : Ag cx.N e' a := by
  obtain ⟨h1, h2⟩ := restrict_sound g h
  refine ⟨g.size, g.nodef, fun t v hv => g.val t v (h1 t v hv), fun x y hx hy ho => ?_, fun x hx => ?_⟩
  · obtain ⟨x1, x2⟩ := h2 x hx
    obtain ⟨y1, y2⟩ := h2 y hy
    rw [x1, y1] at ho
    rw [ho] at x2
    exact Option.some.inj (x2.symm.trans y2)
  · obtain ⟨x1, x2⟩ := h2 x hx
    have := (Array.getElem?_eq_some_iff.1 (g.val _ _ x2)).1
    rw [g.size] at this
    omega

theorem run_sound (k : Ok cx) {f : FuncId} {fn : Func} (hf : cx.P.funcs[f]? = some fn) (hres : fn.results.toList = cx.results) {Q : Value → World → Prop} {X : Env → List Item → World → Prop}
    (hX : ∀ e todo w, X e todo w → ∀ a, Ag cx.N e a → Fin cx.P f Q a todo w) :
    ∀ (n : Nat) (first : Bool) (todo : List Item) {e : Env} {a : Act} {w : World}, Ag cx.N e a → run cx Q X n first todo e w → Fin cx.P f Q a todo w := by
  intro n
  induction n with
  | zero => intro first todo e a w g h; exact h.elim
  | succ n ih =>
    intro first todo e a w g h
    unfold run at h
    split at h
    · obtain ⟨vs, hr, hq⟩ := results_sound k g hres h
      exact fun b cs hb hk => ⟨retV vs, w, _, hq, .one step_end, hb, rfl, g.nodef, hk, fn, by rw [← hf, ← hb]; rfl, hr⟩
    · exact (ih _ _ g h).step fun b cs => .one step_inBlock
    · exact (ih _ _ g h).step fun b cs => .one step_inScope
    · exact (ih _ _ g h).step fun b cs => .one step_inLoop
    · split at h
      · exact (ih _ _ g h).step fun b cs => .one step_skip
      · exact (ih _ _ g h).step fun b cs => .one step_label
      · exact (ih _ _ g h).step fun b cs => .one step_seq
      · exact (ih _ _ g h).step fun b cs => .one step_block
      · exact (ih _ _ g h).step fun b cs => .one step_loop
      · exact (ih _ _ g h).step fun b cs => .one step_scope
      · split at h
        · rename_i hg; exact (ih _ _ g h).step fun b cs => .one (step_goto hg)
        · exact h.elim
      · split at h
        · rename_i t hc
          have hc := evo_sound g hc
          cases t
          · exact (ih _ _ g h).step fun b cs => .one (step_cond hc)
          · exact (ih _ _ g h).step fun b cs => .one (step_cond hc)
        · exact h.elim
      · split at h
        · rename_i hg; exact (ih _ _ g h).step fun b cs => .one (step_exit hg)
        · exact h.elim
      · obtain ⟨vs, hr, hq⟩ := results_sound k g hres h
        exact fun b cs hb hk => ⟨retV vs, w, _, hq, .one step_ret, hb, rfl, g.nodef, hk, fn, by rw [← hf, ← hb]; rfl, hr⟩
      · split at h
        · split at h
          · rename_i hr; exact hX _ _ _ h a (restrict_ag g hr)
          · exact h.elim
        · have hw := fun id => region_sound (id := id) k g h
          intro b cs hb hk
          obtain ⟨x, a', w', hq, harr⟩ := hw _ b _ cs
          cases x with
          | normal =>
            obtain ⟨e', g', h'⟩ := hq
            obtain ⟨v, w₁, fr, hQ, hst, hfr, hl⟩ := ih _ _ g' h' b cs hb hk
            exact ⟨v, w₁, fr, hQ, Steps.trans harr hst, hfr, hl⟩
          | exit _ => exact hq.elim
          | goto _ => exact hq.elim
          | ret => exact hq.elim
          | panic _ => exact hq.elim
          | outgrown => exact hq.elim
      · exact h.elim
    · exact h.elim
theorem params_sound : ∀ (vs : List Value) (i : Nat) (t : Nat) (v : Value), gets (params i vs) t = some v → i ≤ t ∧ vs[t - i]? = some v
  | [], i, t, v, h => by cases h
  | u :: r, i, t, v, h => by
    simp only [params, gets] at h
    cases hb : Nat.beq i t with
    | true => rw [hb, cond_true] at h; cases h; have := nbeq.1 hb; subst this; simp
    | false =>
      rw [hb, cond_false] at h
      obtain ⟨h1, h2⟩ := params_sound r (i + 1) t v h
      refine ⟨by omega, ?_⟩
      rw [show t - i = t - (i + 1) + 1 from by omega]; simpa using h2
theorem params_mem : ∀ (vs : List Value) (i : Nat), ∀ x ∈ params i vs, x.2.1 = x.1 ∧ i ≤ x.1 ∧ vs[x.1 - i]? = some x.2.2
  | [], i, x, h => by cases h
  | u :: r, i, x, h => by
    rcases List.mem_cons.1 h with rfl | h
    · simp
    · obtain ⟨h0, h1, h2⟩ := params_mem r (i + 1) x h
      refine ⟨h0, by omega, ?_⟩
      rw [show x.1 - i = x.1 - (i + 1) + 1 from by omega]; simpa using h2
theorem params_ag {args : Array Value} {N : Nat} (h : args.size ≤ N) : Ag N (params 0 args.toList) { tmps := args ++ Array.replicate (N - args.size) undef, defers := [] } := by
  have hin : ∀ (t : Nat) (v : Value), args.toList[t]? = some v → (args ++ Array.replicate (N - args.size) undef)[t]? = some v := by
    intro t v hv
    have hv : args[t]? = some v := by simpa using hv
    have := (Array.getElem?_eq_some_iff.1 hv).1
    rw [Array.getElem?_append_left this]; exact hv
  refine ⟨by simp; omega, rfl, fun t v hv => ?_, fun x y hx hy ho => ?_, fun x hx => ?_⟩
  · obtain ⟨_, h2⟩ := params_sound _ _ _ _ hv
    exact hin t v (by simpa using h2)
  · obtain ⟨x0, _, x2⟩ := params_mem _ _ x hx
    obtain ⟨y0, _, y2⟩ := params_mem _ _ y hy
    rw [x0, y0] at ho
    rw [ho] at x2
    exact Option.some.inj (x2.symm.trans y2)
  · obtain ⟨x0, _, x2⟩ := params_mem _ _ x hx
    have := (List.getElem?_eq_some_iff.1 x2).1
    simp at this; omega

structure OkF (cx : Cx) (body : Code) (fn : Func) : Prop where
  ok : Ok cx
  hf : cx.P.funcs[cx.fn]? = some fn
  hb : fn.body = some body
  hn : (fn.name == "runtime.NumGoroutine") = false
  hN : fn.ntmps = cx.N
  hres : fn.results.toList = cx.results
theorem run_callFunc {P : Program} {f : FuncId} {fn : Func} (hf : P.funcs[f]? = some fn) (hb : fn.body.isNone = false) (hn : (fn.name == "runtime.NumGoroutine") = false) (args : Array Value) (w : World) : (callFunc f args).run P w = .ok (.enter f args) w := by
  simp only [callFunc, Sem.run_bind, program, Sem.run, Result.andThen_ok, hf, hn, hb, Bool.false_eq_true, if_false]
  rfl
theorem Nd_fold {body : Code} {fn : Func} (k : OkF cx body fn) {T : Prop} {Q : Value → World → Prop} {e : Env} {todo : List Item} {w : World} (he : T = run cx Q (Nd cx Q) fuel true todo e w) (h : T) : Nd cx Q e todo w :=
  fun _ g => run_sound k.ok k.hf k.hres (fun _ _ _ h => h) fuel true _ g (he ▸ h)
theorem C_fold {body : Code} {fn : Func} (k : OkF cx body fn) {T : Prop} {args : Array Value} {w : World} {Q : Value → World → Prop} (he : T = fnPT cx body args w Q) (h : T) : doesC cx.P cx.fn args w Q := by
  rw [he] at h
  unfold fnPT at h
  cases hs : Nat.ble args.toList.length cx.N with
  | false => rw [hs, cond_false] at h; exact h.elim
  | true =>
    rw [hs, cond_true] at h
    have hs : args.size ≤ cx.N := by simpa using Nat.le_of_ble_eq_true hs
    have hfin : Fin cx.P cx.fn Q _ [.code body] w := run_sound k.ok k.hf k.hres (fun _ _ _ h => h) fuel false _ (params_ag hs) h
    refine does_doesC ?_
    unfold Does
    rw [run_callFunc k.hf (by rw [k.hb]; rfl) k.hn]
    intro cs
    let b : Frame := { (default : Frame) with fn := cx.fn, kind := .normal }
    have henter : Frame.enter cx.P cx.fn args .normal = b.at { tmps := args ++ Array.replicate (cx.N - args.size) undef, defers := [] } [.code body] := by
      simp [Frame.enter, Frame.at, k.hf, k.hb, b, k.hN]
    obtain ⟨v, w', fr, hQ, hst, hfr, hl⟩ := hfin b cs rfl rfl
    rw [← henter] at hst
    exact ⟨.returned v, w', fr, hQ, hst, hfr, hl⟩
theorem C_calls {P : Program} {f : FuncId} {fn : Func} (hf : P.funcs[f]? = some fn) (hb : fn.body.isNone = false) (hn : (fn.name == "runtime.NumGoroutine") = false) {args : Array Value} {w : World} {Q : Value → World → Prop} (h : Calls P f args w fun | .returned v, w' => Q v w' | _, _ => False) : doesC P f args w Q :=
  does_doesC (by unfold Does; rw [run_callFunc hf hb hn]; exact h)
theorem calls_C {P : Program} {f : FuncId} {fn : Func} (hf : P.funcs[f]? = some fn) (hb : fn.body.isNone = false) (hn : (fn.name == "runtime.NumGoroutine") = false) {args : Array Value} {w : World} {Q : Value → World → Prop} (hc : doesC P f args w Q) :
    Calls P f args w fun | .returned v, w' => Q v w' | _, _ => False := by
  have := doesC_does hc
  unfold Does at this
  rw [run_callFunc hf hb hn] at this
  exact this
end
end Go.Sh
namespace Go.Sh
open Go.ChangeShapes

structure Chg (D : Nat → Prop) (w w' : World) : Prop where
  os : w'.os = w.os
  tape : w'.tape = w.tape
  output : w'.output = w.output
  size : w.heap.size ≤ w'.heap.size
  block : ∀ k, k < w.heap.size → ¬ D k → w'.heap[k]? = w.heap[k]?
theorem Chg.refl (D : Nat → Prop) (w : World) : Chg D w w := ⟨rfl, rfl, rfl, Nat.le_refl _, fun _ _ _ => rfl⟩
theorem Chg.trans {D D' E : Nat → Prop} {a b c : World} (h : Chg D a b) (k : Chg D' b c) (h1 : ∀ x, x < a.heap.size → D x → E x) (h2 : ∀ x, x < a.heap.size → D' x → E x) : Chg E a c :=
  ⟨k.os.trans h.os, k.tape.trans h.tape, k.output.trans h.output, Nat.le_trans h.size k.size, fun i hi hn => (k.block i (Nat.lt_of_lt_of_le hi h.size) fun hd => hn (h2 i hi hd)).trans (h.block i hi fun hd => hn (h1 i hi hd))⟩
theorem Chg.mono {D E : Nat → Prop} {a b : World} (h : Chg D a b) (h1 : ∀ x, x < a.heap.size → D x → E x) : Chg E a b := ⟨h.os, h.tape, h.output, h.size, fun k hk hn => h.block k hk fun hd => hn (h1 k hk hd)⟩
abbrev Fr (B : Nat) := Chg (fun k => B ≤ k)
theorem Fr.trans {B : Nat} {a b c : World} (h : Fr B a b) (k : Fr B b c) : Fr B a c := Chg.trans h k (fun _ _ h => h) (fun _ _ h => h)
theorem Fr.of {D : Nat → Prop} {B : Nat} {a b : World} (h : Chg D a b) (hd : ∀ k, D k → B ≤ k) : Fr B a b := h.mono fun k _ h => hd k h
theorem Fr.below {B : Nat} {a b : World} (h : Fr B a b) (hB : B ≤ a.heap.size) : Go.RowKit.Below B a b := ⟨h.os, h.tape, h.output, h.size, fun k hk => h.block k (by omega) (by omega)⟩
theorem Fr.mono {B B' : Nat} {a b : World} (h : Fr B a b) (hB : B' ≤ B) : Fr B' a b := Chg.mono h fun _ _ h => Nat.le_trans hB h
abbrev None : Nat → Prop := fun _ => False
theorem Chg.fr {B : Nat} {a b : World} (h : Chg None a b) : Fr B a b := h.mono fun _ _ h => h.elim
theorem Chg.drew {D : Nat → Prop} {a w : World} (h : Chg D a w) : Chg D a w.drew := ⟨h.os, h.tape, h.output, h.size, h.block⟩
theorem Chg.drew0 {D : Nat → Prop} (w : World) : Chg D w w.drew := (Chg.refl D w).drew
theorem chg_alloc {D : Nat → Prop} (w : World) (o : Obj) : Chg D w (w.alloc o) := ⟨rfl, rfl, rfl, by simp, fun k hk _ => Go.RowKit.Below.heap_alloc w o k hk⟩
theorem chg_setCell {w : World} {p : Addr} {v : Value} : Chg (fun k => k = p.block) w (w.setCell p v) := ⟨rfl, rfl, rfl, by simp [World.setCell], fun k _ hn => Go.RowKit.Below.heap_setCell w p v k hn⟩

def Blk (w : World) (b : Nat) (t : TypeId) (l : List Value) : Prop := ∃ fr : Nat × Nat, w.heap[b]? = some (.cells l.toArray t fr) ∧ ∀ i, i < l.length → ¬ (fr.1 ≤ i ∧ i < fr.2)
section
variable {w w' : World} {b : Nat} {t : TypeId} {l : List Value}
theorem Blk.lt (h : Blk w b t l) : b < w.heap.size := by obtain ⟨_, h, _⟩ := h; exact (Array.getElem?_eq_some_iff.1 h).1
theorem Blk.cell (h : Blk w b t l) (j : Nat) : w.cell? ⟨b, j, none⟩ = l[j]? := by obtain ⟨_, h, _⟩ := h; simp [World.cell?, h]
theorem Blk.thaw (h : Blk w b t l) {j : Nat} (hj : j < l.length) : w.frozen? ⟨b, j, none⟩ = false := by
  obtain ⟨fr, h, hf⟩ := h
  have := hf j hj
  simp only [World.frozen?, h]
  cases h1 : decide (fr.1 ≤ j) <;> simp_all
theorem Blk.chg {D : Nat → Prop} (h : Blk w b t l) (c : Chg D w w') (hd : ¬ D b) : Blk w' b t l := by
  have hlt := h.lt
  obtain ⟨fr, h, hf⟩ := h
  exact ⟨fr, by rw [c.block b hlt hd]; exact h, hf⟩
theorem blk_alloc {cs : Array Value} : Blk (w.alloc (.cells cs t)) w.heap.size t cs.toList := ⟨(0, 0), by show (w.heap.push _)[w.heap.size]? = _; simp, fun i _ => by simp⟩
theorem Blk.set (h : Blk w b t l) (j : Nat) (v : Value) : Blk (w.setCell ⟨b, j, none⟩ v) b t (l.set j v) := by
  have hlt := h.lt
  obtain ⟨fr, h, hf⟩ := h
  refine ⟨fr, ?_, fun i hi => hf i (by simpa using hi)⟩
  simp only [World.setCell, Array.getElem?_modify, if_pos, h, Option.map_some, Option.isSome_none, Bool.false_eq_true, if_false]
  congr 2
  exact Array.ext' (by simp)
theorem Blk.store (h : Blk w b t l) {j : Nat} (hj : j < l.length) {v : Value} (hv : v.oneCell' = true) {K : World → Prop} (hK : Blk (w.setCell ⟨b, j, none⟩ v) b t (l.set j v) → Chg (fun k => k = b) w (w.setCell ⟨b, j, none⟩ v) → K (w.setCell ⟨b, j, none⟩ v)) : stC ⟨b, j, none⟩ v w K :=
  ⟨hv, by rw [h.cell j]; simp [hj], h.thaw hj, hK (h.set j v) (chg_setCell (p := ⟨b, j, none⟩))⟩
theorem Blk.setCells (h : Blk w b t l) : ∀ (vs : List Value) (o : Nat), o + vs.length ≤ l.length → Blk (w.setCells b o vs) b t (l.take o ++ vs ++ l.drop (o + vs.length)) ∧ Chg (fun k => k = b) w (w.setCells b o vs) := by
  intro vs
  induction vs generalizing w l with
  | nil => intro o _; exact ⟨by simpa [World.setCells] using h, Chg.refl _ _⟩
  | cons v r ih =>
    intro o ho
    simp only [List.length_cons] at ho
    obtain ⟨h1, h2⟩ := ih (h.set o v) (o + 1) (by simp; omega)
    refine ⟨?_, Chg.trans (chg_setCell (p := ⟨b, o, none⟩)) h2 (fun _ _ h => h) (fun _ _ h => h)⟩
    have e : (l.set o v).take (o + 1) ++ r ++ (l.set o v).drop (o + 1 + r.length) = l.take o ++ (v :: r) ++ l.drop (o + (v :: r).length) := by
      rw [take_set_next l o (by omega), List.drop_set_of_lt (by omega)]
      simp [Nat.add_assoc, Nat.add_comm 1]
    rw [e] at h1; exact h1
end

def Lies (w : World) (S : Nat → Prop) (a : Option Addr) (l : List Value) : Prop := ∀ j v, l[j]? = some v → ∃ p, a = some p ∧ S p.block ∧ w.cell? (p.add j) = some v
section
variable {w w' : World} {S S' : Nat → Prop} {a : Option Addr} {l : List Value}
theorem Lies.nil : Lies w S a [] := fun j v h => by simp at h
theorem Lies.mono (h : Lies w S a l) (hs : ∀ k, S k → S' k) : Lies w S' a l := fun j v hj => let ⟨p, h1, h2, h3⟩ := h j v hj; ⟨p, h1, hs _ h2, h3⟩
theorem Lies.chg {D : Nat → Prop} (h : Lies w S a l) (c : Chg D w w') (hd : ∀ k, k < w.heap.size → S k → ¬ D k) : Lies w' S a l := fun j v hj => by
  obtain ⟨p, h1, h2, h3⟩ := h j v hj
  refine ⟨p, h1, h2, ?_⟩
  have hb := World.block_lt_of_cell? _ _ h3
  rw [block_add] at hb
  rw [World.cell?_of_block (w := w) (by rw [block_add]; exact c.block _ hb (hd _ hb h2))]
  exact h3
theorem Lies.take (h : Lies w S a l) (n : Nat) : Lies w S a (l.take n) := fun j v hj => h j v (by rw [List.getElem?_take] at hj; split at hj; exact hj; cases hj)
theorem add_add' (a : Addr) (i j : Nat) : (a.add i).add j = a.add (i + j) := Go.Deep.add_add a i j
theorem Lies.drop (h : Lies w S a l) (n : Nat) : Lies w S (a.map (·.add n)) (l.drop n) := fun j v hj => by
  rw [List.getElem?_drop] at hj
  obtain ⟨p, rfl, h2, h3⟩ := h _ v hj
  exact ⟨p.add n, rfl, by rw [block_add]; exact h2, by rw [add_add']; exact h3⟩
theorem Lies.slA (h : Lies w S a l) (n m : Nat) : Lies w S (Sh.slA a n m 1) (if m = n then [] else l.drop n) := by
  unfold Sh.slA
  split
  · exact Lies.nil
  · rw [Nat.mul_one]; exact h.drop n
theorem Blk.lies {b : Nat} {t : TypeId} (h : Blk w b t l) (hS : S b) : Lies w S (some ⟨b, 0, none⟩) l := fun j v hj => ⟨_, rfl, hS, by rw [Addr.add_lit, Nat.zero_add, h.cell]; exact hj⟩
end
end Go.Sh
namespace Go.Sh
open Go.ChangeShapes
variable {P : Program}

structure SlT (P : Program) (t e sz by_ : Nat) : Prop where
  ht : P.underlying t = some (.slice e)
  info : (P.info? e).map (fun i => (i.zero.map (·.cells.size), i.size, i.bytes)) = some (some sz, sz, by_)
theorem SlT.get {t e sz by_ : Nat} (h : SlT P t e sz by_) : ∃ i z, P.info? e = some i ∧ i.zero = some z ∧ i.size = sz ∧ i.bytes = by_ ∧ z.cells.size = sz := by
  obtain ⟨i, hi, h⟩ := Option.map_eq_some_iff.1 h.info
  simp only [Prod.mk.injEq] at h
  obtain ⟨hz, hs, hb⟩ := h
  obtain ⟨z, hz, hc⟩ := Option.map_eq_some_iff.1 hz
  exact ⟨i, z, hi, hz, hs, hb, hc⟩

structure Own (w : World) (e sz : Nat) (a : Option Addr) (n c : Nat) (l : List Value) : Prop where
  len : l.length = n * sz
  row : (a = .none ∧ n = 0 ∧ c = 0) ∨ ∃ b rest, a = some ⟨b, 0, .none⟩ ∧ Blk w b e (l ++ rest) ∧ c * sz ≤ (l ++ rest).length ∧ n ≤ c
def At (a : Option Addr) : Nat → Prop := fun k => ∃ p, a = some p ∧ p.block = k
section
variable {w w' : World} {e sz n c : Nat} {a : Option Addr} {l : List Value}
theorem Own.nil : Own w e sz .none 0 0 [] := ⟨by simp, .inl ⟨rfl, rfl, rfl⟩⟩
theorem Own.le (h : Own w e sz a n c l) : n ≤ c := by rcases h.row with ⟨_, h1, h2⟩ | ⟨_, _, _, _, _, h⟩ <;> omega
theorem Own.chg {D : Nat → Prop} (h : Own w e sz a n c l) (k : Chg D w w') (hd : ∀ x, At a x → ¬ D x) : Own w' e sz a n c l :=
  ⟨h.len, h.row.imp id fun ⟨b, rest, h1, h2, h3, h4⟩ => ⟨b, rest, h1, h2.chg k (hd b ⟨_, h1, rfl⟩), h3, h4⟩⟩
theorem Own.lies (h : Own w e sz a n c l) : Lies w (At a) a l := by
  rcases h.row with ⟨h1, h2, h3⟩ | ⟨b, rest, h1, h2, h3, h4⟩
  · have : l = [] := List.eq_nil_of_length_eq_zero (by rw [h.len, h2, Nat.zero_mul])
    subst this; exact Lies.nil
  · subst h1
    have := (h2.lies (S := At (some ⟨b, 0, .none⟩)) ⟨_, rfl, rfl⟩).take l.length
    rwa [List.take_left] at this
theorem Own.lt (h : Own w e sz a n c l) {k : Nat} (hk : At a k) : k < w.heap.size := by
  obtain ⟨p, rfl, rfl⟩ := hk
  rcases h.row with ⟨h1, _⟩ | ⟨b, rest, h1, h2, h3, h4⟩
  · cases h1
  · cases h1; exact h2.lt
end

theorem src_two {w : World} {tx e' : Nat} (hk : P.underlying tx = some (.slice e')) {vs : List Value} {n c : Nat} {sz t : Nat} (hl : vs.length = n * sz) (h1 : ∀ u ∈ vs, u.oneCell' = true) : Src P sz tx (.slice (some ⟨w.heap.size, 0, .none⟩) n c) n vs (w.alloc (.cells vs.toArray t)) :=
  Src.ofSlice _ hk _ n c vs hl (fun j u hj => by
    rw [Addr.add_lit, Nat.zero_add]
    rw [(blk_alloc (w := w) (t := t) (cs := vs.toArray)).cell j]; exact hj) h1
theorem src_lies {w : World} {S : Nat → Prop} {tx e' sz : Nat} (hk : P.underlying tx = some (.slice e')) {a : Option Addr} {n c : Nat} {vs : List Value} (h : Lies w S a vs) (hl : vs.length = n * sz) (hz : n = 0 ∨ 0 < sz) (h1 : ∀ u ∈ vs, u.oneCell' = true) : Src P sz tx (.slice a n c) n vs w := by
  cases a with
  | some p => exact Src.ofSlice _ hk p n c vs hl (fun j u hj => by obtain ⟨q, hq, _, hc⟩ := h j u hj; cases hq; exact hc) h1
  | none =>
    have : vs = [] := by
      cases vs with
      | nil => rfl
      | cons v r => obtain ⟨_, hq, _⟩ := h 0 v rfl; cases hq
    subst this
    have hn : n = 0 := by
      rcases hz with h | h
      · exact h
      · have : n * sz = 0 := by simpa using hl.symm
        rcases Nat.mul_eq_zero.1 this with h' | h' <;> omega
    subst hn
    exact Src.ofNil _ hk c

theorem append_own' {t tx ty e sz by_ : Nat} (T : SlT P t e sz by_) {w : World} {a : Option Addr} {n c : Nat} {l : List Value} (h : Own w e sz a n c l) {x : Value} {m : Nat} {news : List Value} (hs : Src P sz tx x m news w)
    (h63 : n + m ≤ maxLen) (hb : (n + m) * by_ ≤ 140737488355328) {K : Value → World → Prop}
    (hK : ∀ a' c' w', Own w' e sz a' (n + m) c' (l ++ news) → Chg (At a) w w' → (a' = a ∨ ∃ b, a' = some ⟨b, 0, .none⟩ ∧ w.heap.size ≤ b ∧ Chg None w w') → K (.slice a' (n + m) c') w') :
    sem P (Builtin.append_ #[t, tx] ty #[.slice a n c, x]) w K := by
  obtain ⟨i, z, hi, hz, rfl, rfl, hzs⟩ := T.get
  have hlen : (l ++ news).length = (n + m) * i.size := by rw [List.length_append, h.len, hs.newsLen, Nat.add_mul]
  have room : n + m ≤ c → sem P (Builtin.append_ #[t, tx] ty #[.slice a n c, x]) w K := by
    intro hr
    rcases h.row with ⟨rfl, h2, h3⟩ | ⟨b, rest, rfl, h2, h3, h4⟩
    · obtain rfl : m = 0 := by omega
      subst h2; subst h3
      have hn : news = [] := List.eq_nil_of_length_eq_zero (by rw [hs.newsLen, Nat.zero_mul])
      subst hn
      unfold sem
      rw [run_append_nothing w t tx ty e i T.ht hi .none 0 0 (Nat.le_refl _) x hs]
      exact hK .none 0 w (by simpa using h) (Chg.refl _ _) (.inl rfl)
    · have hlr : l.length + news.length ≤ (l ++ rest).length := by
        refine Nat.le_trans ?_ h3
        rw [h.len, hs.newsLen, ← Nat.add_mul]; exact Nat.mul_le_mul_right _ hr
      have hcell : ∀ j, j < news.length → 0 + n * i.size + j < (l ++ rest).length := fun j hj => by rw [Nat.zero_add, ← h.len]; omega
      have hrun := run_append_room_src (P := P) w t tx ty e i T.ht hi b 0 n c x m news hs hr
        (fun j hj => by rw [h2.cell, List.getElem?_eq_getElem (hcell j hj)]; rfl) (fun j hj => h2.thaw (hcell j hj))
      unfold sem
      rw [hrun]
      obtain ⟨g1, g2⟩ := h2.setCells news (0 + n * i.size) (by rw [Nat.zero_add, ← h.len]; omega)
      have e1 : (l ++ rest).take (0 + n * i.size) = l := by rw [Nat.zero_add, ← h.len, List.take_left]
      rw [e1] at g1
      refine hK _ c _ ⟨hlen, .inr ⟨b, (l ++ rest).drop (0 + n * i.size + news.length), rfl, g1, ?_, hr⟩⟩ (g2.mono fun k _ hk => ⟨_, rfl, hk.symm⟩) (.inl rfl)
      rw [Nat.zero_add, ← h.len]
      simp only [List.length_append, List.length_drop] at hlr h3 ⊢
      omega
  by_cases hr : n + m ≤ c
  · exact room hr
  · have hold : (Builtin.firstCells i.size n (.slice a n c)).run P w.drew = .ok l.toArray w.drew := by
      rcases h.row with ⟨rfl, h2, h3⟩ | ⟨b, rest, rfl, h2, h3, h4⟩
      · have : l = [] := List.eq_nil_of_length_eq_zero (by rw [h.len, h2, Nat.zero_mul])
        subst this; exact run_firstCells_none _ _ _ _ _
      · refine run_firstCells_some w.drew i.size n ⟨b, 0, .none⟩ n c l h.len fun j u hj => ?_
        rw [Addr.add_lit, Nat.zero_add]
        show w.cell? _ = _
        rw [h2.cell, List.getElem?_append_left (List.getElem?_eq_some_iff.1 hj).1]; exact hj
    have hmx : n + m ≤ 9223372036854775807 := by simpa [maxLen] using h63
    have hrun := run_append_grow_src (P := P) w t tx ty e i z T.ht hi hz a n c l hold x m news hs (by omega) (by omega) (growslice_fits (by omega) hb)
    unfold sem
    rw [hrun]
    have hge := grownCap_ge w (n + m) c e
    have kn : Chg None w (w.drew.alloc (.cells ((l ++ news).toArray ++ Builtin.zeroCells z.cells (grownCap w (n + m) c e - (n + m))) e)) := Chg.trans (Chg.drew0 (D := None) w) (chg_alloc (D := None) _ _) (fun _ _ h => h.elim) (fun _ _ h => h.elim)
    refine hK _ _ _ ⟨hlen, .inr ⟨w.heap.size, (Builtin.zeroCells z.cells (grownCap w (n + m) c e - (n + m))).toList, rfl, ?_, ?_, hge⟩⟩ (kn.mono fun _ _ h => h.elim) (.inr ⟨_, rfl, Nat.le_refl _, kn⟩)
    · have := blk_alloc (w := w.drew) (t := e) (cs := (l ++ news).toArray ++ Builtin.zeroCells z.cells (grownCap w (n + m) c e - (n + m)))
      simpa using this
    · rw [List.length_append, hlen, Array.length_toList, size_zeroCells, hzs, ← Nat.add_mul]
      exact Nat.mul_le_mul_right _ (by omega)
theorem append_own {t tx ty e sz by_ : Nat} (T : SlT P t e sz by_) {w : World} {a : Option Addr} {n c : Nat} {l : List Value} (h : Own w e sz a n c l) {x : Value} {m : Nat} {news : List Value} (hs : Src P sz tx x m news w)
    (h63 : n + m ≤ maxLen) (hb : (n + m) * by_ ≤ 140737488355328) {K : Value → World → Prop}
    (hK : ∀ a' c' w', Own w' e sz a' (n + m) c' (l ++ news) → Chg (At a) w w' → (a' = a ∨ ∃ b, a' = some ⟨b, 0, .none⟩ ∧ w.heap.size ≤ b) → K (.slice a' (n + m) c') w') :
    sem P (Builtin.append_ #[t, tx] ty #[.slice a n c, x]) w K :=
  append_own' T h hs h63 hb fun a' c' w' o k f => hK a' c' w' o k (f.imp id fun ⟨b, h1, h2, _⟩ => ⟨b, h1, h2⟩)

def bv (b : UInt8) : Value := .int .u8 (b.toNat : Int)
def bvs (l : List UInt8) : List Value := l.map bv
theorem bvs_one {l : List UInt8} : ∀ u ∈ bvs l, u.oneCell' = true := fun u hu => by obtain ⟨b, _, rfl⟩ := List.mem_map.1 hu; rfl
theorem bvs_get {l : List UInt8} {j : Nat} (h : j < l.length) : (bvs l)[j]? = some (bv l[j]) := by simp [bvs, h]
theorem bvs_app (l r : List UInt8) : bvs (l ++ r) = bvs l ++ bvs r := List.map_append
@[simp] theorem bvs_len (l : List UInt8) : (bvs l).length = l.length := List.length_map _
theorem to_string {src dst e : Nat} (hs : P.underlying src = some (.slice e)) (he : P.underlying e = some (.int .u8)) (hd : P.underlying dst = some .string) {w : World} {S : Nat → Prop} {a : Option Addr} {c : Nat} {l : List UInt8} (h : Lies w S a (bvs l)) {K : Value → Prop} (hK : K (.string ⟨l.toArray⟩)) : semR P (convert src dst (.slice a l.length c)) w K := by
  unfold semR
  cases a with
  | some p =>
    rw [run_convert_bytes_back w src dst e p c l hs he hd (fun j hj => by obtain ⟨q, hq, _, hc⟩ := h j _ (bvs_get hj); cases hq; exact hc)]
    exact ⟨rfl, hK⟩
  | none =>
    have : l = [] := by
      cases l with
      | nil => rfl
      | cons v r => obtain ⟨_, hq, _⟩ := h 0 (bv v) rfl; cases hq
    subst this
    rw [run_convert_bytes_string w src dst e .none _ c hs he hd]
    exact ⟨rfl, hK⟩
theorem of_string {src dst e : Nat} (hs : P.underlying src = some .string) (hd : P.underlying dst = some (.slice e)) (he : P.underlying e = some (.int .u8)) {w : World} {l : List UInt8} {K : Value → World → Prop}
    (hK : ∀ b c w', Own w' e 1 (some ⟨b, 0, .none⟩) l.length c (bvs l) → Chg None w w' → w.heap.size ≤ b → K (.slice (some ⟨b, 0, .none⟩) l.length c) w') : sem P (convert src dst (.string ⟨l.toArray⟩)) w K := by
  unfold sem
  rw [run_bytes_of_string w src dst e ⟨l.toArray⟩ hs hd he]
  have hsz : (⟨l.toArray⟩ : ByteArray).size = l.length := by simp [ByteArray.size]
  have hge := grownCap_ge w l.length 0 e
  simp only [hsz]
  refine hK _ _ _ ⟨by simp, .inr ⟨w.heap.size, List.replicate (grownCap w l.length 0 e - l.length) (.int .u8 0), rfl, ?_, by simp; omega, hge⟩⟩ (Chg.trans (Chg.drew0 (D := None) w) (chg_alloc (D := None) _ _) (fun _ _ h => h.elim) (fun _ _ h => h.elim)) (Nat.le_refl _)
  refine ⟨((bytesRow ⟨l.toArray⟩ (grownCap w l.length 0 e)).size, (bytesRow ⟨l.toArray⟩ (grownCap w l.length 0 e)).size + 1), ?_, ?_⟩
  · show (w.heap.push _)[w.heap.size]? = _
    simp only [Array.getElem?_push_size]
    congr 2
    apply Array.ext'
    simp [bytesRow, bvs, bv, hsz]
  · intro i hi
    have : (bytesRow ⟨l.toArray⟩ (grownCap w l.length 0 e)).size = (bvs l ++ List.replicate (grownCap w l.length 0 e - l.length) (Value.int .u8 0)).length := by simp [bytesRow, hsz]
    rw [this]; omega
end Go.Sh
namespace Go.Sh
open Go.ChangeShapes
variable {P : Program}

def Recs (w : World) (S : Nat → Prop) (a : Option Addr) (rs : List (List UInt8)) : Prop :=
  ∀ (j : Nat) (r : List UInt8), rs[j]? = some r → ∃ p q c, a = some p ∧ S p.block ∧ w.cell? (p.add j) = some (.slice q r.length c) ∧ r.length ≤ c ∧ Lies w S q (bvs r)
section
variable {w w' : World} {S : Nat → Prop} {a : Option Addr} {rs : List (List UInt8)}
theorem Recs.chg {D : Nat → Prop} (h : Recs w S a rs) (k : Chg D w w') (hd : ∀ x, x < w.heap.size → S x → ¬ D x) : Recs w' S a rs := fun j r hj => by
  obtain ⟨p, q, c, h1, h2, h3, h4, h5⟩ := h j r hj
  refine ⟨p, q, c, h1, h2, ?_, h4, h5.chg k hd⟩
  have hb := World.block_lt_of_cell? _ _ h3
  rw [block_add] at hb
  rw [World.cell?_of_block (w := w) (by rw [block_add]; exact k.block _ hb (hd _ hb h2))]
  exact h3
theorem Recs.mono {S' : Nat → Prop} (h : Recs w S a rs) (hs : ∀ k, S k → S' k) : Recs w S' a rs := fun j r hj => by
  obtain ⟨p, q, c, h1, h2, h3, h4, h5⟩ := h j r hj
  exact ⟨p, q, c, h1, hs _ h2, h3, h4, h5.mono hs⟩
theorem Recs.chg0 (h : Recs w S a rs) (k : Chg None w w') : Recs w' S a rs := h.chg k (fun _ _ _ h => h)
theorem Lies.chg0 {l : List Value} (h : Lies w S a l) (k : Chg None w w') : Lies w' S a l := h.chg k (fun _ _ _ h => h)
theorem Own.chg0 {e sz n c : Nat} {l : List Value} (h : Own w e sz a n c l) (k : Chg None w w') : Own w' e sz a n c l := h.chg k (fun _ _ h => h)
end
theorem src_bytes {w : World} {S : Nat → Prop} {tx e' : Nat} (hk : P.underlying tx = some (.slice e')) {a : Option Addr} {c : Nat} {l : List UInt8} (h : Lies w S a (bvs l)) : Src P 1 tx (.slice a l.length c) l.length (bvs l) w := src_lies hk h (by simp) (.inr (by decide)) bvs_one
theorem Chg.none_trans {a b c : World} (h : Chg None a b) (k : Chg None b c) : Chg None a c := Chg.trans h k (fun _ _ h => h) (fun _ _ h => h)
theorem Chg.fresh {D : Nat → Prop} {a b c : World} (h : Chg None a b) (k : Chg D b c) (hd : ∀ x, D x → a.heap.size ≤ x) : Chg None a c := Chg.trans h k (fun _ _ h => h) (fun x hx h => absurd (hd x h) (by omega))
theorem wrap_id {n : Int} (h0 : -9223372036854775808 ≤ n) (h1 : n < 9223372036854775808) : IntKind.wrap .i64 n = n := by rw [IntKind.wrap_i64]; omega
theorem wrap_nat {n : Nat} (h1 : n < 9223372036854775807) : IntKind.wrap .i64 (((n : Nat) : Int) + 1) = ((n + 1 : Nat) : Int) := by rw [IntKind.wrap_i64]; omega
end Go.Sh
namespace Go.Sh
open Go.ChangeShapes
variable {P : Program}

theorem make_own {t e by_ : Nat} {z : Value} (ht : P.underlying t = some (.slice e)) (info : (P.info? e).map (fun i => (i.zero, i.size, i.bytes)) = some (some z, 1, by_)) (hz : z.cells = #[z]) {w : World} {l c : Nat} (hlc : l ≤ c) (hb : by_ * c ≤ 281474976710656) (h63 : c ≤ 9223372036854775807) {K : Value → World → Prop}
    (hK : ∀ b w', Own w' e 1 (some ⟨b, 0, .none⟩) l c (List.replicate l z) → Chg None w w' → w.heap.size ≤ b → K (.slice (some ⟨b, 0, .none⟩) l c) w') : sem P (Instr.makeSlice t (.int .i64 (l : Int)) (.int .i64 (c : Int))) w K := by
  obtain ⟨i, hi, h⟩ := Option.map_eq_some_iff.1 info
  simp only [Prod.mk.injEq] at h
  obtain ⟨hzz, hs, rfl⟩ := h
  have hb' : (i.bytes : Int) * (c : Int) ≤ 281474976710656 := by
    have h : ((i.bytes * c : Nat) : Int) ≤ 281474976710656 := by omega
    rwa [Int.natCast_mul] at h
  unfold sem
  rw [run_make (P := P) w t e i z ht hi hzz .i64 .i64 l c (by omega) (by omega) hb' (by omega)]
  simp only [Int.toNat_natCast, hs, Nat.mul_one, hz]
  refine hK _ _ ⟨by simp, .inr ⟨w.heap.size, List.replicate (c - l) z, rfl, ?_, by simp; omega, hlc⟩⟩ (chg_alloc w _) (Nat.le_refl _)
  have := blk_alloc (w := w) (t := e) (cs := madeCells #[z] c)
  have e1 : (madeCells #[z] c).toList = List.replicate l z ++ List.replicate (c - l) z := by
    rw [List.replicate_append_replicate, show l + (c - l) = c by omega]
    apply List.ext_getElem?
    intro j
    by_cases hj : j < c
    · simp [madeCells, hj, Nat.mod_one]
    · simp [madeCells, hj]
  rw [e1] at this; exact this

theorem store_own {w : World} {e n c : Nat} {a : Option Addr} {l : List Value} (h : Own w e 1 a n c l) {j : Nat} (hj : j < n) {v : Value} (hv : v.oneCell' = true) {K : World → Prop} (hK : ∀ w', Own w' e 1 a n c (l.set j v) → Chg (At a) w w' → K w') : opnA a fun ad => stC (ad.add (j * 1)) v w K := by
  have hl := h.len
  rcases h.row with ⟨rfl, h2, h3⟩ | ⟨b, rest, rfl, h2, h3, h4⟩
  · omega
  · simp only [opnA, Nat.mul_one, Addr.add_lit, Nat.zero_add]
    refine h2.store (by rw [List.length_append]; omega) hv fun b1 k1 => hK _ ⟨by simp [hl], .inr ⟨b, rest, rfl, ?_, by simpa using h3, h4⟩⟩ (k1.mono fun k _ hk => ⟨_, rfl, hk.symm⟩)
    rw [List.set_append_left _ _ (by omega)] at b1; exact b1

abbrev Part := Option Addr × Nat × List UInt8
def pv (x : Part) : Value := .slice x.1 x.2.2.length x.2.1
structure Parts (w : World) (B e2 e1 : Nat) (a : Option Addr) (n c : Nat) (ps : List Part) : Prop where
  own : Own w e2 1 a n c (ps.map pv)
  each : ∀ x ∈ ps, Own w e1 1 x.1 x.2.2.length x.2.1 (bvs x.2.2) ∧ ∀ k, At x.1 k → B ≤ k ∧ ¬ At a k
  apart : ps.Pairwise fun x y => ∀ k, At x.1 k → ¬ At y.1 k
  base : ∀ k, At a k → B ≤ k
theorem Parts.len {w : World} {B e2 e1 n c : Nat} {a : Option Addr} {ps : List Part} (h : Parts w B e2 e1 a n c ps) : ps.length = n := by have := h.own.len; simpa using this
theorem Parts.nil {w : World} {B e2 e1 : Nat} : Parts w B e2 e1 .none 0 0 [] := ⟨Own.nil, by simp, .nil, by rintro k ⟨p, hp, _⟩; cases hp⟩
theorem Parts.chg {w w' : World} {B e2 e1 n c : Nat} {a : Option Addr} {ps : List Part} {D : Nat → Prop} (h : Parts w B e2 e1 a n c ps) (k : Chg D w w') (h1 : ∀ x, At a x → ¬ D x) (h2 : ∀ x ∈ ps, ∀ k, At x.1 k → ¬ D k) : Parts w' B e2 e1 a n c ps :=
  ⟨h.own.chg k h1, fun x hx => ⟨(h.each x hx).1.chg k (h2 x hx), (h.each x hx).2⟩, h.apart, h.base⟩
theorem Parts.chg0 {w w' : World} {B e2 e1 n c : Nat} {a : Option Addr} {ps : List Part} (h : Parts w B e2 e1 a n c ps) (k : Chg None w w') : Parts w' B e2 e1 a n c ps := h.chg k (fun _ _ h => h) (fun _ _ _ _ h => h)
end Go.Sh
