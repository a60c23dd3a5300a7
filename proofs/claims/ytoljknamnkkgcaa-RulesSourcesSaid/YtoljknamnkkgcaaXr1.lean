/-
  Texts Va, Vb1, Vb2, Vb3, Vb4, Vb5 of this proof, joined.
-/
import Derived.WalkKit
import Derived.OrdersHeld
import Derived.Deep.LoopGhost
/-
  A verification-condition calculus over the model's code: the definitions. 'V P c an Q env w' is a sufficient condition for 'Code.wp P c ..' (proved in YtoljknamnkkgcaaVb). It holds of every program; nothing is assumed.
-/
namespace Go.VC
open Go

/-- A slice value's three parts. -/
structure Sl where
  a : Option Addr
  n : Nat
  c : Nat
/-- A plain place: block and offset. -/
structure Pt where
  b : Nat
  o : Nat

abbrev Env := List (Nat × Value)
def look : Env → Nat → Value
  | [], _ => undef
  | (t, v) :: r, s => bif Nat.beq t s then v else look r s
def known : Env → Nat → Bool
  | [], _ => false
  | (t, _) :: r, s => bif Nat.beq t s then true else known r s
def putE (env : Env) (d : Option Nat) (v : Value) : Env :=
  match d with
  | some t => (t, v) :: env
  | none => env
def ev (env : Env) : Operand → Value
  | .tmp t => look env t
  | .const v => v
  | .global g => .pointer (some ⟨g, 0, none⟩)
  | .func f => .func (.func f) #[] #[]
def knownO (env : Env) : Operand → Bool
  | .tmp t => known env t
  | _ => true
def allKnown (env : Env) : List Operand → Bool
  | [] => true
  | x :: r => bif knownO env x then allKnown env r else false

/-! ### shapes -/
inductive SK where
  | int (k : IntKind) | bool | slice | ptr | map | func | any
def ikEq : IntKind → IntKind → Bool
  | .i8, .i8 | .i16, .i16 | .i32, .i32 | .i64, .i64 | .u8, .u8 | .u16, .u16 | .u32, .u32 | .u64, .u64 => true
  | _, _ => false
abbrev SK.T : SK → Type
  | .int _ => Int
  | .bool => Bool
  | .slice => Sl
  | .ptr => Pt
  | .map => Option Nat
  | .func => Value
  | .any => Value
def SK.enc : (s : SK) → s.T → Value
  | .int k, n => .int k n
  | .bool, b => .bool b
  | .slice, s => .slice s.a s.n s.c
  | .ptr, p => .pointer (some ⟨p.b, p.o, none⟩)
  | .map, m => .map m
  | .func, v => v
  | .any, v => v
/-- What a value of a shape is, handed on. -/
def SK.dec (s : SK) (v : Value) (K : s.T → Prop) : Prop :=
  match s, v, K with
  | .int k, .int k' n, K => bif ikEq k k' then K n else False
  | .bool, .bool b, K => K b
  | .slice, .slice a n c, K => K ⟨a, n, c⟩
  | .ptr, .pointer (some ⟨b, o, none⟩), K => K ⟨b, o⟩
  | .map, .map m, K => K m
  | .func, v, K => K v
  | .any, v, K => K v
  | _, _, _ => False
abbrev Live := List (Nat × SK)
@[reducible] def Cont : Live → Type
  | [] => World → Prop
  | (_, s) :: r => s.T → Cont r
def appC : (L : Live) → Env → Cont L → World → Prop
  | [], _, K, w => K w
  | (t, s) :: r, env, K, w => bif known env t then s.dec (look env t) (fun x => appC r env (K x) w) else False
def lamC : (L : Live) → (Env → World → Prop) → Env → Cont L
  | [], f, acc => fun w => f acc w
  | (t, s) :: r, f, acc => fun x => lamC r f ((t, s.enc x) :: acc)
@[reducible] def impC : (L : Live) → Cont L → Cont L → Prop
  | [], J, K => ∀ w, J w → K w
  | (_, _) :: r, J, K => ∀ x, impC r (J x) (K x)
@[reducible] def ltC : (L : Live) → Nat → (Nat → Cont L) → Cont L
  | [], n, J => fun w => ∃ m, m < n ∧ J m w
  | (_, _) :: r, n, J => fun x => ltC r n (fun m => J m x)
/-- A place where ways meet: some assertion holds there and leads on. -/
def Join (L : Live) (K : Cont L) (body : Cont L → Prop) : Prop := ∃ J, impC L J K ∧ body J
/-- A loop: an invariant with a number that every round lowers. -/
def LoopV (L : Live) (start : Cont L → Prop) (body : Cont L → Cont L) : Prop :=
  ∃ J : Nat → Cont L, (∃ n, start (J n)) ∧ ∀ n, impC L (J n) (body (ltC L n J))

theorem impC_refl : ∀ (L : Live) (K : Cont L), impC L K K
  | [], _ => fun _ h => h
  | _ :: r, K => fun x => impC_refl r (K x)
/-- The ways' continuation itself is taken for the assertion. -/
theorem Join.dir {L : Live} {K : Cont L} {body : Cont L → Prop} (h : body K) : Join L K body := ⟨K, impC_refl L K, h⟩
theorem LoopV.intro {L : Live} {start : Cont L → Prop} {body : Cont L → Cont L} (J : Nat → Cont L) (n : Nat) (h0 : start (J n)) (hs : ∀ n, impC L (J n) (body (ltC L n J))) : LoopV L start body := ⟨J, ⟨n, h0⟩, hs⟩

/-! ### types -/
def skOf (P : Program) (t : TypeId) : SK :=
  match P.underlying t with
  | some (.int k) => .int k
  | some .bool => .bool
  | some (.slice _) => .slice
  | some (.pointer _) => .ptr
  | some (.map _ _) => .map
  | some (.func _ _ _) => .func
  | _ => .any
def cellsSK (P : Program) : Nat → TypeId → List SK
  | 0, _ => []
  | d + 1, t =>
    match P.underlying t with
    | some (.struct fs) => (fs.toList.map fun f => cellsSK P d f.type).flatten
    | some (.array n e) => (List.replicate n (cellsSK P d e)).flatten
    | _ => [skOf P t]
inductive TS where
  | bad | one (s : SK) | flat (ss : List SK) | opq (n : Nat)
def flatOr (P : Program) (m : Nat) (t : TypeId) : TS :=
  bif Nat.ble (P.cellsOf t) m then (bif Nat.beq (cellsSK P 6 t).length (P.cellsOf t) then .flat (cellsSK P 6 t) else .bad) else .opq (P.cellsOf t)
def tsOf (P : Program) (t : TypeId) : TS :=
  match P.underlying t with
  | some (.struct _) => flatOr P 8 t
  | some (.array _ _) => flatOr P 4 t
  | none => .bad
  | _ => .one (skOf P t)
def exSK : SK → (Value → Prop) → Prop
  | .int k, K => ∃ n : Int, K (.int k n)
  | .bool, K => ∃ b : Bool, K (.bool b)
  | .slice, K => ∃ s : Sl, K (.slice s.a s.n s.c)
  | .ptr, K => ∃ p : Pt, K (.pointer (some ⟨p.b, p.o, none⟩))
  | .map, K => ∃ m : Option Nat, K (.map m)
  | .func, K => ∃ (f : Nat) (cap : List Value), K (.func (.func f) #[] cap.toArray)
  | .any, K => ∃ v : Value, K v
def exSKs : List SK → (List Value → Prop) → Prop
  | [], K => K []
  | s :: r, K => exSK s fun v => exSKs r fun vs => K (v :: vs)
def exTS : TS → (Value → Prop) → Prop
  | .bad, _ => False
  | .one s, K => exSK s K
  | .flat ss, K => exSKs ss fun vs => K (.agg vs.toArray)
  | .opq n, K => ∃ cs : List Value, cs.length = n ∧ K (.agg cs.toArray)
def exTSs : List TS → (List Value → Prop) → Prop
  | [], K => K []
  | t :: r, K => exTS t fun v => exTSs r fun vs => K (v :: vs)
/-- A result of a type: one value, or a tuple of them. -/
def exRes (P : Program) (t : TypeId) (K : Value → Prop) : Prop :=
  match P.underlying t with
  | some (.tuple ts) => exTSs (ts.toList.map (tsOf P)) fun vs => K (.tuple vs.toArray)
  | _ => exTS (tsOf P t) K

/-! ### memory -/
def cellsV : Value → List Value
  | .agg cs => cs.toList
  | v => [v]
/-- The cells from an offset on hold these values. -/
def rd (w : World) (b : Nat) : Nat → List Value → Prop
  | _, [] => True
  | o, v :: r => w.cell? ⟨b, o, none⟩ = some v ∧ rd w b (o + 1) r
/-- The cells from an offset on may be written. -/
def mayWr (w : World) (b : Nat) : Nat → Nat → Prop
  | _, 0 => True
  | o, n + 1 => (∃ u, w.cell? ⟨b, o, none⟩ = some u) ∧ w.frozen? ⟨b, o, none⟩ = false ∧ mayWr w b (o + 1) n
def put (w : World) (b : Nat) : Nat → List Value → World
  | _, [] => w
  | o, v :: r => put (w.setCell ⟨b, o, none⟩ v) b (o + 1) r
def StoreOk (w : World) (b o : Nat) (vs : List Value) (n : Nat) : Prop :=
  vs.length = n ∧ (∀ v ∈ vs, v.oneCell' = true) ∧ mayWr w b o n
def zc (P : Program) (t : TypeId) : Array Value := (((P.info? t).bind (·.zero)).map (·.cells)).getD #[]
def hasZero (P : Program) (t : TypeId) : Bool := ((P.info? t).bind (·.zero)).isSome
/-- Where 's[l:]' begins. -/
def subA (a : Option Addr) (m l s : Nat) : Option Addr := if m = l then a else a.map (·.add (l * s))

/-! ### operations that look at no memory -/
def bitsI (op : BinOp) (k : IntKind) (x y : Int) : Int :=
  match op with
  | .and => k.wrap (BitVec.ofInt k.bits x &&& BitVec.ofInt k.bits y).toNat
  | .or => k.wrap (BitVec.ofInt k.bits x ||| BitVec.ofInt k.bits y).toNat
  | .xor => k.wrap (BitVec.ofInt k.bits x ^^^ BitVec.ofInt k.bits y).toNat
  | _ => k.wrap (BitVec.ofInt k.bits x &&& ~~~BitVec.ofInt k.bits y).toNat
def intV (op : BinOp) (k : IntKind) (a b : Int) (K : Value → Prop) : Prop :=
  match op with
  | .add => K (.int k (k.wrap (a + b)))
  | .sub => K (.int k (k.wrap (a - b)))
  | .mul => K (.int k (k.wrap (a * b)))
  | .quo => b ≠ 0 ∧ K (.int k (k.wrap (a.tdiv b)))
  | .rem => b ≠ 0 ∧ K (.int k (a.tmod b))
  | .and => K (.int k (bitsI .and k a b))
  | .or => K (.int k (bitsI .or k a b))
  | .xor => K (.int k (bitsI .xor k a b))
  | .andNot => K (.int k (bitsI .andNot k a b))
  | .eql => K (.bool (a == b))
  | .neq => K (.bool (a != b))
  | .lss => K (.bool (decide (a < b)))
  | .leq => K (.bool (decide (a ≤ b)))
  | .gtr => K (.bool (decide (a > b)))
  | .geq => K (.bool (decide (a ≥ b)))
  | _ => False
/-- '==' or '!=' of two structs or arrays, as the model runs it. -/
def aggEq (op : BinOp) (t : TypeId) (x y : Value) : Sem Value := do
  eqGuard op t (.tmp 0) (.tmp 0) x y
  binOp op t x y
def binV (P : Program) (op : BinOp) (t : TypeId) (x y : Value) (K : Value → Prop) : Prop :=
  match x, y with
  | .int k a, .int k' b =>
    match op with
    | .shl => 0 ≤ b ∧ K (.int k (k.wrap (a * 2 ^ (min b.toNat k.bits))))
    | .shr => 0 ≤ b ∧ K (.int k (a.fdiv (2 ^ (min b.toNat k.bits))))
    | _ => bif ikEq k k' then intV op k a b K else False
  | .bool a, .bool b =>
    match op, P.underlying t with
    | .eql, some .bool => K (.bool (a == b))
    | .neq, some .bool => K (.bool (!(a == b)))
    | _, _ => False
  | .agg xs, .agg ys =>
    match op with
    | .eql => ∃ r : Bool, (∀ w, (aggEq .eql t (.agg xs) (.agg ys)).run P w = .ok (.bool r) w) ∧ K (.bool r)
    | .neq => ∃ r : Bool, (∀ w, (aggEq .neq t (.agg xs) (.agg ys)).run P w = .ok (.bool r) w) ∧ K (.bool r)
    | _ => False
  | .map m, .map none =>
    match op, P.underlying t with
    | .eql, some (.map _ _) => K (.bool m.isNone)
    | .neq, some (.map _ _) => K (.bool (!m.isNone))
    | _, _ => False
  | .slice a _ _, .slice none _ _ =>
    match op, P.underlying t with
    | .eql, some (.slice _) => K (.bool a.isNone)
    | .neq, some (.slice _) => K (.bool (!a.isNone))
    | _, _ => False
  | _, _ => False
def unV (op : UnOp) (x : Value) (K : Value → Prop) : Prop :=
  match op, x with
  | .not, .bool b => K (.bool (!b))
  | .neg, .int k n => K (.int k (k.wrap (0 - n)))
  | _, _ => False
def convV (P : Program) (s d : TypeId) (x : Value) (K : Value → Prop) : Prop :=
  match P.underlying s, P.underlying d, x with
  | some _, some (.int k), .int _ n => K (.int k (k.wrap n))
  | _, _, _ => False
/-- A field's place in a struct: its offset, its size, is it an aggregate. -/
def fieldOf (P : Program) (s : TypeId) (f : Nat) : Option Field :=
  match P.underlying s with
  | some (.struct fs) => fs.toList[f]?
  | _ => none
def isAggT (P : Program) (t : TypeId) : Option Bool :=
  match P.underlying t with
  | some (.struct _) | some (.array _ _) => some true
  | some _ => some false
  | none => none
def fieldAddrV (P : Program) (s : TypeId) (x : Value) (f : Nat) (K : Value → Prop) : Prop :=
  match fieldOf P s f, x with
  | some fd, .pointer (some ⟨b, o, none⟩) => bif Nat.beq (P.cellsOf fd.type) 0 then False else K (.pointer (some ⟨b, o + fd.offset, none⟩))
  | _, _ => False
def indexAddrV (P : Program) (t : TypeId) (x i : Value) (K : Value → Prop) : Prop :=
  match P.underlying t, x, i with
  | some (.slice e), .slice a n _, .int _ i => bif Nat.beq (P.cellsOf e) 0 then False else ∃ p : Pt, a = some ⟨p.b, p.o, none⟩ ∧ 0 ≤ i ∧ i < (n : Int) ∧ K (.pointer (some ⟨p.b, p.o + i.toNat * P.cellsOf e, none⟩))
  | some (.array n e), .pointer (some ⟨b, o, none⟩), .int _ i => bif Nat.beq (P.cellsOf e) 0 then False else 0 ≤ i ∧ i < (n : Int) ∧ K (.pointer (some ⟨b, o + i.toNat * P.cellsOf e, none⟩))
  | _, _, _ => False
def indexV (P : Program) (t : TypeId) (x i : Value) (K : Value → Prop) : Prop :=
  match P.underlying t, x, i with
  | some (.array n e), .agg cs, .int _ i =>
    match isAggT P e with
    | some false => bif Nat.beq (P.cellsOf e) 1 then 0 ≤ i ∧ i < (n : Int) ∧ exSK (skOf P e) (fun v => cs.toList[i.toNat]? = some v ∧ K v) else False
    | _ => False
  | _, _, _ => False
def fieldV (P : Program) (t : TypeId) (x : Value) (f : Nat) (K : Value → Prop) : Prop :=
  match fieldOf P t f, x with
  | some fd, .agg cs =>
    match isAggT P fd.type with
    | some true => K (.agg ((cs.toList.drop fd.offset).take (P.cellsOf fd.type)).toArray)
    | some false => (match cs.toList[fd.offset]? with | some v => K v | none => False)
    | none => False
  | _, _ => False
/-- A run of cells laid into a list from a place on. -/
def setR : List Value → Nat → List Value → List Value
  | cs, _, [] => cs
  | cs, o, v :: r => setR (cs.set o v) (o + 1) r
def placesOf (P : Program) (t : TypeId) : Option (Nat → Option (Nat × Nat)) :=
  match P.underlying t with
  | some (.struct fs) => (fs.toList.mapM (fun f => (P.info? f.type).map fun i => (f.offset, i.size))).map fun places i => places[i]?
  | some (.array _ e) => (P.info? e).map fun ie i => some (i * ie.size, ie.size)
  | _ => none
def fillV (place : Nat → Option (Nat × Nat)) : List (Nat × Value) → List Value → (Value → Prop) → Prop
  | [], cs, K => K (.agg cs.toArray)
  | (i, v) :: r, cs, K =>
    match place i with
    | none => False
    | some (o, s) =>
      match v with
      | .agg xs => xs.toList.length = s ∧ o + s ≤ cs.length ∧ fillV place r (setR cs o xs.toList) K
      | .tuple _ => False
      | v => bif (Nat.beq s 1 && Nat.ble (o + 1) cs.length) then fillV place r (cs.set o v) K else False
def buildV (P : Program) (t : TypeId) (ps : List (Nat × Value)) (K : Value → Prop) : Prop :=
  match (P.info? t).bind (·.zero), placesOf P t with
  | some z, some place => fillV place ps z.cells.toList K
  | _, _ => False
def bndV (x : Option Value) (y : Nat) (d : Nat) (K : Nat → Prop) : Prop :=
  match x with
  | none => K d
  | some (.int _ i) => 0 ≤ i ∧ i ≤ (y : Int) ∧ K i.toNat
  | _ => False
def sliceV (P : Program) (t : TypeId) (x : Value) (lo hi mx : Option Value) (K : Value → Prop) : Prop :=
  match P.underlying t, x with
  | some (.slice e), .slice a n c =>
    bif Nat.beq (P.cellsOf e) 0 then False else
    bndV mx c c fun m => bndV hi m n fun h =>
      match hi, mx with
      | none, some _ => False
      | _, _ =>
      match lo with
      | none => K (.slice a h m)
      | some l => bndV (some l) h 0 fun l => K (.slice (subA a m l (P.cellsOf e)) (h - l) (m - l))
  | some (.array n e), .pointer (some ⟨b, o, none⟩) =>
    bif Nat.beq (P.cellsOf e) 0 then False else
    (match lo, hi, mx with
     | none, none, none => K (.slice (some ⟨b, o, none⟩) n n)
     | _, _, _ => False)
  | _, _ => False
def lenV (P : Program) (t : TypeId) (x : Value) (K : Value → Prop) : Prop :=
  match P.underlying t, x with
  | some (.slice _), .slice _ n _ => K (.int .i64 n)
  | some (.array n _), _ => K (.int .i64 n)
  | some (.map _ _), .map none => K (.int .i64 0)
  | _, _ => False
def pureV (P : Program) (ρ : Operand → Value) (op : Op) (K : Value → Prop) : Prop :=
  match op with
  | .move x => K (ρ x)
  | .assign x => K (ρ x)
  | .pick c a b => (match ρ c with | .bool true => K (ρ a) | .bool false => K (ρ b) | _ => False)
  | .binOp op t x y _ => binV P op t (ρ x) (ρ y) K
  | .unOp op _ x => unV op (ρ x) K
  | .convert s d x => convV P s d (ρ x) K
  | .nilCheck x => (match ρ x with | .pointer (some a) => K (.pointer (some a)) | _ => False)
  | .fieldAddr s x f => fieldAddrV P s (ρ x) f K
  | .indexAddr t x i => indexAddrV P t (ρ x) (ρ i) K
  | .index t x i => indexV P t (ρ x) (ρ i) K
  | .field t x f => fieldV P t (ρ x) f K
  | .build t ps => buildV P t (ps.toList.map fun p => (p.1, ρ p.2)) K
  | .makeFunc (.func f) first cap => (match first.toList with | [] => K (.func (.func f) #[] (cap.toList.map ρ).toArray) | _ => False)
  | .slice t x lo hi mx => sliceV P t (ρ x) (lo.map ρ) (hi.map ρ) (mx.map ρ) K
  | .extract x i => (match ρ x with | .tuple vs => (match vs.toList[i]? with | some v => K v | none => False) | _ => False)
  | .call { callee := .builtin b, args := xs, argTypes := ts } =>
    (match b, xs.toList, ts.toList with
     | .len, [x], [t] => lenV P t (ρ x) K
     | .max, [x, y], _ => (match ρ x, ρ y with | .int k a, .int _ b => K (.int k (if b > a then b else a)) | _, _ => False)
     | .min, [x, y], _ => (match ρ x, ρ y with | .int k a, .int _ b => K (.int k (if b < a then b else a)) | _, _ => False)
     | _, _, _ => False)
  | _ => False

/-! ### operations that read memory: 'At φ': φ holds of the world, or of all worlds that come up -/
def loadV (P : Program) (At : (World → Prop) → Prop) (t : TypeId) (b o : Nat) (K : Value → Prop) : Prop :=
  match tsOf P t with
  | .bad => False
  | .one s => exSK s fun v => At (fun w => w.cell? ⟨b, o, none⟩ = some v) ∧ K v
  | .flat ss => exSKs ss fun vs => At (fun w => rd w b o vs) ∧ K (.agg vs.toArray)
  | .opq n => ∃ cs : List Value, cs.length = n ∧ At (fun w => rd w b o cs) ∧ K (.agg cs.toArray)
def lookupV (P : Program) (At : (World → Prop) → Prop) (t : TypeId) (m : Option Nat) (key : Value) (ok : Bool) (K : Value → Prop) : Prop :=
  match P.underlying t with
  | some (.map _ e) =>
    match ok with
    | false => exTS (tsOf P e) fun v => At (fun w => (Instr.lookup t (.map m) key false).run P w = .ok v w) ∧ K v
    | true => exTS (tsOf P e) fun v => ∃ b : Bool, At (fun w => (Instr.lookup t (.map m) key true).run P w = .ok (.tuple #[v, .bool b]) w) ∧ K (.tuple #[v, .bool b])
  | _ => False
def readV (P : Program) (At : (World → Prop) → Prop) (ρ : Operand → Value) (ent : Option (TypeId × TypeId)) (op : Op) (T : TypeId) (K : Value → Prop) : Prop :=
  match op with
  | .load t a => (match ρ a with | .pointer (some ⟨b, o, none⟩) => loadV P At t b o K | _ => False)
  | .lookup t m i ok => (match ρ m with | .map m => lookupV P At t m (ρ i) ok K | _ => False)
  | .entry it =>
    (match ent with
     | some (kt, vt) => exTS (tsOf P kt) fun k => exTS (tsOf P vt) fun v => At (fun w => (Instr.entry (ρ it)).run P w = .ok (.tuple #[k, v]) w) ∧ K (.tuple #[k, v])
     | none => False)
  | .call { callee := .builtin .len, args := xs, argTypes := ts } =>
    (match xs.toList, ts.toList with
     | [x], [t] =>
       (match ρ x with
        | .map (some m) => ∃ n : Int, At (fun w => (Builtin.len_ #[t] T #[.map (some m)]).run P w = .ok (.int .i64 n) w) ∧ K (.int .i64 n)
        | _ => pureV P ρ op K)
     | _, _ => False)
  | _ => pureV P ρ op K

/-! ### operations that change the world -/
def isEff : Op → Bool
  | .store .. | .alloc _ | .box .. | .buildSlice .. | .makeMap .. | .makeSlice .. | .mapUpdate .. | .range .. | .next .. => true
  | .call { callee := .value _, .. } => true
  | .call { callee := .builtin .append, .. } | .call { callee := .builtin .copy, .. } | .call { callee := .builtin .delete, .. } | .call { callee := .builtin .clear, .. } => true
  | _ => false
def callable (P : Program) (f : FuncId) : Bool :=
  match P.funcs[f]? with
  | some fn => !(fn.name == "runtime.NumGoroutine") && fn.body.isSome
  | none => false
def callV (P : Program) (f : FuncId) (args : List Value) (T : TypeId) (K : Value → World → Prop) (w : World) : Prop :=
  bif callable P f then Calls P f args.toArray w (fun e w' => exRes P T fun v => e = .returned v ∧ K v w') else False
def runS (P : Program) (m : Sem Value) (K : Value → World → Prop) (w : World) : Prop :=
  ∃ (s : Sl) (w' : World), m.run P w = .ok (.slice s.a s.n s.c) w' ∧ K (.slice s.a s.n s.c) w'
def effV (P : Program) (ρ : Operand → Value) (op : Op) (T : TypeId) (K : Value → World → Prop) (w : World) : Prop :=
  match op with
  | .store t a x =>
    (match ρ a with
     | .pointer (some ⟨b, o, none⟩) => bif Nat.beq (P.cellsOf t) 0 then False else StoreOk w b o (cellsV (ρ x)) (P.cellsOf t) ∧ K undef (put w b o (cellsV (ρ x)))
     | _ => False)
  | .alloc t => bif hasZero P t then K (.pointer (some ⟨w.heap.size, 0, none⟩)) (w.alloc (.cells (zc P t) t)) else False
  | .box t x => K (.pointer (some ⟨w.heap.size, 0, none⟩)) (w.alloc (.cells (cellsV (ρ x)).toArray t))
  | .buildSlice t n ps => runS P (Instr.buildSlice t n (ps.toList.map fun p => (p.1, ρ p.2)).toArray) K w
  | .makeMap _ none => K (.map (some w.heap.size)) (w.alloc (.map #[] 0))
  | .makeSlice t l c => runS P (Instr.makeSlice t (ρ l) (ρ c)) K w
  | .mapUpdate t m k x => ∃ w', (Instr.mapUpdate t (ρ m) (ρ k) (ρ x)).run P w = .ok () w' ∧ K undef w'
  | .range t x => ∃ (p : Pt) (w' : World), (Instr.range t (ρ x)).run P w = .ok (.pointer (some ⟨p.b, p.o, none⟩)) w' ∧ K (.pointer (some ⟨p.b, p.o, none⟩)) w'
  | .next it false => ∃ (b : Bool) (kv : List Value) (w' : World), (Instr.next (ρ it) false T).run P w = .ok (.tuple (Value.bool b :: kv).toArray) w' ∧ K (.tuple (Value.bool b :: kv).toArray) w'
  | .call { callee := .value f, args := xs, .. } =>
    (match ρ f with
     | .func (.func i) first cap => callV P i (first.toList ++ xs.toList.map ρ ++ cap.toList) T K w
     | _ => False)
  | .call { callee := .builtin b, args := xs, argTypes := ts } =>
    (match b, xs.toList with
     | .append, [x, y] => runS P (Builtin.append_ ts T #[ρ x, ρ y]) K w
     | .copy, [x, y] => ∃ (n : Int) (w' : World), (Builtin.copy_ ts T #[ρ x, ρ y]).run P w = .ok (.int .i64 n) w' ∧ K (.int .i64 n) w'
     | .delete, [x, y] => ∃ (w' : World), (Builtin.delete_ ts T #[ρ x, ρ y]).run P w = .ok (.tuple #[]) w' ∧ K (.tuple #[]) w'
     | .clear, [x] => ∃ (w' : World), (Builtin.clear_ ts T #[ρ x]).run P w = .ok (.tuple #[]) w' ∧ K (.tuple #[]) w'
     | _, _ => False)
  | _ => False

/-- The operands of those operations that this calculus serves. -/
def opnds : Op → List Operand
  | .move x | .assign x | .unOp _ _ x | .convert _ _ x | .nilCheck x | .fieldAddr _ x _ | .field _ x _ | .extract x _ | .load _ x | .entry x | .box _ x | .range _ x | .next x _ => [x]
  | .binOp _ _ x y _ | .indexAddr _ x y | .index _ x y | .lookup _ x y _ | .store _ x y | .makeSlice _ x y => [x, y]
  | .pick x y z | .mapUpdate _ x y z => [x, y, z]
  | .build _ ps | .buildSlice _ _ ps => ps.toList.map (·.2)
  | .makeFunc _ _ cap => cap.toList
  | .slice _ x lo hi mx => x :: (lo.toList ++ hi.toList ++ mx.toList)
  | .call { callee := .value f, args := xs, .. } => f :: xs.toList
  | .call { callee := .builtin _, args := xs, .. } => xs.toList
  | _ => []

/-! ### regions -/
def findR : List (Nat × Bool) → Nat → Option Bool
  | [], _ => none
  | (i, b) :: r, j => bif Nat.beq i j then some b else findR r j
def findH : List (Nat × TypeId × TypeId) → Nat → Option (TypeId × TypeId)
  | [], _ => none
  | (i, p) :: r, j => bif Nat.beq i j then some p else findH r j
/-- One operation, its guard met. -/
def opV (P : Program) (At : (World → Prop) → World → Prop) (Sb : Prop → World → Prop) (hs : List (Nat × TypeId × TypeId)) (i : Nat) (o : Oper) (env : Env) (K : Env → World → Prop) (w : World) : Prop :=
  bif allKnown env (opnds o.op) then
    (match isEff o.op with
     | true => effV P (ev env) o.op o.type (fun v w' => Sb (K (putE env o.dst v) w') w') w
     | false => readV P (fun φ => At φ w) (ev env) (findH hs i) o.op o.type (fun v => K (putE env o.dst v) w))
  else False
def dstOf (ops : List Oper) (j : Nat) : Option Nat := (ops[j]?).bind (·.dst)
/-- The operations of a region, in the order of a plan. 'res': what is known of the guards. -/
def opsV (P : Program) (At : (World → Prop) → World → Prop) (Sb : Nat → Prop → World → Prop) (hs : List (Nat × TypeId × TypeId)) (ops : List Oper) (K : Env → World → Prop) :
    List Nat → List (Nat × Bool) → Env → World → Prop
  | [], _, env, w => K env w
  | i :: r, res, env, w =>
    match ops[i]? with
    | none => False
    | some o =>
      match o.guard with
      | none => opV P At (Sb i) hs i o env (fun env' w' => opsV P At Sb hs ops K r res env' w') w
      | some (j, want) =>
        match findR res j with
        | some _ =>
          (match dstOf ops j with
           | none => False
           | some d =>
             match look env d, want with
             | .bool true, true => opV P At (Sb i) hs i o env (fun env' w' => opsV P At Sb hs ops K r res env' w') w
             | .bool false, false => opV P At (Sb i) hs i o env (fun env' w' => opsV P At Sb hs ops K r res env' w') w
             | .bool true, false => opsV P At Sb hs ops K r res (putE env o.dst undef) w
             | .bool false, true => opsV P At Sb hs ops K r res (putE env o.dst undef) w
             | _, _ => False)
        | none =>
          match dstOf ops j with
          | none => False
          | some d =>
            match look env d, want with
            | .bool g, true =>
              cond g (opV P At (Sb i) hs i o ((d, .bool true) :: env) (fun env' w' => opsV P At Sb hs ops K r ((j, true) :: res) env' w') w)
                (opsV P At Sb hs ops K r ((j, false) :: res) (putE ((d, .bool false) :: env) o.dst undef) w)
            | .bool g, false =>
              cond g (opsV P At Sb hs ops K r ((j, true) :: res) (putE ((d, .bool true) :: env) o.dst undef) w)
                (opV P At (Sb i) hs i o ((d, .bool false) :: env) (fun env' w' => opsV P At Sb hs ops K r ((j, false) :: res) env' w') w)
            | .tuple _, _ => bif known env d then opsV P At Sb hs ops K r res (putE env o.dst undef) w else False
            | _, _ => False

/-! ### a region that draws its order -/
def isRead : Op → Bool
  | .load .. | .lookup .. | .entry _ => true
  | .call { callee := .builtin .len, .. } => true
  | _ => false
/-- The plan takes each operation when it is ready; what is taken ahead of others is free of them; an operation that changes the world is taken only when no other is ready; what stands in the tail waits for every operation that reads. -/
def planGoE (ops : Array Oper) (E : Array Bool → Bool) : List Nat → Array Bool → Bool
  | [], listed => E listed
  | i :: r, listed =>
    (match ops[i]? with
     | none => false
     | some o => bif isEff o.op then (match Region.ready .any ops listed with | [j] => Nat.beq i j | _ => false)
        else ((Region.ready .any ops listed).contains i && Region.free .any ops listed i)) &&
    planGoE ops E r (listed.setIfInBounds i true)
def planGo (ops : Array Oper) : List Nat → Array Bool → Bool := planGoE ops fun listed => (Region.ready .any ops listed).isEmpty
def isEffAt (ops : Array Oper) (i : Nat) : Bool := match ops[i]? with | some o => isEff o.op | none => false
/-- A place where two operations that change the world may come in either order. -/
def forkAt (ops : Array Oper) (i j : Nat) (r1 r2 : List Nat) (listed : Array Bool) : Bool :=
  (match Region.ready .any ops listed with | [a, b] => Nat.beq a i && Nat.beq b j | _ => false) && isEffAt ops i && isEffAt ops j &&
    planGo ops r1 (listed.setIfInBounds i true) && planGo ops r2 (listed.setIfInBounds j true)
def tailOk (ops : List Oper) (tail : List Nat) : Bool :=
  tail.all fun j => (ops.zipIdx).all fun (o, r) => !(isRead o.op) || (match ops[j]? with | some oj => oj.after.toList.any fun e => Region.binds .any e && Nat.beq e.on r | none => false)
def planOk (ops : Array Oper) (plan tail : List Nat) : Bool :=
  Nat.beq plan.length ops.size && Region.noSelect ops && planGo ops plan (Array.replicate ops.size false) && tailOk ops.toList tail

def forkOk (ops : Array Oper) (pre : List Nat) (i j : Nat) (r1 r2 tail : List Nat) : Bool :=
  Nat.beq (pre.length + (r1.length + 1)) ops.size && Nat.beq r1.length r2.length && Region.noSelect ops && planGoE ops (forkAt ops i j r1 r2) pre (Array.replicate ops.size false) && tailOk ops.toList tail
/-- A tree of plans: a stretch; a place where two operations that change the world may come in either order; an end where nothing changes the world any more. -/
inductive PT where
  | nil
  | go (pre : List Nat) (r : PT)
  | fk (i : Nat) (a : PT) (j : Nat) (b : PT)
  | late (rest : List Nat)
def PT.depth : PT → Nat
  | .nil => 0
  | .go pre r => pre.length + r.depth
  | .fk _ a _ b => Nat.max a.depth b.depth + 1
  | .late rest => rest.length
def effsDoneB (ops : Array Oper) (listed : Array Bool) : Bool := ops.toList.zipIdx.all fun (o, r) => !(isEff o.op) || listed.getD r true
def treeOk (ops : Array Oper) : PT → Array Bool → Bool
  | .nil, listed => (Region.ready .any ops listed).isEmpty
  | .go pre r, listed => planGoE ops (treeOk ops r) pre listed
  | .fk i a j b, listed => (match Region.ready .any ops listed with | [x, y] => Nat.beq x i && Nat.beq y j | _ => false) && isEffAt ops i && isEffAt ops j &&
      treeOk ops a (listed.setIfInBounds i true) && treeOk ops b (listed.setIfInBounds j true)
  | .late rest, listed => effsDoneB ops listed && planGo ops rest listed
def dtOk (ops : Array Oper) (t : PT) (tail : List Nat) : Bool :=
  Nat.ble t.depth ops.size && Region.noSelect ops && treeOk ops t (Array.replicate ops.size false) && tailOk ops.toList tail
def treeV (P : Program) (S : World → Prop) (tail : List Nat) (ops : List Oper) (K : Env → World → Prop) : PT → Env → World → Prop
  | .nil, env, w => K env w
  | .go pre r, env, w => opsV P (fun φ _ => ∀ w, S w → φ w) (fun i p w'' => bif tail.contains i then p else S w'' ∧ p) [] ops (fun env' w' => treeV P S tail ops K r env' w') pre [] env w
  | .fk i a j b, env, w => opsV P (fun φ _ => ∀ w, S w → φ w) (fun i p w'' => bif tail.contains i then p else S w'' ∧ p) [] ops (fun env' w' => treeV P S tail ops K a env' w') [i] [] env w ∧
      opsV P (fun φ _ => ∀ w, S w → φ w) (fun i p w'' => bif tail.contains i then p else S w'' ∧ p) [] ops (fun env' w' => treeV P S tail ops K b env' w') [j] [] env w
  | .late rest, env, w => opsV P (fun φ w => φ w) (fun _ _ _ => False) [] ops K rest [] env w
def effIdx (ops : List Oper) : List Nat := (ops.zipIdx.filter fun p => isEff p.1.op).map (·.2)

inductive An where
  | lf (hs : List (Nat × TypeId × TypeId) := [])
  | rj (hs : List (Nat × TypeId × TypeId)) (L : Live)
  | dr (plan tail : List Nat) (gen : Bool) (L : Option Live)
  | df (pre : List Nat) (i j : Nat) (r1 r2 tail : List Nat) (L : Live)
  | dt (t : PT) (tail : List Nat) (L : Live)
  | sq (a b : An)
  | sn (L : Live) (a b : An)
  | cd (a b : An)
  | cj (L : Live) (a b : An)
  | bk (L : Live) (a : An)
  | lp (L : Live) (a : An)
inductive Ex where
  | nrm | ext (i : Nat) | ret
/-- A region that draws: some condition S on the world holds throughout, until the tail. -/
def Draw (gen : Bool) (body : ((World → Prop) → World → Prop) → (Prop → World → Prop) → World → Prop) (w : World) : Prop :=
  match gen with
  | false => body (fun φ w => φ w) (fun p _ => p) w.drew
  | true => ∃ S : World → Prop, S w.drew ∧ body (fun φ _ => ∀ w, S w → φ w) (fun p w' => S w' ∧ p) w.drew

/-- The slots that a piece of code writes. -/
def writes : Code → List Nat
  | .region _ ops _ => ops.toList.filterMap (·.dst)
  | .seq a b => writes a ++ writes b
  | .cond _ a b => writes a ++ writes b
  | .block _ a => writes a
  | .loop a => writes a
  | _ => []
def memN : Nat → List Nat → Bool
  | _, [] => false
  | n, m :: r => bif Nat.beq n m then true else memN n r
/-- What is known of the slots that are not written. -/
def keepE (ws : List Nat) : Env → Env
  | [] => []
  | (t, v) :: r => bif memN t ws then keepE ws r else (t, v) :: keepE ws r

def V (P : Program) : Code → An → (Ex → Env → World → Prop) → Env → World → Prop
  | .skip, _, Q, env, w => Q .nrm env w
  | .ret, _, Q, env, w => Q .ret env w
  | .exit i, _, Q, env, w => Q (.ext i) env w
  | .seq a b, .sq x y, Q, env, w => V P a x (fun e env' w' => match e with | .nrm => V P b y Q env' w' | .ext i => Q (.ext i) env' w' | .ret => Q .ret env' w') env w
  | .seq a b, .sn L x y, Q, env, w => V P a x (fun e env' w' => match e with | .nrm => appC L env' (lamC L (fun env2 w2 => V P b y Q env2 w2) []) w' | .ext i => Q (.ext i) env' w' | .ret => Q .ret env' w') env w
  | .cond c a b, .cd x y, Q, env, w =>
    (match ev env c with
     | .bool t => cond t (V P a x Q env w) (V P b y Q env w)
     | _ => False)
  | .cond c a b, .cj L x y, Q, env, w =>
    (match ev env c with
     | .bool t => Join L (lamC L (Q .nrm) (keepE (writes a ++ writes b) env)) (fun J =>
        cond t (V P a x (fun e env' w' => match e with | .nrm => appC L env' J w' | .ext i => Q (.ext i) env' w' | .ret => Q .ret env' w') env w)
          (V P b y (fun e env' w' => match e with | .nrm => appC L env' J w' | .ext i => Q (.ext i) env' w' | .ret => Q .ret env' w') env w))
     | _ => False)
  | .block i c, .bk L x, Q, env, w =>
    Join L (lamC L (Q .nrm) (keepE (writes c) env)) (fun J =>
      V P c x (fun e env' w' => match e with | .nrm => appC L env' J w' | .ext j => bif Nat.beq j i then appC L env' J w' else Q (.ext j) env' w' | .ret => Q .ret env' w') env w)
  | .loop c, .lp L x, Q, env, w =>
    LoopV L (fun K => appC L env K w) (fun N =>
      lamC L (fun env' w' => V P c x (fun e env'' w'' => match e with | .nrm => appC L env'' N w'' | .ext j => Q (.ext j) env'' w'' | .ret => Q .ret env'' w'') env' w') (keepE (writes c) env))
  | .region _ ops false, .lf hs, Q, env, w =>
    opsV P (fun φ w => φ w) (fun _ p _ => p) hs ops.toList (fun env' w' => Q .nrm env' w') (List.range ops.toList.length) [] env w
  | .region _ ops false, .rj hs L, Q, env, w =>
    Join L (lamC L (Q .nrm) (keepE (ops.toList.filterMap (·.dst)) env)) (fun J => opsV P (fun φ w => φ w) (fun _ p _ => p) hs ops.toList (fun env' w' => appC L env' J w') (List.range ops.toList.length) [] env w)
  | .region _ ops true, .dr plan tail gen L, Q, env, w =>
    bif planOk ops plan (bif gen then tail else effIdx ops.toList) then
      (match L with
       | none => Draw gen (fun At Sb w' => opsV P At (fun i p w'' => bif tail.contains i then p else Sb p w'') [] ops.toList (fun env' w'' => Q .nrm env' w'') plan [] env w') w
       | some L => Join L (lamC L (Q .nrm) (keepE (ops.toList.filterMap (·.dst)) env)) (fun J =>
          Draw gen (fun At Sb w' => opsV P At (fun i p w'' => bif tail.contains i then p else Sb p w'') [] ops.toList (fun env' w'' => appC L env' J w'') plan [] env w') w))
    else False
  | .region _ ops true, .df pre i j r1 r2 tail L, Q, env, w =>
    bif forkOk ops pre i j r1 r2 tail then
      Join L (lamC L (Q .nrm) (keepE (ops.toList.filterMap (·.dst)) env)) (fun J => ∃ S : World → Prop, S w.drew ∧
        opsV P (fun φ _ => ∀ w, S w → φ w) (fun i p w'' => bif tail.contains i then p else S w'' ∧ p) [] ops.toList (fun env' w' =>
          opsV P (fun φ _ => ∀ w, S w → φ w) (fun i p w'' => bif tail.contains i then p else S w'' ∧ p) [] ops.toList (fun env'' w'' => appC L env'' J w'') (i :: r1) [] env' w' ∧
          opsV P (fun φ _ => ∀ w, S w → φ w) (fun i p w'' => bif tail.contains i then p else S w'' ∧ p) [] ops.toList (fun env'' w'' => appC L env'' J w'') (j :: r2) [] env' w') pre [] env w.drew)
    else False
  | .region _ ops true, .dt t tail L, Q, env, w =>
    bif dtOk ops t tail then
      Join L (lamC L (Q .nrm) (keepE (ops.toList.filterMap (·.dst)) env)) (fun J => ∃ S : World → Prop, S w.drew ∧ treeV P S tail ops.toList (fun env' w' => appC L env' J w') t env w.drew)
    else False
  | _, _, _, _, _ => False

theorem cond_intro {b : Bool} {p q : Prop} (h1 : b = true → p) (h2 : b = false → q) : cond b p q := by cases b; exact h2 rfl; exact h1 rfl
/-- A world under a name. -/
def Let (x : World) (f : World → Prop) : Prop := f x
theorem Let.intro {x : World} {f : World → Prop} (h : ∀ w, w = x → f w) : Let x f := h x rfl

/-! ### a whole function -/
def resV (P : Program) (env : Env) : List ResultVar → (List Value → World → Prop) → World → Prop
  | [], K, w => K [] w
  | .tmp t :: r, K, w => bif known env t then resV P env r (fun vs w => K (look env t :: vs) w) w else False
  | .cell a t :: r, K, w =>
    (match look env a with
     | .pointer (some ⟨b, o, none⟩) => loadV P (fun φ => φ w) t b o (fun v => resV P env r (fun vs w => K (v :: vs) w) w)
     | _ => False)
def oneOrTup : List Value → Value
  | [v] => v
  | vs => .tuple vs.toArray
def endV (P : Program) (fn : Func) (R : Value → World → Prop) : Ex → Env → World → Prop
  | .nrm, env, w => resV P env fn.results.toList (fun vs w => R (oneOrTup vs) w) w
  | .ret, env, w => resV P env fn.results.toList (fun vs w => R (oneOrTup vs) w) w
  | _, _, _ => False
def params : Nat → List Value → Env
  | _, [] => []
  | i, v :: r => (i, v) :: params (i + 1) r
def dstIn (nt : Nat) (o : Oper) : Bool :=
  match o.dst with
  | some d => Nat.ble (d + 1) nt
  | none => true
/-- All that the code writes lies in the frame. -/
def dstsOk (nt : Nat) : Code → Bool
  | .region _ ops _ => ops.toList.all (dstIn nt)
  | .seq a b => dstsOk nt a && dstsOk nt b
  | .cond _ a b => dstsOk nt a && dstsOk nt b
  | .block _ a => dstsOk nt a
  | .loop a => dstsOk nt a
  | _ => true
def funV (P : Program) (fn : Func) (an : An) (args : List Value) (R : Value → World → Prop) (w : World) : Prop :=
  match fn.body with
  | some c => bif dstsOk fn.ntmps c && Nat.ble args.length fn.ntmps then V P c an (endV P fn R) (params 0 args) w else False
  | none => False
end Go.VC
/-
  The calculus' soundness, first part: operations that look at no memory, and those that read it.
-/
namespace Go.VC
open Go
variable {P : Program}

theorem ikEq_eq {a b : IntKind} (h : ikEq a b = true) : a = b := by cases a <;> cases b <;> first | rfl | (simp [ikEq] at h)
theorem bif_elim' {b : Bool} {p : Prop} (h : bif b then False else p) : b = false ∧ p := by cases b <;> simp_all
theorem bif_elim {b : Bool} {p : Prop} (h : bif b then p else False) : b = true ∧ p := by cases b <;> simp_all

/-- An operation's run that yields a value and leaves the world as it is. -/
abbrev Yld (P : Program) (m : Sem Value) (v : Value) : Prop := ∀ w, m.run P w = .ok v w

theorem under_run {t : TypeId} {d : TypeDesc} (h : P.underlying t = some d) (w : World) : (underlying t).run P w = .ok d w := by
  simp [underlying, h]

theorem intV_sound {op : BinOp} {k : IntKind} {a b : Int} {K : Value → Prop} {t : TypeId} (hs : op ≠ .shl) (hr : op ≠ .shr) (h : intV op k a b K) :
    ∃ v, Yld P (binOp op t (.int k a) (.int k b)) v ∧ K v := by
  have e : ∀ (m : Sem Value) (v : Value), (binOp op t (.int k a) (.int k b)) = m → m = Pure.pure v → Yld P (binOp op t (.int k a) (.int k b)) v := fun m v h1 h2 w => by rw [h1, h2]; rfl
  cases op
  case shl => exact absurd rfl hs
  case shr => exact absurd rfl hr
  case quo => exact ⟨_, e (Op.intDiv .quo k a b) _ (by simp [binOp]) (by simp [Op.intDiv, h.1]), h.2⟩
  case rem => exact ⟨_, e (Op.intDiv .rem k a b) _ (by simp [binOp]) (by simp [Op.intDiv, h.1]), h.2⟩
  case and => exact ⟨_, e (Op.intBits .and k a b) _ (by simp [binOp]) rfl, h⟩
  case or => exact ⟨_, e (Op.intBits .or k a b) _ (by simp [binOp]) rfl, h⟩
  case xor => exact ⟨_, e (Op.intBits .xor k a b) _ (by simp [binOp]) rfl, h⟩
  case andNot => exact ⟨_, e (Op.intBits .andNot k a b) _ (by simp [binOp]) rfl, h⟩
  case add => exact ⟨_, e (Op.intArith .add k a b) _ (by simp [binOp]) rfl, h⟩
  case sub => exact ⟨_, e (Op.intArith .sub k a b) _ (by simp [binOp]) rfl, h⟩
  case mul => exact ⟨_, e (Op.intArith .mul k a b) _ (by simp [binOp]) rfl, h⟩
  case eql => exact ⟨_, e (Op.intCmp .eql a b) _ (by simp [binOp]) rfl, h⟩
  case neq => exact ⟨_, e (Op.intCmp .neq a b) _ (by simp [binOp]) rfl, h⟩
  case lss => exact ⟨_, e (Op.intCmp .lss a b) _ (by simp [binOp]) rfl, h⟩
  case leq => exact ⟨_, e (Op.intCmp .leq a b) _ (by simp [binOp]) rfl, h⟩
  case gtr => exact ⟨_, e (Op.intCmp .gtr a b) _ (by simp [binOp]) rfl, h⟩
  case geq => exact ⟨_, e (Op.intCmp .geq a b) _ (by simp [binOp]) rfl, h⟩

theorem eqGuard_plain (op : BinOp) (t : TypeId) (x y : Operand) (a b : Value) (w : World) (h : (match a, b with | .nilIface, .nilIface => false | .agg _, .agg _ => false | _, _ => true) = true) :
    (eqGuard op t x y a b).run P w = .ok () w := by
  unfold eqGuard
  cases op <;> simp <;> cases a <;> cases b <;> simp_all

theorem equalIn_bool {t : TypeId} (hu : P.underlying t = some .bool) (d : Nat) (a b : Bool) (w : World) : (Op.equalIn (d + 1) t (.bool a) (.bool b)).run P w = .ok (a == b) w := by
  simp [Op.equalIn, under_run hu]
theorem equalIn_map {t k e : TypeId} (hu : P.underlying t = some (.map k e)) (d : Nat) (m : Option Nat) (w : World) : (Op.equalIn (d + 1) t (.map m) (.map none)).run P w = .ok m.isNone w := by
  cases m <;> simp [Op.equalIn, under_run hu]
theorem equalIn_slice {t e : TypeId} (hu : P.underlying t = some (.slice e)) (d : Nat) (a : Option Addr) (n c n' c' : Nat) (w : World) :
    (Op.equalIn (d + 1) t (.slice a n c) (.slice none n' c')).run P w = .ok a.isNone w := by
  cases a <;> simp [Op.equalIn, under_run hu]
theorem equal_of {t : TypeId} {x y : Value} {r : Bool} {w : World} (h : ∀ d, (Op.equalIn (d + 1) t x y).run P w = .ok r w) : (Op.equal t x y).run P w = .ok r w := h 9999
theorem eql_of {t : TypeId} {x y : Value} {r : Bool} {w : World} (h : (Op.equal t x y).run P w = .ok r w) : (do pure (Value.bool (← Op.equal t x y)) : Sem Value).run P w = .ok (.bool r) w := by
  rw [Sem.run_bind, h]; rfl
theorem neq_of {t : TypeId} {x y : Value} {r : Bool} {w : World} (h : (Op.equal t x y).run P w = .ok r w) : (do pure (Value.bool (!(← Op.equal t x y))) : Sem Value).run P w = .ok (.bool (!r)) w := by
  rw [Sem.run_bind, h]; rfl

theorem binV_sound {op : BinOp} {t : TypeId} {xo yo : Operand} {x y : Value} {K : Value → Prop} (h : binV P op t x y K) :
    ∃ v, Yld P (do eqGuard op t xo yo x y; binOp op t x y) v ∧ K v := by
  have plain : ∀ {x y : Value} {v : Value}, (match x, y with | .nilIface, .nilIface => false | .agg _, .agg _ => false | _, _ => true) = true →
      Yld P (binOp op t x y) v → Yld P (do eqGuard op t xo yo x y; binOp op t x y) v := fun hp hy w => by
    rw [Sem.run_bind, eqGuard_plain _ _ _ _ _ _ _ hp]; exact hy w
  unfold binV at h
  split at h
  · rename_i k a k' b
    split at h
    · obtain ⟨hb, h⟩ := h
      exact ⟨_, plain rfl (fun w => by simp only [binOp, Op.shift]; rw [if_neg (by omega)]; rfl), h⟩
    · obtain ⟨hb, h⟩ := h
      exact ⟨_, plain rfl (fun w => by simp only [binOp, Op.shift]; rw [if_neg (by omega)]; rfl), h⟩
    · rename_i h1 h2
      obtain ⟨hk, h3⟩ := bif_elim h
      obtain rfl := ikEq_eq hk
      obtain ⟨v, hv, hK⟩ := intV_sound (P := P) (t := t) h1 h2 h3
      exact ⟨v, plain rfl hv, hK⟩
  · rename_i a b
    split at h
    · rename_i hu
      exact ⟨_, plain rfl (fun w => eql_of (equal_of fun d => equalIn_bool hu d a b w)), h⟩
    · rename_i hu
      exact ⟨_, plain rfl (fun w => neq_of (equal_of fun d => equalIn_bool hu d a b w)), h⟩
    · exact h.elim
  · rename_i xs ys
    split at h
    · obtain ⟨r, hr, h⟩ := h
      exact ⟨_, fun w => hr w, h⟩
    · obtain ⟨r, hr, h⟩ := h
      exact ⟨_, fun w => hr w, h⟩
    · exact h.elim
  · rename_i m
    split at h
    · rename_i hu
      exact ⟨_, plain rfl (fun w => eql_of (equal_of fun d => equalIn_map hu d m w)), h⟩
    · rename_i hu
      exact ⟨_, plain rfl (fun w => neq_of (equal_of fun d => equalIn_map hu d m w)), h⟩
    · exact h.elim
  · rename_i a n c n' c'
    split at h
    · rename_i hu
      exact ⟨_, plain rfl (fun w => eql_of (equal_of fun d => equalIn_slice hu d a n c n' c' w)), h⟩
    · rename_i hu
      exact ⟨_, plain rfl (fun w => neq_of (equal_of fun d => equalIn_slice hu d a n c n' c' w)), h⟩
    · exact h.elim
  · exact h.elim

theorem unV_sound {op : UnOp} {x : Value} {K : Value → Prop} (h : unV op x K) : ∃ v, Yld P (Op.unary op x) v ∧ K v := by
  unfold unV at h
  split at h
  · exact ⟨_, fun w => by simp [Op.unary], h⟩
  · exact ⟨_, fun w => by simp [Op.unary, Op.intArith], h⟩
  · exact h.elim

theorem convV_sound {s d : TypeId} {x : Value} {K : Value → Prop} (h : convV P s d x K) : ∃ v, Yld P (convert s d x) v ∧ K v := by
  unfold convV at h
  split at h
  · rename_i hs hd
    exact ⟨_, fun w => by simp [convert, under_run hs, under_run hd, Conv.intToInt], h⟩
  · exact h.elim

theorem size_run {t : TypeId} {i : TypeInfo} (h : P.info? t = some i) (w : World) : (sizeOf t).run P w = .ok i.size w := by
  simp [sizeOf, typeInfo, h]
/-- A type that has an underlying one has a row in the table. -/
theorem info_of_under {t : TypeId} {d : TypeDesc} (h : P.underlying t = some d) : ∃ i, P.info? t = some i := by
  unfold Program.underlying at h
  cases hi : P.info? t with
  | some i => exact ⟨i, rfl⟩
  | none => rw [hi] at h; simp at h
theorem cellsOf_info {t : TypeId} {i : TypeInfo} (h : P.info? t = some i) : P.cellsOf t = i.size := by simp [Program.cellsOf, h]
theorem sizeOf_run {t : TypeId} (h : P.cellsOf t ≠ 0) (w : World) : (sizeOf t).run P w = .ok (P.cellsOf t) w := by
  cases hi : P.info? t with
  | none => simp [Program.cellsOf, hi] at h
  | some i => rw [size_run hi, cellsOf_info hi]
theorem sizeOf_run' {t : TypeId} {d : TypeDesc} (h : P.underlying t = some d) (w : World) : (sizeOf t).run P w = .ok (P.cellsOf t) w := by
  obtain ⟨i, hi⟩ := info_of_under h
  rw [size_run hi, cellsOf_info hi]
theorem isAgg_run {t : TypeId} {b : Bool} (h : isAggT P t = some b) (w : World) : (isAgg t).run P w = .ok b w := by
  unfold isAggT at h
  cases hu : P.underlying t with
  | none => rw [hu] at h; cases h
  | some d =>
    rw [hu] at h
    simp only [isAgg, Sem.run_bind, under_run hu, Result.andThen_ok]
    cases d <;> (cases h; rfl)
theorem addr_add_plain (b o n : Nat) : (⟨b, o, none⟩ : Addr).add n = ⟨b, o + n, none⟩ := by
  unfold Addr.add; split
  · rename_i h; subst h; rfl
  · rfl

theorem fieldAddrV_sound {s : TypeId} {x : Value} {f : Nat} {K : Value → Prop} (h : fieldAddrV P s x f K) : ∃ v, Yld P (Instr.fieldAt s x f) v ∧ K v := by
  unfold fieldAddrV at h
  split at h
  · rename_i fd b o hf
    obtain ⟨hz, h⟩ := bif_elim' h
    unfold fieldOf at hf
    split at hf
    · rename_i fs hu
      have hf' : fs[f]? = some fd := by simpa using hf
      refine ⟨_, fun w => ?_, h⟩
      have hz' : P.cellsOf fd.type ≠ 0 := by intro e; rw [e] at hz; simp at hz
      simp [Instr.fieldAt, under_run hu, hf', Instr.sureAddr, fieldPlace, sizeOf_run hz', hz', addr_add_plain]
    · cases hf
  · exact h.elim

theorem sizeOf_elem {e : TypeId} {w : World} {m : Nat → Sem Value} (hu : (sizeOf e).run P w = .ok (P.cellsOf e) w) : ((sizeOf e) >>= m).run P w = (m (P.cellsOf e)).run P w := by
  rw [Sem.run_bind, hu]; rfl

theorem indexAddrV_sound {t : TypeId} {x i : Value} {K : Value → Prop} (h : indexAddrV P t x i K) : ∃ v, Yld P (Instr.indexAt t x i) v ∧ K v := by
  unfold indexAddrV at h
  split at h
  · rename_i e a n c k i hu
    obtain ⟨hz, h⟩ := bif_elim' h
    obtain ⟨p, rfl, h0, h1, h⟩ := h
    refine ⟨_, fun w => ?_, h⟩
    have hz' : P.cellsOf e ≠ 0 := by intro e; rw [e] at hz; simp at hz
    simp [Instr.indexAt, asIntOf, under_run hu, h0, h1, sizeOf_run hz', addr_add_plain]
  · rename_i n e b o k i hu
    obtain ⟨hz, h⟩ := bif_elim' h
    obtain ⟨h0, h1, h⟩ := h
    refine ⟨_, fun w => ?_, h⟩
    have hz' : P.cellsOf e ≠ 0 := by intro e; rw [e] at hz; simp at hz
    simp [Instr.indexAt, Instr.sureAddr, asIntOf, under_run hu, h0, h1, sizeOf_run hz', addr_add_plain]
  · exact h.elim

theorem exSK_elim {s : SK} {K : Value → Prop} (h : exSK s K) : ∃ v, K v := by
  cases s <;> simp only [exSK] at h
  case func => obtain ⟨f, c, h⟩ := h; exact ⟨_, h⟩
  all_goals (obtain ⟨x, h⟩ := h; exact ⟨_, h⟩)

theorem part_scalar {e : TypeId} {cs : Array Value} {off : Nat} {v : Value} (ha : isAggT P e = some false) (h : cs.toList[off]? = some v) (w : World) : (part e cs off).run P w = .ok v w := by
  have h' : cs[off]? = some v := by simpa using h
  simp [part, isAgg_run ha, h']
theorem part_agg {e : TypeId} {cs : Array Value} {off : Nat} (ha : isAggT P e = some true) (w : World) :
    (part e cs off).run P w = .ok (.agg ((cs.toList.drop off).take (P.cellsOf e)).toArray) w := by
  have hu : ∃ d, P.underlying e = some d := by
    unfold isAggT at ha
    cases hu : P.underlying e with
    | none => rw [hu] at ha; cases ha
    | some d => exact ⟨d, rfl⟩
  obtain ⟨d, hu⟩ := hu
  simp only [part, Sem.run_bind, isAgg_run ha, Result.andThen_ok, if_true, sizeOf_run' hu, Sem.run_pure]
  congr 2
  apply Array.ext'
  simp

theorem indexV_sound {t : TypeId} {x i : Value} {K : Value → Prop} (h : indexV P t x i K) : ∃ v, Yld P (Instr.index t x i) v ∧ K v := by
  unfold indexV at h
  split at h
  · rename_i n e cs k i hu
    split at h
    · rename_i ha
      obtain ⟨hz, h0, h1, h⟩ := bif_elim h
      obtain ⟨v, hv, h⟩ := exSK_elim h
      have hz' : P.cellsOf e = 1 := by simpa using hz
      refine ⟨v, fun w => ?_, h⟩
      have hp := part_scalar (P := P) ha hv w
      simp [Instr.index, asIntOf, under_run hu, h0, h1, sizeOf_run (P := P) (t := e) (by omega), hz', hp]
    · exact h.elim
  · exact h.elim

theorem fieldV_sound {t : TypeId} {x : Value} {f : Nat} {K : Value → Prop} (h : fieldV P t x f K) : ∃ v, Yld P (Instr.field t x f) v ∧ K v := by
  unfold fieldV at h
  split at h
  · rename_i fd cs hf
    unfold fieldOf at hf
    split at hf
    · rename_i fs hu
      have hf' : fs[f]? = some fd := by simpa using hf
      split at h
      · rename_i ha
        exact ⟨_, fun w => by simp [Instr.field, under_run hu, hf', asAgg, part_agg ha], h⟩
      · rename_i ha
        split at h
        · rename_i v hv
          exact ⟨v, fun w => by simp [Instr.field, under_run hu, hf', asAgg, part_scalar ha hv], h⟩
        · exact h.elim
      · exact h.elim
    · cases hf
  · exact h.elim

theorem setR_length : ∀ (xs cs : List Value) (o : Nat), (setR cs o xs).length = cs.length
  | [], _, _ => rfl
  | x :: xs, cs, o => by rw [setR, setR_length xs]; simp
theorem fold_setR (off : Nat) : ∀ (xs : List Value) (j : Nat) (cs : Array Value),
    (xs.zipIdx j).foldl (fun cs (p : Value × Nat) => cs.setIfInBounds (off + p.2) p.1) cs = (setR cs.toList (off + j) xs).toArray
  | [], _, _ => by simp [setR]
  | x :: xs, j, cs => by
    rw [List.zipIdx_cons, List.foldl_cons, fold_setR off xs (j + 1)]
    simp [setR, Nat.add_assoc]
theorem fold_setR' (off : Nat) (xs : Array Value) (cs : Array Value) :
    xs.zipIdx.foldl (fun cs (p : Value × Nat) => cs.setIfInBounds (off + p.2) p.1) cs = (setR cs.toList off xs.toList).toArray := by
  rw [← Array.foldl_toList, Array.toList_zipIdx, fold_setR]
  simp

theorem fillV_sound {place : Nat → Option (Nat × Nat)} :
    ∀ (ps : List (Nat × Value)) (cs : List Value) (K : Value → Prop), fillV place ps cs K → ∃ ds : Array Value, Instr.fill place cs.toArray ps = some ds ∧ K (.agg ds)
  | [], cs, K, h => ⟨_, rfl, h⟩
  | (i, v) :: r, cs, K, h => by
    unfold fillV at h
    split at h
    · exact h.elim
    · rename_i o s hpl
      have step : ∀ (xs : Array Value), v.cells = xs → xs.toList.length = s → o + s ≤ cs.length → fillV place r (setR cs o xs.toList) K →
          ∃ ds : Array Value, Instr.fill place cs.toArray ((i, v) :: r) = some ds ∧ K (.agg ds) := fun xs hv hs hb h => by
        obtain ⟨ds, hd, hK⟩ := fillV_sound r _ K h
        refine ⟨ds, ?_, hK⟩
        have hs' : xs.size = s := by simpa using hs
        rw [Instr.fill, hpl]
        simp only [hv, hs', ne_eq, not_true_eq_false]
        rw [if_neg (by simp; omega), fold_setR']
        exact hd
      have one : (∀ cs : Array Value, v ≠ .agg cs) → (bif (Nat.beq s 1 && Nat.ble (o + 1) cs.length) then fillV place r (cs.set o v) K else False) →
          ∃ ds : Array Value, Instr.fill place cs.toArray ((i, v) :: r) = some ds ∧ K (.agg ds) := fun hna h => by
        obtain ⟨hc, h⟩ := bif_elim h
        simp only [Bool.and_eq_true, Nat.ble_eq] at hc
        have h1 := Nat.eq_of_beq_eq_true hc.1
        refine step #[v] (by cases v <;> first | rfl | exact absurd rfl (hna _)) (by simp; omega) (by omega) ?_
        simpa [setR] using h
      split at h
      · rename_i xs
        obtain ⟨h1, h2, h⟩ := h
        exact step xs rfl h1 h2 h
      · exact h.elim
      · rename_i hna _
        exact one hna h

theorem zero_run {t : TypeId} (h : hasZero P t = true) (w : World) : ∃ z, (zeroValue t).run P w = .ok z w ∧ z.cells = zc P t := by
  unfold hasZero at h
  cases hi : P.info? t with
  | none => rw [hi] at h; simp at h
  | some i =>
    rw [hi] at h
    cases hz : i.zero with
    | none => simp [hz] at h
    | some z => exact ⟨z, by simp [zeroValue, typeInfo, hi, hz], by simp [zc, hi, hz]⟩

theorem buildV_sound {t : TypeId} {ps : List (Nat × Value)} {K : Value → Prop} (h : buildV P t ps K) : ∃ v, Yld P (Instr.build t ps.toArray) v ∧ K v := by
  unfold buildV at h
  split at h
  · rename_i z place hz hp
    obtain ⟨ds, hd, hK⟩ := fillV_sound ps _ K h
    refine ⟨_, fun w => run_build w t ps.toArray ds ?_, hK⟩
    cases hi : P.info? t with
    | none => rw [hi] at hz; cases hz
    | some it =>
      have hz' : it.zero = some z := by rw [hi] at hz; exact hz
      unfold Program.built
      unfold placesOf at hp
      cases hu : P.underlying t with
      | none => rw [hu] at hp; cases hp
      | some d =>
        rw [hu] at hp
        cases d <;> try (cases hp; done)
        case array n e =>
          cases hie : P.info? e with
          | none => simp [hie] at hp
          | some ie =>
            simp only [hie, Option.map_some, Option.some.injEq] at hp
            subst hp
            simp only [hi, hz', hie]
            simpa using hd
        case struct fs =>
          simp only at hp
          cases hm : fs.toList.mapM (fun f => (P.info? f.type).map fun i => (f.offset, i.size)) with
          | none => rw [hm] at hp; cases hp
          | some places =>
            rw [hm] at hp
            simp only [Option.map_some, Option.some.injEq] at hp
            subst hp
            simp only [hi, hz', hm]
            simpa using hd
  · exact h.elim

theorem bnd_some {v : Value} {y d : Nat} {K : Nat → Prop} (h : bndV (some v) y d K) : ∃ k i, v = .int k i ∧ 0 ≤ i ∧ i ≤ (y : Int) ∧ K i.toNat := by
  unfold bndV at h
  split at h
  · rename_i e; cases e
  · rename_i k i e; cases e; exact ⟨_, _, rfl, h⟩
  · exact h.elim
theorem bnd_none {y d : Nat} {K : Nat → Prop} (h : bndV none y d K) : K d := h
theorem bnd_run {k : IntKind} {i : Int} {y : Nat} {code : BoundsCode} (h0 : 0 ≤ i) (h1 : i ≤ (y : Int)) (w : World) : (Instr.sliceBound (.int k i) y code).run P w = .ok i.toNat w := by
  simp [Instr.sliceBound, asIntOf, h0, h1]
theorem add_zero_map (a : Option Addr) : a.map (fun x => x.add 0) = a := by cases a <;> simp [Addr.add]

theorem slice_run {t e : TypeId} (hu : P.underlying t = some (.slice e)) {a : Option Addr} {n c : Nat} {lo hi mx : Option Value} {l h m : Nat} {w : World}
    (hb : (Instr.sliceBounds true n c lo hi mx).run P w = .ok (l, h, m) w) (hz : P.cellsOf e ≠ 0) :
    (Instr.sliceAt t (.slice a n c) lo hi mx).run P w = .ok (.slice (if m = l then a else a.map (·.add (l * P.cellsOf e))) (h - l) (m - l)) w := by
  simp [Instr.sliceAt, Instr.slice, under_run hu, hb, sizeOf_run hz]

theorem sliceV_sound {t : TypeId} {x : Value} {lo hi mx : Option Value} {K : Value → Prop} (h : sliceV P t x lo hi mx K) : ∃ v, Yld P (Instr.sliceAt t x lo hi mx) v ∧ K v := by
  unfold sliceV at h
  split at h
  · rename_i e a n c hu
    obtain ⟨hz, h⟩ := bif_elim' h
    have hz' : P.cellsOf e ≠ 0 := by intro e; rw [e] at hz; simp at hz
    have z : ∀ m h, Value.slice (if m = 0 then a else a.map (·.add (0 * P.cellsOf e))) (h - 0) (m - 0) = .slice a h m := fun m h => by simp [add_zero_map]
    cases mx with
    | none =>
      have h := bnd_none h
      cases hi with
      | none =>
        have h := bnd_none h
        cases lo with
        | none => exact ⟨_, fun w => by rw [slice_run hu (l := 0) (h := n) (m := c) (by simp [Instr.sliceBounds]) hz', z], h⟩
        | some l =>
          obtain ⟨k, i, rfl, h0, h1, h⟩ := bnd_some h
          exact ⟨_, fun w => slice_run hu (by simp [Instr.sliceBounds, bnd_run h0 h1]) hz', h⟩
      | some hv =>
        obtain ⟨k, i, rfl, h0, h1, h⟩ := bnd_some h
        cases lo with
        | none => exact ⟨_, fun w => by rw [slice_run hu (l := 0) (h := i.toNat) (m := c) (by simp [Instr.sliceBounds, bnd_run h0 h1]) hz', z], h⟩
        | some l =>
          obtain ⟨k', i', rfl, h0', h1', h⟩ := bnd_some h
          exact ⟨_, fun w => slice_run hu (by simp [Instr.sliceBounds, bnd_run h0 h1, bnd_run h0' h1']) hz', h⟩
    | some mv =>
      obtain ⟨k2, i2, rfl, h02, h12, h⟩ := bnd_some h
      cases hi with
      | none => exact h.elim
      | some hv =>
        obtain ⟨k, i, rfl, h0, h1, h⟩ := bnd_some h
        cases lo with
        | none => exact ⟨_, fun w => by rw [slice_run hu (l := 0) (h := i.toNat) (m := i2.toNat) (by simp [Instr.sliceBounds, bnd_run h02 h12, bnd_run h0 h1]) hz', z], h⟩
        | some l =>
          obtain ⟨k', i', rfl, h0', h1', h⟩ := bnd_some h
          exact ⟨_, fun w => slice_run hu (by simp [Instr.sliceBounds, bnd_run h02 h12, bnd_run h0 h1, bnd_run h0' h1']) hz', h⟩
  · rename_i n e b o hu
    obtain ⟨hz, h⟩ := bif_elim' h
    have hz' : P.cellsOf e ≠ 0 := by intro e; rw [e] at hz; simp at hz
    split at h
    · refine ⟨_, fun w => ?_, h⟩
      simp [Instr.sliceAt, under_run hu, Instr.sureAddr, Instr.sliceBounds, addr_add_plain, sizeOf_run hz']
    · exact h.elim
  · exact h.elim

theorem lenV_sound {t T : TypeId} {x : Value} {K : Value → Prop} (h : lenV P t x K) : ∃ v, Yld P (Builtin.len_ #[t] T #[x]) v ∧ K v := by
  unfold lenV at h
  split at h
  · rename_i hu; exact ⟨_, fun w => by simp [Builtin.len_, under_run hu, goInt], h⟩
  · rename_i hu; exact ⟨_, fun w => by simp [Builtin.len_, under_run hu, goInt], h⟩
  · rename_i hu; exact ⟨_, fun w => by simp [Builtin.len_, under_run hu, goInt], h⟩
  · exact h.elim

/-- What an operation that yields a value runs to. -/
theorem yld_value {m : Sem Value} {v : Value} (h : Yld P m v) (w : World) : (do pure (Next.value (← m)) : Sem Next).run P w = .ok (.value v) w := by
  rw [Sem.run_bind, h w]; rfl

theorem map_pairs (ps : Array (Nat × Operand)) (ρ : Operand → Value) : (ps.toList.map fun p => (p.1, ρ p.2)).toArray = ps.map fun (i, x) => (i, ρ x) := by
  apply Array.ext'; simp
theorem map_args (xs : Array Operand) (ρ : Operand → Value) : (xs.toList.map ρ).toArray = xs.map ρ := by
  apply Array.ext'; simp

theorem pureV_sound {ρ : Operand → Value} {o : Oper} {K : Value → Prop} (h : pureV P ρ o.op K) : ∃ v, (∀ w, (execOp ρ o).run P w = .ok (.value v) w) ∧ K v := by
  obtain ⟨dst, op, T, pos, after, guard⟩ := o
  have lift : ∀ {m : Sem Value}, (∃ v, Yld P m v ∧ K v) → ∃ v, (∀ w, (do pure (Next.value (← m)) : Sem Next).run P w = .ok (.value v) w) ∧ K v := fun ⟨v, hy, hK⟩ => ⟨v, yld_value hy, hK⟩
  simp only at h
  unfold pureV at h
  split at h
  · exact ⟨_, fun w => rfl, h⟩
  · exact ⟨_, fun w => rfl, h⟩
  · rename_i c a b
    split at h
    · rename_i hc; exact ⟨_, fun w => by simp [execOp, hc, asBool], h⟩
    · rename_i hc; exact ⟨_, fun w => by simp [execOp, hc, asBool], h⟩
    · exact h.elim
  · exact lift (binV_sound h)
  · exact lift (unV_sound h)
  · exact lift (convV_sound h)
  · rename_i x
    split at h
    · rename_i a hx; exact ⟨_, fun w => by simp [execOp, hx], h⟩
    · exact h.elim
  · exact lift (fieldAddrV_sound h)
  · exact lift (indexAddrV_sound h)
  · exact lift (indexV_sound h)
  · exact lift (fieldV_sound h)
  · rename_i t ps
    have := lift (buildV_sound h)
    rw [map_pairs] at this
    exact this
  · rename_i f first cap
    split at h
    · rename_i hf
      have hf' : first = #[] := by apply Array.ext'; simpa using hf
      subst hf'
      exact ⟨_, fun w => by rw [map_args]; simp [execOp, Instr.makeFunc], h⟩
    · exact h.elim
  · exact lift (sliceV_sound h)
  · rename_i x i
    split at h
    · rename_i vs hx
      split at h
      · rename_i v hv
        have hv' : vs[i]? = some v := by simpa using hv
        exact ⟨v, fun w => by simp [execOp, hx, Instr.extract, hv'], h⟩
      · exact h.elim
    · exact h.elim
  · rename_i b xs ts
    split at h
    · rename_i x t hx ht
      obtain rfl : xs = #[x] := by apply Array.ext'; simpa using hx
      obtain rfl : ts = #[t] := by apply Array.ext'; simpa using ht
      obtain ⟨v, hy, hK⟩ := lenV_sound (T := T) h
      exact ⟨v, fun w => by rw [BigFrame.execOp_builtin, BigFrame.builtin_len]; simp only [List.map_toArray, List.map_cons, List.map_nil]; exact yld_value hy w, hK⟩
    · rename_i x y hx
      obtain rfl : xs = #[x, y] := by apply Array.ext'; simpa using hx
      split at h
      · rename_i k a k' b hx hy
        refine ⟨_, fun w => ?_, h⟩
        simp [execOp, resolve, invoke, builtin, Builtin.max_, Builtin.max2, hx, hy]
      · exact h.elim
    · rename_i x y hx
      obtain rfl : xs = #[x, y] := by apply Array.ext'; simpa using hx
      split at h
      · rename_i k a k' b hx hy
        refine ⟨_, fun w => ?_, h⟩
        simp [execOp, resolve, invoke, builtin, Builtin.min_, Builtin.min2, hx, hy]
      · exact h.elim
    · exact h.elim
  · exact h.elim
end Go.VC
/-
  The calculus' soundness, second part: operations that read memory, and those that change the world.
-/
namespace Go.VC
open Go
variable {P : Program}

theorem exSKs_elim : ∀ {ss : List SK} {K : List Value → Prop}, exSKs ss K → ∃ vs, vs.length = ss.length ∧ K vs
  | [], _, h => ⟨[], rfl, h⟩
  | s :: r, K, h => by
    obtain ⟨v, h⟩ := exSK_elim (K := fun v => exSKs r fun vs => K (v :: vs)) h
    obtain ⟨vs, hl, h⟩ := exSKs_elim (K := fun vs => K (v :: vs)) h
    exact ⟨v :: vs, by simp [hl], h⟩
theorem exTS_elim {t : TS} {K : Value → Prop} (h : exTS t K) : ∃ v, K v := by
  cases t with
  | bad => exact h.elim
  | one s => exact exSK_elim h
  | flat ss => obtain ⟨vs, _, h⟩ := exSKs_elim (K := fun vs => K (.agg vs.toArray)) h; exact ⟨_, h⟩
  | opq n => obtain ⟨cs, _, h⟩ := h; exact ⟨_, h⟩
theorem exTSs_elim : ∀ {ts : List TS} {K : List Value → Prop}, exTSs ts K → ∃ vs, K vs
  | [], _, h => ⟨[], h⟩
  | t :: r, K, h => by
    obtain ⟨v, h⟩ := exTS_elim (K := fun v => exTSs r fun vs => K (v :: vs)) h
    obtain ⟨vs, h⟩ := exTSs_elim (K := fun vs => K (v :: vs)) h
    exact ⟨_, h⟩
theorem exRes_elim {t : TypeId} {K : Value → Prop} (h : exRes P t K) : ∃ v, K v := by
  unfold exRes at h
  split at h
  · obtain ⟨vs, h⟩ := exTSs_elim h; exact ⟨_, h⟩
  · exact exTS_elim h

theorem flatOr_flat {m : Nat} {t : TypeId} {ss : List SK} (h : flatOr P m t = .flat ss) : ss.length = P.cellsOf t := by
  unfold flatOr at h
  cases h1 : Nat.ble (P.cellsOf t) m <;> rw [h1] at h
  · cases h
  · cases h2 : Nat.beq (cellsSK P 6 t).length (P.cellsOf t) <;> rw [h2] at h
    · cases h
    · cases h; exact Nat.eq_of_beq_eq_true h2
theorem flatOr_opq {m n : Nat} {t : TypeId} (h : flatOr P m t = .opq n) : n = P.cellsOf t := by
  unfold flatOr at h
  cases h1 : Nat.ble (P.cellsOf t) m <;> rw [h1] at h
  · cases h; rfl
  · cases h2 : Nat.beq (cellsSK P 6 t).length (P.cellsOf t) <;> rw [h2] at h <;> cases h
theorem flatOr_one {m : Nat} {t : TypeId} {s : SK} (h : flatOr P m t = .one s) : False := by
  unfold flatOr at h
  cases h1 : Nat.ble (P.cellsOf t) m <;> rw [h1] at h
  · cases h
  · cases h2 : Nat.beq (cellsSK P 6 t).length (P.cellsOf t) <;> rw [h2] at h <;> cases h
theorem tsOf_one {t : TypeId} {s : SK} (h : tsOf P t = .one s) : isAggT P t = some false := by
  unfold tsOf at h
  unfold isAggT
  cases hu : P.underlying t with
  | none => rw [hu] at h; cases h
  | some d => rw [hu] at h; cases d <;> first | rfl | exact (flatOr_one h).elim
theorem tsOf_agg {t : TypeId} (h : (∃ ss, tsOf P t = .flat ss) ∨ ∃ n, tsOf P t = .opq n) : isAggT P t = some true := by
  unfold tsOf at h
  unfold isAggT
  cases hu : P.underlying t with
  | none => rw [hu] at h; rcases h with ⟨_, h⟩ | ⟨_, h⟩ <;> cases h
  | some d => rw [hu] at h; cases d <;> first | rfl | (rcases h with ⟨_, h⟩ | ⟨_, h⟩ <;> cases h)
theorem tsOf_flat {t : TypeId} {ss : List SK} (h : tsOf P t = .flat ss) : ss.length = P.cellsOf t := by
  unfold tsOf at h
  cases hu : P.underlying t with
  | none => rw [hu] at h; cases h
  | some d => rw [hu] at h; cases d <;> first | exact flatOr_flat h | cases h
theorem tsOf_opq {t : TypeId} {n : Nat} (h : tsOf P t = .opq n) : n = P.cellsOf t := by
  unfold tsOf at h
  cases hu : P.underlying t with
  | none => rw [hu] at h; cases h
  | some d => rw [hu] at h; cases d <;> first | exact flatOr_opq h | cases h

theorem rd_load {w : World} {b : Nat} : ∀ (cs : List Value) (o i : Nat) (acc : Array Value), rd w b (o + i) cs →
    (loadCellsFrom ⟨b, o, none⟩ i cs.length acc).run P w = .ok (acc ++ cs.toArray) w
  | [], _, _, acc, _ => by simp [loadCellsFrom]
  | v :: r, o, i, acc, h => by
    obtain ⟨h1, h2⟩ := h
    have := rd_load r o (i + 1) (acc.push v) h2
    simp only [List.length_cons, loadCellsFrom, addr_add_plain, Sem.run_bind, run_load, h1, Result.andThen_ok, this]
    congr 1
    simp
theorem load_agg_run {t : TypeId} {w : World} {b o : Nat} {cs : List Value} (ha : isAggT P t = some true) (hl : cs.length = P.cellsOf t) (h : rd w b o cs) :
    (loadVar t ⟨b, o, none⟩).run P w = .ok (.agg cs.toArray) w := by
  have hu : ∃ d, P.underlying t = some d := by
    unfold isAggT at ha
    cases hu : P.underlying t with
    | none => rw [hu] at ha; cases ha
    | some d => exact ⟨d, rfl⟩
  obtain ⟨d, hu⟩ := hu
  have := rd_load (P := P) cs o 0 #[] h
  simp [loadVar, isAgg_run ha, sizeOf_run' hu, loadCells, ← hl, this]
theorem load_one_run {t : TypeId} {w : World} {b o : Nat} {v : Value} (ha : isAggT P t = some false) (h : w.cell? ⟨b, o, none⟩ = some v) :
    (loadVar t ⟨b, o, none⟩).run P w = .ok v w := by
  simp [loadVar, isAgg_run ha, h]

/-- The two ways of saying that something holds of the world. -/
structure AtOk (At : (World → Prop) → Prop) : Prop where
  mono : ∀ φ ψ : World → Prop, (∀ w, φ w → ψ w) → At φ → At ψ
  top : ∀ φ : World → Prop, (∀ w, φ w) → At φ
theorem atOk_here (w : World) : AtOk (fun φ => φ w) := ⟨fun _ _ h hφ => h _ hφ, fun _ h => h _⟩
theorem atOk_all (S : World → Prop) : AtOk (fun φ => ∀ w, S w → φ w) := ⟨fun _ _ h hφ w hw => h _ (hφ w hw), fun _ h w _ => h w⟩

theorem loadV_sound {At : (World → Prop) → Prop} (hAt : AtOk At) {t : TypeId} {b o : Nat} {K : Value → Prop} (h : loadV P At t b o K) :
    ∃ v, At (fun w => (loadVar t ⟨b, o, none⟩).run P w = .ok v w) ∧ K v := by
  unfold loadV at h
  split at h
  · exact h.elim
  · rename_i s hs
    obtain ⟨v, h1, h2⟩ := exSK_elim h
    exact ⟨v, hAt.mono _ _ (fun w hw => load_one_run (tsOf_one hs) hw) h1, h2⟩
  · rename_i ss hs
    obtain ⟨vs, hl, h1, h2⟩ := exSKs_elim h
    exact ⟨_, hAt.mono _ _ (fun w hw => load_agg_run (tsOf_agg (.inl ⟨_, hs⟩)) (hl.trans (tsOf_flat hs)) hw) h1, h2⟩
  · rename_i n hs
    obtain ⟨cs, hl, h1, h2⟩ := h
    exact ⟨_, hAt.mono _ _ (fun w hw => load_agg_run (tsOf_agg (.inr ⟨_, hs⟩)) (hl.trans (tsOf_opq hs)) hw) h1, h2⟩

theorem readV_sound {At : (World → Prop) → Prop} (hAt : AtOk At) {ρ : Operand → Value} {ent : Option (TypeId × TypeId)} {o : Oper} {K : Value → Prop} (h : readV P At ρ ent o.op o.type K) :
    ∃ v, At (fun w => (execOp ρ o).run P w = .ok (.value v) w) ∧ K v := by
  have pure' : pureV P ρ o.op K → ∃ v, At (fun w => (execOp ρ o).run P w = .ok (.value v) w) ∧ K v := fun h => by
    obtain ⟨v, h1, h2⟩ := pureV_sound h
    exact ⟨v, hAt.top _ h1, h2⟩
  obtain ⟨dst, op, T, pos, after, guard⟩ := o
  simp only at h
  unfold readV at h
  split at h
  · rename_i t a
    split at h
    · rename_i b o ha
      obtain ⟨v, h1, h2⟩ := loadV_sound hAt h
      refine ⟨v, hAt.mono _ _ (fun w hw => ?_) h1, h2⟩
      simp [execOp, Instr.loadAt, Instr.sureAddr, ha, hw]
    · exact h.elim
  · rename_i t m i ok
    split at h
    · rename_i m' hm
      unfold lookupV at h
      split at h
      · split at h
        · obtain ⟨v, h1, h2⟩ := exTS_elim h
          refine ⟨v, hAt.mono _ _ (fun w hw => ?_) h1, h2⟩
          simp [execOp, hm, hw]
        · obtain ⟨v, b, h1, h2⟩ := exTS_elim h
          refine ⟨_, hAt.mono _ _ (fun w hw => ?_) h1, h2⟩
          simp [execOp, hm, hw]
      · exact h.elim
    · exact h.elim
  · rename_i it
    split at h
    · rename_i kt vt
      obtain ⟨k, h⟩ := exTS_elim h
      obtain ⟨v, h1, h2⟩ := exTS_elim h
      refine ⟨_, hAt.mono _ _ (fun w hw => ?_) h1, h2⟩
      simp [execOp, hw]
    · exact h.elim
  · rename_i xs ts
    split at h
    · rename_i x t hx ht
      split at h
      · rename_i m hm
        obtain rfl : xs = #[x] := by apply Array.ext'; simpa using hx
        obtain rfl : ts = #[t] := by apply Array.ext'; simpa using ht
        obtain ⟨n, h1, h2⟩ := h
        refine ⟨_, hAt.mono _ _ (fun w hw => ?_) h1, h2⟩
        rw [BigFrame.execOp_builtin, BigFrame.builtin_len]
        simp [hm, hw]
      · exact pure' h
    · exact h.elim
  · exact pure' h

theorem mayWr_set {w : World} {b : Nat} {a : Addr} {u : Value} : ∀ (n o : Nat), mayWr w b o n → mayWr (w.setCell a u) b o n
  | 0, _, _ => trivial
  | n + 1, o, ⟨⟨v, hv⟩, hf, hr⟩ => by
    refine ⟨?_, by simpa using hf, mayWr_set n (o + 1) hr⟩
    by_cases e : a = ⟨b, o, none⟩
    · subst e; exact ⟨u, World.cell?_setCell_same w _ u hv⟩
    · exact ⟨v, by rw [World.cell?_setCell_other w _ _ _ e]; exact hv⟩
theorem store_run : ∀ (vs : List Value) (w : World) (b o i : Nat), (∀ v ∈ vs, v.oneCell' = true) → mayWr w b (o + i) vs.length →
    (storeCells ⟨b, o, none⟩ vs i).run P w = .ok () (put w b (o + i) vs)
  | [], w, b, o, i, _, _ => by simp [storeCells, put]
  | v :: r, w, b, o, i, h1, ⟨⟨u, hu⟩, hf, hr⟩ => by
    have hs := run_store P w ⟨b, o + i, none⟩ v .plain (h1 v (by simp))
    rw [hu] at hs
    simp only [hf, Bool.false_eq_true, if_false] at hs
    have := store_run r (w.setCell ⟨b, o + i, none⟩ v) b o (i + 1) (fun x hx => h1 x (by simp [hx])) (by rw [← Nat.add_assoc]; exact mayWr_set _ _ hr)
    rw [storeCells, Sem.run_bind, addr_add_plain]
    rw [hs, Result.andThen_ok, this]
    rfl
theorem cellsV_eq (v : Value) : v.cells.toList = cellsV v := by cases v <;> rfl
theorem storeVar_run {t : TypeId} {v : Value} {w : World} {b o : Nat} (h : StoreOk w b o (cellsV v) (P.cellsOf t)) (hz : P.cellsOf t ≠ 0) :
    (storeVar t ⟨b, o, none⟩ v).run P w = .ok () (put w b o (cellsV v)) := by
  obtain ⟨hl, h1, h2⟩ := h
  have hs : v.cells.size = P.cellsOf t := by rw [← hl, ← cellsV_eq]; simp
  have := store_run (P := P) (cellsV v) w b o 0 h1 (by rw [hl]; exact h2)
  simp [storeVar, sizeOf_run hz, hs, cellsV_eq, this]
end Go.VC
/-
  The calculus' soundness, third part: operations that change the world; one operation in a frame.
-/
namespace Go.VC
open Go
variable {P : Program}

theorem callable_run {f : FuncId} (h : callable P f = true) (args : Array Value) (w : World) : (callFunc f args).run P w = .ok (.enter f args) w := by
  unfold callable at h
  cases hf : P.funcs[f]? with
  | none => rw [hf] at h; cases h
  | some fn =>
    rw [hf] at h
    simp only [Bool.and_eq_true, Bool.not_eq_true'] at h
    obtain ⟨h1, h2⟩ := h
    have h3 : fn.body.isNone = false := by cases hb : fn.body <;> simp_all
    simp only [callFunc, Sem.run_bind, run_program, Result.andThen_ok, hf, h1, h3, Bool.false_eq_true, if_false]
    rfl

theorem upon_value {o : Oper} {a : Act} {next : Act → World → Prop} {Q : Exit → Act → World → Prop} {m : Sem Value} {v : Value} {w w' : World}
    (h : m.run P w = .ok v w') (hk : next (a.put o.dst v) w') : o.upon P a next Q ((do pure (Next.value (← m)) : Sem Next).run P w) := by
  rw [Sem.run_bind, h]; exact hk
theorem upon_unit {o : Oper} {a : Act} {next : Act → World → Prop} {Q : Exit → Act → World → Prop} {m : Sem Unit} {w w' : World}
    (h : m.run P w = .ok () w') (hk : next (a.put o.dst undef) w') : o.upon P a next Q ((do m; pure Next.skip : Sem Next).run P w) := by
  rw [Sem.run_bind, h]; exact hk

theorem effV_sound {ρ : Operand → Value} {o : Oper} {a : Act} {next : Act → World → Prop} {Q : Exit → Act → World → Prop} {K : Value → World → Prop} {w : World}
    (h : effV P ρ o.op o.type K w) (hK : ∀ v w', K v w' → next (a.put o.dst v) w') : o.upon P a next Q ((execOp ρ o).run P w) := by
  obtain ⟨dst, op, T, pos, after, guard⟩ := o
  simp only at h hK
  unfold effV at h
  split at h
  · rename_i t x v
    split at h
    · rename_i b o ha
      obtain ⟨hz, h1, h2⟩ := bif_elim' h
      have hz' : P.cellsOf t ≠ 0 := by intro e; rw [e] at hz; simp at hz
      refine upon_unit (m := Instr.storeAt t (ρ x) (ρ v)) ?_ (hK _ _ h2)
      simp [Instr.storeAt, Instr.sureAddr, ha, storeVar_run h1 hz']
    · exact h.elim
  · rename_i t
    obtain ⟨hz, h⟩ := bif_elim h
    obtain ⟨z, hr, hc⟩ := zero_run hz w
    refine upon_value (m := Instr.alloc t true (.tuple #[])) ?_ (hK _ _ h)
    simp [Instr.alloc, hr, newVar, newRow, hc]
  · rename_i t x
    refine upon_value (m := Instr.box t (ρ x)) ?_ (hK _ _ h)
    simp [Instr.box, newVar, newRow, ← cellsV_eq]
  · rename_i t n ps
    obtain ⟨s, w', hr, h⟩ := h
    rw [map_pairs] at hr
    exact upon_value hr (hK _ _ h)
  · rename_i t
    refine upon_value (m := Instr.makeMap t none) ?_ (hK _ _ h)
    simp [Instr.makeMap]
  · rename_i t l c
    obtain ⟨s, w', hr, h⟩ := h
    exact upon_value hr (hK _ _ h)
  · rename_i t m k x
    obtain ⟨w', hr, h⟩ := h
    exact upon_unit hr (hK _ _ h)
  · rename_i t x
    obtain ⟨p, w', hr, h⟩ := h
    exact upon_value hr (hK _ _ h)
  · rename_i it
    obtain ⟨b, kv, w', hr, h⟩ := h
    exact upon_value hr (hK _ _ h)
  · rename_i f xs ts
    split at h
    · rename_i i first cap hf
      unfold callV at h
      obtain ⟨hc, h⟩ := bif_elim h
      have e : (execOp ρ { dst := dst, op := .call { callee := .value f, args := xs, argTypes := ts }, type := T, pos := pos, after := after, guard := guard }).run P w =
          .ok (.enter i (first.toList ++ xs.toList.map ρ ++ cap.toList).toArray) w := by
        have ea : first ++ xs.map ρ ++ cap = (first.toList ++ xs.toList.map ρ ++ cap.toList).toArray := by apply Array.ext'; simp
        simp only [execOp, resolve, hf, Deferred.ofValue, invoke, Sem.run_bind, Sem.run_pure, Result.andThen_ok]
        rw [callable_run hc, ea]
      rw [e, Oper.upon_enter]
      refine Calls.mono h fun e w' he => ?_
      obtain ⟨v, rfl, hv⟩ := exRes_elim he
      exact hK _ _ hv
    · exact h.elim
  · rename_i b xs ts
    split at h
    · rename_i x y hx
      obtain rfl : xs = #[x, y] := by apply Array.ext'; simpa using hx
      obtain ⟨s, w', hr, h⟩ := h
      rw [BigFrame.execOp_builtin, BigFrame.builtin_append]
      exact upon_value (by simpa using hr) (hK _ _ h)
    · rename_i x y hx
      obtain rfl : xs = #[x, y] := by apply Array.ext'; simpa using hx
      obtain ⟨n, w', hr, h⟩ := h
      rw [BigFrame.execOp_builtin, BigFrame.builtin_copy]
      exact upon_value (by simpa using hr) (hK _ _ h)
    · rename_i x y hx
      obtain rfl : xs = #[x, y] := by apply Array.ext'; simpa using hx
      obtain ⟨w', hr, h⟩ := h
      rw [BigFrame.execOp_builtin, BigFrame.builtin_delete]
      exact upon_value (by simpa using hr) (hK _ _ h)
    · rename_i x hx
      obtain rfl : xs = #[x] := by apply Array.ext'; simpa using hx
      obtain ⟨w', hr, h⟩ := h
      rw [BigFrame.execOp_builtin, BigFrame.builtin_clear]
      exact upon_value (by simpa using hr) (hK _ _ h)
    · exact h.elim
  · exact h.elim

/-! ### frames -/
/-- The frame holds what the environment says. -/
structure Agree (nt : Nat) (a : Act) (env : Env) : Prop where
  defers : a.defers = []
  size : a.tmps.size = nt
  slots : ∀ t, known env t = true → a.tmps[t]? = some (look env t)
theorem Agree.eval {nt : Nat} {a : Act} {env : Env} (h : Agree nt a env) {x : Operand} (hx : knownO env x = true) : a.eval x = ev env x := by
  cases x <;> first | rfl | skip
  rename_i t
  have := h.slots t hx
  simp [Act.eval, ev, this]
theorem known_cons (t : Nat) (v : Value) (env : Env) (s : Nat) : known ((t, v) :: env) s = (Nat.beq t s || known env s) := by
  simp only [known]; cases Nat.beq t s <;> rfl
theorem look_cons_same (t : Nat) (v : Value) (env : Env) : look ((t, v) :: env) t = v := by
  simp only [look, Nat.beq_refl, cond_true]
theorem look_cons_other {t s : Nat} (v : Value) (env : Env) (h : t ≠ s) : look ((t, v) :: env) s = look env s := by
  have : Nat.beq t s = false := by cases hb : Nat.beq t s with | false => rfl | true => exact absurd (Nat.eq_of_beq_eq_true hb) h
  simp only [look, this, cond_false]
theorem known_cons_other {t s : Nat} (v : Value) (env : Env) (h : t ≠ s) : known ((t, v) :: env) s = known env s := by
  have : Nat.beq t s = false := by cases hb : Nat.beq t s with | false => rfl | true => exact absurd (Nat.eq_of_beq_eq_true hb) h
  simp only [known, this, cond_false]
theorem Agree.put {nt : Nat} {a : Act} {env : Env} (h : Agree nt a env) {d : Option Nat} (hd : ∀ t, d = some t → t < nt) (v : Value) : Agree nt (a.put d v) (putE env d v) := by
  cases d with
  | none => exact h
  | some t =>
    have ht := hd t rfl
    refine ⟨h.defers, by simp [Act.put, h.size], fun s hs => ?_⟩
    by_cases e : t = s
    · subst e
      have : t < a.tmps.size := by rw [h.size]; exact ht
      simp [Act.put, putE, look_cons_same, this]
    · rw [putE, known_cons_other _ _ e] at hs
      rw [putE, look_cons_other _ _ e]
      simp only [Act.put]
      rw [Array.getElem?_setIfInBounds_ne e]
      exact h.slots s hs
theorem Agree.note {nt : Nat} {a : Act} {env : Env} (h : Agree nt a env) {d : Nat} {v : Value} (hk : known env d = true) (hv : look env d = v) : Agree nt a ((d, v) :: env) := by
  refine ⟨h.defers, h.size, fun s hs => ?_⟩
  by_cases e : d = s
  · subst e; rw [look_cons_same, ← hv]; exact h.slots _ hk
  · rw [known_cons_other _ _ e] at hs; rw [look_cons_other _ _ e]; exact h.slots s hs
theorem known_of_look {env : Env} {d : Nat} (h : look env d ≠ undef) : known env d = true := by
  induction env with
  | nil => exact absurd rfl h
  | cons p r ih =>
    obtain ⟨t, v⟩ := p
    by_cases e : t = d
    · subst e; rw [known_cons]; simp
    · rw [known_cons_other _ _ e]; rw [look_cons_other _ _ e] at h; exact ih h

theorem allKnown_mem {env : Env} : ∀ {l : List Operand}, allKnown env l = true → ∀ x ∈ l, knownO env x = true
  | [], _, x, hx => by cases hx
  | y :: r, h, x, hx => by
    simp only [allKnown] at h
    cases hk : knownO env y with
    | false => rw [hk] at h; cases h
    | true =>
      rw [hk] at h
      rcases List.mem_cons.1 hx with rfl | hx
      · exact hk
      · exact allKnown_mem h x hx

/-- The operations that this calculus serves look at the operands that it names. -/
def served : Op → Bool
  | .move _ | .assign _ | .pick .. | .binOp .. | .unOp .. | .convert .. | .nilCheck _ | .fieldAddr .. | .indexAddr .. | .index .. | .field .. | .build .. | .slice .. | .extract .. | .load .. | .lookup .. | .entry _ => true
  | .store .. | .alloc _ | .box .. | .buildSlice .. | .makeSlice .. | .mapUpdate .. | .range .. | .next .. => true
  | .makeMap _ none => true
  | .makeFunc _ first _ => first.toList.isEmpty
  | .call { callee := .value _, .. } | .call { callee := .builtin _, .. } => true
  | _ => false
theorem opnds_all {op : Op} (hs : served op = true) {x : Operand} (hx : x ∈ op.operands) : x ∈ opnds op := by
  cases op <;> simp only [served, Bool.false_eq_true] at hs <;> simp only [Op.operands] at hx <;> simp only [opnds]
  case makeFunc fn first cap =>
    have : first = #[] := by apply Array.ext'; simpa using hs
    subst this; simpa using hx
  case makeMap t r =>
    cases r with
    | none => simp at hx
    | some r => simp at hs
  case call c =>
    obtain ⟨callee, xs, ts⟩ := c
    cases callee <;> simp_all [Call.operands]
  case slice t y lo hi mx => simpa [or_assoc] using hx
  all_goals first | (simp at hx; done) | simpa using hx
theorem served_noSelect {op : Op} (hs : served op = true) (cs : Array SelectCase) (b : Bool) : op ≠ .select cs b := by rintro rfl; cases hs
theorem execOp_agree {nt : Nat} {a : Act} {env : Env} (h : Agree nt a env) {o : Oper} (hs : served o.op = true) (hk : allKnown env (opnds o.op) = true) : execOp a.eval o = execOp (ev env) o :=
  execOp_congr o (served_noSelect hs) fun x hx => h.eval (allKnown_mem hk x (opnds_all hs hx))

theorem served_pure {ρ : Operand → Value} {op : Op} {K : Value → Prop} (h : pureV P ρ op K) : served op = true := by
  unfold pureV at h
  split at h <;> first | rfl | exact h.elim | skip
  rename_i f first cap
  split at h
  · rename_i hf; simp [served, hf]
  · exact h.elim
theorem served_read {At : (World → Prop) → Prop} {ρ : Operand → Value} {ent : Option (TypeId × TypeId)} {op : Op} {T : TypeId} {K : Value → Prop} (h : readV P At ρ ent op T K) : served op = true := by
  unfold readV at h
  split at h <;> first | rfl | exact served_pure h
theorem served_eff {ρ : Operand → Value} {op : Op} {T : TypeId} {K : Value → World → Prop} {w : World} (h : effV P ρ op T K w) : served op = true := by
  unfold effV at h
  split at h <;> first | rfl | exact h.elim
end Go.VC
/-
  The calculus' soundness, fourth part: a region's operations, in the order of the text and in an order that is drawn.
-/
namespace Go.VC
open Go
variable {P : Program}

theorem dstIn_lt {nt : Nat} {o : Oper} (hd : dstIn nt o = true) : ∀ t, o.dst = some t → t < nt := fun t ht => by
  unfold dstIn at hd
  rw [ht] at hd
  exact Nat.le_of_ble_eq_true hd

/-- One operation that is wanted, met by 'opV'. -/
theorem opV_wp {At : (World → Prop) → World → Prop} {Sb : Prop → World → Prop} {hs : List (Nat × TypeId × TypeId)} {i nt : Nat} {o : Oper} {env : Env} {K : Env → World → Prop} {w : World} {a : Act}
    {next : Act → World → Prop} {Q : Exit → Act → World → Prop} (hAt : ∀ φ, At φ w → φ w) (hA2 : AtOk (fun φ => At φ w))
    (hd : dstIn nt o = true) (ha : Agree nt a env) (h : opV P At Sb hs i o env K w)
    (hn : ∀ env' v w', Agree nt (a.put o.dst v) env' → (isEff o.op = true ∧ Sb (K env' w') w' ∨ isEff o.op = false ∧ w' = w ∧ K env' w') → next (a.put o.dst v) w') : o.wp P a w next Q := by
  have hd' : ∀ t, o.dst = some t → t < nt := dstIn_lt hd
  unfold opV at h
  obtain ⟨hk, h⟩ := bif_elim h
  cases he : isEff o.op with
  | true =>
    rw [he] at h
    unfold Oper.wp
    rw [execOp_agree ha (served_eff h) hk]
    exact effV_sound h fun v w' hv => hn _ _ _ (ha.put hd' v) (.inl ⟨he, hv⟩)
  | false =>
    rw [he] at h
    obtain ⟨v, h1, h2⟩ := readV_sound hA2 h
    unfold Oper.wp
    rw [execOp_agree ha (served_read h) hk, hAt _ h1]
    exact hn _ _ _ (ha.put hd' v) (.inr ⟨he, rfl, h2⟩)

theorem bool_yielded {ops : Array Oper} {a : Act} {env : Env} {nt j d : Nat} {b : Bool} (ha : Agree nt a env) (hj : dstOf ops.toList j = some d) (hl : look env d = .bool b) : yielded ops a.tmps j = some b := by
  have hk : known env d = true := known_of_look (by rw [hl]; intro e; cases e)
  have := ha.slots d hk
  have hj' : ops[j]?.bind (·.dst) = some d := by simpa [dstOf] using hj
  simp [yielded, hj', this, hl]

/-- What is left to do at one operation: it is carried out, or passed over. -/
inductive Step (P : Program) (At : (World → Prop) → World → Prop) (Sb : Prop → World → Prop) (hs : List (Nat × TypeId × TypeId)) (ops : Array Oper) (i nt : Nat) (o : Oper) (a : Act) (w : World) (K : Env → World → Prop) : Prop
  | run (env : Env) (ha : Agree nt a env) (hw : Region.wanted o (yielded ops a.tmps) = true) (h : opV P At Sb hs i o env K w)
  | skip (env : Env) (ha : Agree nt a env) (hw : Region.wanted o (yielded ops a.tmps) = false) (h : K (putE env o.dst undef) w)

theorem opsV_step {At : (World → Prop) → World → Prop} {Sb : Nat → Prop → World → Prop} {hs : List (Nat × TypeId × TypeId)} {ops : Array Oper} {K : Env → World → Prop} {i nt : Nat} {r : List Nat}
    {res : List (Nat × Bool)} {env : Env} {w : World} {a : Act} (ha : Agree nt a env) (h : opsV P At Sb hs ops.toList K (i :: r) res env w) :
    ∃ o, ops[i]? = some o ∧ ∃ res', Step P At (Sb i) hs ops i nt o a w (fun env' w' => opsV P At Sb hs ops.toList K r res' env' w') := by
  unfold opsV at h
  split at h
  · exact h.elim
  · rename_i o ho
    refine ⟨o, by simpa using ho, ?_⟩
    have wn : ∀ {j want b d}, o.guard = some (j, want) → ∀ {env'}, Agree nt a env' → dstOf ops.toList j = some d → look env' d = .bool b →
        Region.wanted o (yielded ops a.tmps) = (b == want) := fun hg env' ha' hj hl => by
      simp only [Region.wanted, hg, bool_yielded ha' hj hl]
      rfl
    split at h
    · rename_i hg
      exact ⟨res, .run env ha (by simp [Region.wanted, hg]) h⟩
    · rename_i j want hg
      split at h
      · split at h
        · exact h.elim
        · rename_i d hj
          split at h
          · rename_i hl; exact ⟨res, .run env ha (by rw [wn hg ha hj hl]; rfl) h⟩
          · rename_i hl; exact ⟨res, .run env ha (by rw [wn hg ha hj hl]; rfl) h⟩
          · rename_i hl; exact ⟨res, .skip env ha (by rw [wn hg ha hj hl]; rfl) h⟩
          · rename_i hl; exact ⟨res, .skip env ha (by rw [wn hg ha hj hl]; rfl) h⟩
          · exact h.elim
      · split at h
        · exact h.elim
        · rename_i d hj
          split at h
          · rename_i g hl
            have hk : known env d = true := known_of_look (by rw [hl]; intro e; cases e)
            cases g with
            | true =>
              have ha' := ha.note hk hl
              exact ⟨_, .run _ ha' (by rw [wn hg ha hj hl]; rfl) h⟩
            | false =>
              have ha' := ha.note hk hl
              exact ⟨_, .skip _ ha' (by rw [wn hg ha hj hl]; rfl) h⟩
          · rename_i g hl
            have hk : known env d = true := known_of_look (by rw [hl]; intro e; cases e)
            cases g with
            | true =>
              have ha' := ha.note hk hl
              exact ⟨_, .skip _ ha' (by rw [wn hg ha hj hl]; rfl) h⟩
            | false =>
              have ha' := ha.note hk hl
              exact ⟨_, .run _ ha' (by rw [wn hg ha hj hl]; rfl) h⟩
          · rename_i l hl
            obtain ⟨hk, h⟩ := bif_elim h
            refine ⟨res, .skip env ha ?_ h⟩
            have hs := ha.slots d hk
            have hj' : ops[j]?.bind (·.dst) = some d := by simpa [dstOf] using hj
            simp [Region.wanted, hg, yielded, hj', hs, hl]
          · exact h.elim

theorem dstIn_at {ops : Array Oper} {nt i : Nat} {o : Oper} (h : ops.toList.all (dstIn nt) = true) (ho : ops[i]? = some o) : dstIn nt o = true :=
  List.all_eq_true.1 h o (by simpa using Array.mem_of_getElem? ho)

/-- A region whose order is the text's. -/
theorem opsV_wpOps {hs : List (Nat × TypeId × TypeId)} {ops : Array Oper} {K : Env → World → Prop} {nt : Nat} {Q : Exit → Act → World → Prop} {F : Act → Prop} (hd : ops.toList.all (dstIn nt) = true)
    (hF : ∀ (i : Nat) (o : Oper) a v, ops[i]? = some o → F a → F (a.put o.dst v)) (hQ : ∀ env a w, Agree nt a env → F a → K env w → Q .normal a w) :
    ∀ (plan : List Nat) (res : List (Nat × Bool)) (env : Env) (a : Act) (w : World), Agree nt a env → F a →
      opsV P (fun φ w => φ w) (fun _ p _ => p) hs ops.toList K plan res env w → wpOps P ops Q plan a w
  | [], _, env, a, w, ha, hf, h => hQ env a w ha hf h
  | i :: r, res, env, a, w, ha, hf, h => by
    obtain ⟨o, ho, res', st⟩ := opsV_step ha h
    simp only [wpOps, ho]
    cases st with
    | run env' ha' hw h' =>
      rw [if_pos hw]
      refine .inl (opV_wp (fun _ h => h) (atOk_here w) (dstIn_at hd ho) ha' h' fun env2 a2 w2 ha2 hK => ?_)
      rcases hK with ⟨_, hK⟩ | ⟨_, _, hK⟩ <;> exact opsV_wpOps hd hF hQ r res' env2 _ w2 ha2 (hF i o a a2 ho hf) hK
    | skip env' ha' hw h' =>
      rw [if_neg (by rw [hw]; simp)]
      exact opsV_wpOps hd hF hQ r res' _ _ w (ha'.put (dstIn_lt (dstIn_at hd ho)) undef) (hF i o a undef ho hf) h'

/-! ### an order that is drawn -/
section
variable {ops : Array Oper} {Q : Exit → Act → World → Prop} {md : Region.Mode} {C : Nat → World → World → Prop} {Y : World → Prop}
/-- Whatever order is picked from here on; and what each operation does to the world is told by C. -/
def anyC (P : Program) (md : Region.Mode) (ops : Array Oper) (Q : Exit → Act → World → Prop) (C : Nat → World → World → Prop) : Nat → Array Bool → Act → World → Prop
  | 0, listed, a, w => Region.ready md ops listed = [] ∧ Q .normal a w
  | f + 1, listed, a, w => (Region.ready md ops listed = [] → Q .normal a w) ∧
    ∀ i ∈ Region.ready md ops listed, wpOp P ops Q i (fun a' w' => C i w w' ∧ anyC P md ops Q C f (listed.setIfInBounds i true) a' w') a w
theorem anyC_wpAny : ∀ (f : Nat) (listed : Array Bool) (a : Act) (w : World), anyC P md ops Q C f listed a w → wpAny P md ops Q f listed a w
  | 0, _, _, _, h => h
  | f + 1, _, _, _, h => ⟨h.1, fun i hi => wpOp_mono (fun _ _ h' => anyC_wpAny f _ _ _ h'.2) (h.2 i hi)⟩
/-- An operation that may come up, that yields its value in every world of a kind that the others keep to, may come up first. -/
theorem anyC_first {i : Nat} {oi : Oper} {v : Value} (hi : ops[i]? = some oi) (hsel : ∀ (j : Nat) (o : Oper) cs b, ops[j]? = some o → o.op ≠ .select cs b)
    (hQ : ∀ c a w, ¬ Q (.panic c) a w) (hCi : ∀ w, C i w w) :
    ∀ (f : Nat) (listed : Array Bool) (a : Act) (w : World),
      (∀ j oj, ops[j]? = some oj → j ≠ i → listed.getD j true = false → (∀ e ∈ oj.after, Region.binds md e = true → e.on ≠ i) → oi.apart ops oj = true ∧ ∀ w w', C j w w' → Y w → Y w') →
      i ∈ Region.ready md ops listed → YieldsIf P ops Y oi v a → Y w →
      anyC P md ops Q C f (listed.setIfInBounds i true) (a.put oi.dst v) w → anyC P md ops Q C (f + 1) listed a w := by
  intro f
  induction f with
  | zero =>
    intro listed a w _ hr hy hY H
    refine ⟨fun h => (by rw [h] at hr; cases hr), fun j hj => ?_⟩
    by_cases hji : j = i
    · subst hji; exact hy.wpOp hi hY ⟨hCi w, H⟩
    · have := ready_mono hj hji
      rw [H.1] at this
      cases this
  | succ f ih =>
    intro listed a w hfree hr hy hY H
    refine ⟨fun h => (by rw [h] at hr; cases hr), fun j hj => ?_⟩
    by_cases hji : j = i
    · subst hji; exact hy.wpOp hi hY ⟨hCi w, H⟩
    · have h1 := H.2 j (ready_mono hj hji)
      obtain ⟨hjun, oj, hoj, hall⟩ := mem_ready.1 hj
      have hnot : ∀ e ∈ oj.after, Region.binds md e = true → e.on ≠ i := fun e he hb heq => by
        have h1 := hall e he hb
        have h0 := (mem_ready.1 hr).1
        rw [heq] at h1
        rcases Nat.lt_or_ge i listed.size with h' | h'
        · simp [h'] at h0 h1; rw [h0] at h1; cases h1
        · simp [Array.getElem?_eq_none h'] at h1
      obtain ⟨hap, hkeep⟩ := hfree j oj hoj hji hjun hnot
      have h2 := wpOp_putIf hoj hap (fun cs b => hsel i oi cs b hi) (fun cs b => hsel j oj cs b hoj) (fun c a w h => (hQ c _ w h).elim) hy h1
      have hfree' : ∀ k ok, ops[k]? = some ok → k ≠ i → (listed.setIfInBounds j true).getD k true = false →
          (∀ e ∈ ok.after, Region.binds md e = true → e.on ≠ i) → oi.apart ops ok = true ∧ ∀ w w', C k w w' → Y w → Y w' := fun k ok hk hki hun hno => by
        refine hfree k ok hk hki ?_ hno
        by_cases hjk : j = k
        · subst hjk; exact hjun
        · rw [getD_set_ne true hjk] at hun; exact hun
      refine wpOp_mono (fun a' w' h3 => ⟨h3.2.1, ih (listed.setIfInBounds j true) a' w' hfree' (ready_mono hr (Ne.symm hji)) h3.1 (hkeep w w' h3.2.1 hY) ?_⟩) h2
      rw [Array.setIfInBounds_comm _ _ hji]
      exact h3.2.2
end
end Go.VC
/-
  The calculus' soundness, fifth part: a region that draws; the whole code; a function.
-/
namespace Go.VC
open Go
variable {P : Program}

/-- What an operation of a drawn region does to the world: nothing; or, until the tail, it keeps S. -/
def Cond (ops : Array Oper) (tail : List Nat) (S : World → Prop) (i : Nat) (w w' : World) : Prop :=
  match ops[i]? with
  | some o => if isEff o.op = true then (tail.contains i = false → S w → S w') else w' = w
  | none => True
def readsDone (ops : Array Oper) (listed : Array Bool) : Prop := ∀ (r : Nat) (o : Oper), ops[r]? = some o → isRead o.op = true → listed.getD r true = true

theorem pure_of_read {At : (World → Prop) → Prop} {ρ : Operand → Value} {ent : Option (TypeId × TypeId)} {op : Op} {T : TypeId} {K : Value → Prop} (hr : isRead op = false) (h : readV P At ρ ent op T K) : pureV P ρ op K := by
  unfold readV at h
  split at h <;> first | exact h | (simp [isRead] at hr)

theorem opV_quiet {At : (World → Prop) → World → Prop} {Sb : Prop → World → Prop} {hs : List (Nat × TypeId × TypeId)} {i nt : Nat} {o : Oper} {env : Env} {K : Env → World → Prop} {w : World} {a : Act} {S : World → Prop}
    {ops : Array Oper} (hAt : ∀ φ, S w → At φ w → ∀ w', S w' → φ w') (hA2 : AtOk (fun φ => At φ w)) (ha : Agree nt a env) (hd : dstIn nt o = true) (hw : Region.wanted o (yielded ops a.tmps) = true)
    (he : isEff o.op = false) (h : opV P At Sb hs i o env K w) :
    ∃ v, (isRead o.op = true → S w → YieldsIf P ops S o v a) ∧ (isRead o.op = false → YieldsIf P ops (fun _ => True) o v a) ∧ Agree nt (a.put o.dst v) (putE env o.dst v) ∧ K (putE env o.dst v) w := by
  unfold opV at h
  obtain ⟨hk, h⟩ := bif_elim h
  rw [he] at h
  have hx := execOp_agree ha (served_read h) hk
  cases hr : isRead o.op with
  | false =>
    obtain ⟨v, h1, h2⟩ := pureV_sound (pure_of_read hr h)
    exact ⟨v, (fun e => by cases e), fun _ => .inl ⟨hw, fun w' _ => by rw [hx]; exact h1 w'⟩, ha.put (dstIn_lt hd) v, h2⟩
  | true =>
    obtain ⟨v, h1, h2⟩ := readV_sound hA2 h
    exact ⟨v, fun _ hS => .inl ⟨hw, fun w' hw' => by rw [hx]; exact hAt _ hS h1 w' hw'⟩, (fun e => by cases e), ha.put (dstIn_lt hd) v, h2⟩

theorem tail_edge {ops : Array Oper} {tail : List Nat} (ht : tailOk ops.toList tail = true) {j r : Nat} {oj o : Oper} (hj : tail.contains j = true) (hoj : ops[j]? = some oj) (ho : ops[r]? = some o) (hr : isRead o.op = true) :
    ∃ e ∈ oj.after, Region.binds .any e = true ∧ e.on = r := by
  have h1 := List.all_eq_true.1 ht j (by simpa using hj)
  have hm : (o, r) ∈ ops.toList.zipIdx := by
    rw [List.mem_zipIdx_iff_getElem?]
    simpa using ho
  have h2 := List.all_eq_true.1 h1 _ hm
  have hoj' : ops.toList[j]? = some oj := by simpa using hoj
  simp only [hr, hoj', Bool.not_true, Bool.false_or] at h2
  obtain ⟨e, he, h3⟩ := List.any_eq_true.1 h2
  simp only [Bool.and_eq_true] at h3
  exact ⟨e, by simpa using he, h3.1, Nat.eq_of_beq_eq_true h3.2⟩

theorem opsV_anyE {At : (World → Prop) → World → Prop} {Sb : Nat → Prop → World → Prop} {hs : List (Nat × TypeId × TypeId)} {ops : Array Oper} {K : Env → World → Prop} {nt : Nat} {Q : Exit → Act → World → Prop} {S : World → Prop} {tail : List Nat} {F : Act → Prop}
    (hF : ∀ (i : Nat) (o : Oper) a v, ops[i]? = some o → F a → F (a.put o.dst v))
    (hAt : ∀ φ w, S w → At φ w → ∀ w', S w' → φ w') (hA2 : ∀ w, AtOk (fun φ => At φ w)) (hSb : ∀ i o, ops[i]? = some o → isEff o.op = true → ∀ p w', Sb i p w' → (tail.contains i = false → S w') ∧ p)
    (hsel : Region.noSelect ops = true) (ht : tailOk ops.toList tail = true) (hd : ops.toList.all (dstIn nt) = true) (hQp : ∀ c a w, ¬ Q (.panic c) a w)
    {E : Array Bool → Bool} {n : Nat} (hQ : ∀ listed env a w, E listed = true → listed.size = ops.size → Agree nt a env → F a → (S w ∨ readsDone ops listed) → K env w → anyC P .any ops Q (Cond ops tail S) n listed a w) :
    ∀ (plan : List Nat) (listed : Array Bool) (res : List (Nat × Bool)) (env : Env) (a : Act) (w : World), listed.size = ops.size → planGoE ops E plan listed = true → Agree nt a env → F a → (S w ∨ readsDone ops listed) →
      opsV P At Sb hs ops.toList K plan res env w → anyC P .any ops Q (Cond ops tail S) (plan.length + n) listed a w
  | [], listed, res, env, a, w, hl, hp, ha, hf, hS, h => by
    simp only [planGoE] at hp
    simp only [List.length_nil, Nat.zero_add]
    exact hQ listed env a w hp hl ha hf hS h
  | i :: r, listed, res, env, a, w, hl, hp, ha, hf, hS, h => by
    obtain ⟨o, ho, res', st⟩ := opsV_step ha h
    simp only [planGoE, ho, Bool.and_eq_true] at hp
    rw [show (i :: r).length + n = (r.length + n) + 1 from by simp; omega]
    obtain ⟨hp1, hp2⟩ := hp
    have hdi := dstIn_at hd ho
    have hl' : (listed.setIfInBounds i true).size = ops.size := by simpa using hl
    have mono : readsDone ops listed → readsDone ops (listed.setIfInBounds i true) := fun h k ok hk hr => by
      have := h k ok hk hr
      by_cases e : i = k
      · subst e
        have hlt : i < ops.size := by
          rcases Nat.lt_or_ge i ops.size with h | h
          · exact h
          · rw [Array.getElem?_eq_none h] at hk; cases hk
        simp [hl, hlt]
      · rw [getD_set_ne true e]; exact this
    cases he : isEff o.op with
    | true =>
      rw [he] at hp1
      simp only [cond_true] at hp1
      have hrd : Region.ready .any ops listed = [i] := by
        cases hr : Region.ready .any ops listed with
        | nil => rw [hr] at hp1; cases hp1
        | cons j rest =>
          cases rest with
          | nil => rw [hr] at hp1; simp only at hp1; rw [Nat.eq_of_beq_eq_true hp1]
          | cons => rw [hr] at hp1; cases hp1
      refine ⟨(fun h0 => by rw [hrd] at h0; cases h0), fun j hj => ?_⟩
      rw [hrd] at hj
      obtain rfl : j = i := by simpa using hj
      have hmem : j ∈ Region.ready .any ops listed := by rw [hrd]; simp
      -- in the tail all reads are done
      have done : tail.contains j = true → readsDone ops (listed.setIfInBounds j true) := fun htl k ok hk hr => by
        obtain ⟨e, hem, hb, hon⟩ := tail_edge ht htl ho hk hr
        obtain ⟨_, oj, hoj, hall⟩ := mem_ready.1 hmem
        rw [ho] at hoj; cases hoj
        have := hall e hem hb
        rw [hon] at this
        have hlt : k < listed.size := by
          rw [hl]
          rcases Nat.lt_or_ge k ops.size with h | h
          · exact h
          · rw [Array.getElem?_eq_none h] at hk; cases hk
        by_cases e' : j = k
        · subst e'; simp [hlt]
        · rw [getD_set_ne true e']
          simp only [Array.getD_eq_getD_getElem?] at this ⊢
          rw [Array.getElem?_eq_getElem hlt] at this ⊢
          simpa using this
      unfold wpOp
      simp only [ho]
      cases st with
      | run env' ha' hw h' =>
        rw [if_pos hw]
        left
        unfold opV at h'
        obtain ⟨hk, h'⟩ := bif_elim h'
        rw [he] at h'
        unfold Oper.wp
        rw [execOp_agree ha' (served_eff h') hk]
        refine effV_sound h' fun v w' hv => ?_
        obtain ⟨h1, h2⟩ := hSb _ _ ho he _ _ hv
        refine ⟨?_, opsV_anyE hF hAt hA2 hSb hsel ht hd hQp hQ r _ res' _ _ w' hl' hp2 (ha'.put (dstIn_lt hdi) v) (hF _ o a v ho hf) ?_ h2⟩
        · simp only [Cond, ho, he, if_true]; exact fun ht _ => h1 ht
        · cases hc : tail.contains j with
          | false => exact .inl (h1 hc)
          | true => exact .inr (done hc)
      | skip env' ha' hw h' =>
        rw [if_neg (by rw [hw]; simp)]
        refine ⟨?_, opsV_anyE hF hAt hA2 hSb hsel ht hd hQp hQ r _ res' _ _ w hl' hp2 (ha'.put (dstIn_lt hdi) undef) (hF _ o a undef ho hf) (hS.imp id mono) h'⟩
        simp only [Cond, ho, he, if_true]; exact fun _ h => h
    | false =>
      rw [he] at hp1
      simp only [cond_false, Bool.and_eq_true] at hp1
      obtain ⟨hp1, hfree⟩ := hp1
      have hmem : i ∈ Region.ready .any ops listed := by simpa using hp1
      have hun : listed.getD i true = false := (mem_ready.1 hmem).1
      have hCi : ∀ w, Cond ops tail S i w w := fun w => by simp [Cond, ho, he]
      have keep : isRead o.op = true → ∀ j oj, ops[j]? = some oj → j ≠ i → listed.getD j true = false → (∀ e ∈ oj.after, Region.binds .any e = true → e.on ≠ i) →
          o.apart ops oj = true ∧ ∀ w w', Cond ops tail S j w w' → S w → S w' := fun hr j oj hoj hji hju hno => by
        refine ⟨Region.free_spec ho hfree j oj hoj hji hju hno, fun w w' hc hSw => ?_⟩
        simp only [Cond, hoj] at hc
        cases hej : isEff oj.op with
        | false => rw [hej] at hc; simp only [Bool.false_eq_true, if_false] at hc; subst hc; exact hSw
        | true =>
          rw [hej] at hc
          simp only [if_true] at hc
          cases htl : tail.contains j with
          | false => exact hc htl hSw
          | true =>
            obtain ⟨e, hem, hb, hon⟩ := tail_edge ht htl hoj ho hr
            exact absurd hon (hno e hem hb)
      have keepT : ∀ j oj, ops[j]? = some oj → j ≠ i → listed.getD j true = false → (∀ e ∈ oj.after, Region.binds .any e = true → e.on ≠ i) →
          o.apart ops oj = true ∧ ∀ w w', Cond ops tail S j w w' → (fun _ : World => True) w → (fun _ : World => True) w' := fun j oj hoj hji hju hno =>
        ⟨Region.free_spec ho hfree j oj hoj hji hju hno, fun _ _ _ _ => trivial⟩
      have sel := Region.noSelect_spec hsel
      cases st with
      | run env' ha' hw h' =>
        have hSr : isRead o.op = true → S w := fun hr => by
          rcases hS with hS | hS
          · exact hS
          · have := hS i o ho hr; rw [hun] at this; cases this
        have next : ∀ v, Agree nt (a.put o.dst v) (putE env' o.dst v) → opsV P At Sb hs ops.toList K r res' (putE env' o.dst v) w → anyC P .any ops Q (Cond ops tail S) (r.length + n) (listed.setIfInBounds i true) (a.put o.dst v) w :=
          fun v hav hK => opsV_anyE hF hAt hA2 hSb hsel ht hd hQp hQ r _ res' _ _ w hl' hp2 hav (hF _ o a v ho hf) (hS.imp id mono) hK
        have hq : ∃ v, (isRead o.op = true → YieldsIf P ops S o v a) ∧ (isRead o.op = false → YieldsIf P ops (fun _ => True) o v a) ∧ Agree nt (a.put o.dst v) (putE env' o.dst v) ∧ opsV P At Sb hs ops.toList K r res' (putE env' o.dst v) w := by
          obtain ⟨v, h1, h2, h3, h4⟩ := opV_quiet (S := S) (ops := ops) (fun φ => hAt φ w) (hA2 w) ha' hdi hw he h'
          exact ⟨v, fun hr => h1 hr (hSr hr), h2, h3, h4⟩
        obtain ⟨v, h1, h2, h3, h4⟩ := hq
        cases hr : isRead o.op with
        | true => exact anyC_first ho sel hQp hCi (r.length + n) listed a w (keep hr) hmem (h1 hr) (hSr hr) (next v h3 h4)
        | false => exact anyC_first (Y := fun _ => True) ho sel hQp hCi (r.length + n) listed a w keepT hmem (h2 hr) trivial (next v h3 h4)
      | skip env' ha' hw h' =>
        refine anyC_first (v := undef) (Y := fun _ => True) ho sel hQp hCi (r.length + n) listed a w keepT hmem (.inr ⟨hw, rfl⟩) trivial ?_
        exact opsV_anyE hF hAt hA2 hSb hsel ht hd hQp hQ r _ res' _ _ w hl' hp2 (ha'.put (dstIn_lt hdi) undef) (hF _ o a undef ho hf) (hS.imp id mono) h'

theorem opsV_any {At : (World → Prop) → World → Prop} {Sb : Nat → Prop → World → Prop} {hs : List (Nat × TypeId × TypeId)} {ops : Array Oper} {K : Env → World → Prop} {nt : Nat} {Q : Exit → Act → World → Prop} {S : World → Prop} {tail : List Nat} {F : Act → Prop}
    (hF : ∀ (i : Nat) (o : Oper) a v, ops[i]? = some o → F a → F (a.put o.dst v))
    (hAt : ∀ φ w, S w → At φ w → ∀ w', S w' → φ w') (hA2 : ∀ w, AtOk (fun φ => At φ w)) (hSb : ∀ i o, ops[i]? = some o → isEff o.op = true → ∀ p w', Sb i p w' → (tail.contains i = false → S w') ∧ p)
    (hsel : Region.noSelect ops = true) (ht : tailOk ops.toList tail = true) (hd : ops.toList.all (dstIn nt) = true) (hQp : ∀ c a w, ¬ Q (.panic c) a w)
    (hQ : ∀ env a w, Agree nt a env → F a → K env w → Q .normal a w) :
    ∀ (plan : List Nat) (listed : Array Bool) (res : List (Nat × Bool)) (env : Env) (a : Act) (w : World), listed.size = ops.size → planGo ops plan listed = true → Agree nt a env → F a → (S w ∨ readsDone ops listed) →
      opsV P At Sb hs ops.toList K plan res env w → anyC P .any ops Q (Cond ops tail S) plan.length listed a w :=
  fun plan listed res env a w hl hp ha hf hS h => opsV_anyE (n := 0) hF hAt hA2 hSb hsel ht hd hQp (fun _ env a w he _ ha hf _ hK => ⟨by simpa using he, hQ env a w ha hf hK⟩) plan listed res env a w hl hp ha hf hS h

theorem effIdx_mem {ops : Array Oper} {i : Nat} {o : Oper} (ho : ops[i]? = some o) (he : isEff o.op = true) : (effIdx ops.toList).contains i = true := by
  have hm : (o, i) ∈ ops.toList.zipIdx := by rw [List.mem_zipIdx_iff_getElem?]; simpa using ho
  have : i ∈ effIdx ops.toList := List.mem_map.2 ⟨(o, i), List.mem_filter.2 ⟨hm, he⟩, rfl⟩
  simpa using this

/-! ### places where ways meet -/
/-- A smaller environment. -/
def Sub (e f : Env) : Prop := ∀ t, known e t = true → known f t = true ∧ look f t = look e t
theorem Sub.agree {nt : Nat} {a : Act} {e f : Env} (h : Sub e f) (ha : Agree nt a f) : Agree nt a e :=
  ⟨ha.defers, ha.size, fun t ht => by obtain ⟨h1, h2⟩ := h t ht; rw [ha.slots t h1, h2]⟩
theorem Sub.cons {e f : Env} (h : Sub e f) {t : Nat} {v : Value} (hk : known f t = true) (hv : look f t = v) : Sub ((t, v) :: e) f := fun s hs => by
  by_cases e' : t = s
  · subst e'; exact ⟨hk, by rw [look_cons_same]; exact hv⟩
  · rw [known_cons_other _ _ e'] at hs; rw [look_cons_other _ _ e']; exact h s hs
theorem dec_enc {s : SK} {v : Value} {K : s.T → Prop} (h : s.dec v K) : ∃ x, v = s.enc x ∧ K x := by
  unfold SK.dec at h
  split at h
  · rename_i k k' n K'
    obtain ⟨hk, h1⟩ := bif_elim h
    obtain rfl := ikEq_eq hk
    exact ⟨n, rfl, h1⟩
  · exact ⟨_, rfl, h⟩
  · exact ⟨_, rfl, h⟩
  · exact ⟨_, rfl, h⟩
  · exact ⟨_, rfl, h⟩
  · exact ⟨_, rfl, h⟩
  · exact ⟨_, rfl, h⟩
  · exact h.elim
theorem appC_cons {t : Nat} {s : SK} {r : Live} {env : Env} {K : Cont ((t, s) :: r)} {w : World} (h : appC ((t, s) :: r) env K w) :
    ∃ x : s.T, known env t = true ∧ look env t = s.enc x ∧ appC r env (K x) w := by
  unfold appC at h
  obtain ⟨hk, h⟩ := bif_elim h
  obtain ⟨x, hx, h⟩ := dec_enc h
  exact ⟨x, hk, hx, h⟩
theorem dec_mk {s : SK} {K : s.T → Prop} (x : s.T) (h : K x) : s.dec (s.enc x) K := by
  cases s with
  | int k =>
    have hk : ikEq k k = true := by cases k <;> rfl
    show bif ikEq k k then K x else False
    rw [hk]; exact h
  | _ => exact h
theorem appC_mk {t : Nat} {s : SK} {r : Live} {env : Env} {K : Cont ((t, s) :: r)} {w : World} {x : s.T} (hk : known env t = true) (hx : look env t = s.enc x) (h : appC r env (K x) w) : appC ((t, s) :: r) env K w := by
  unfold appC
  rw [hk, hx]
  exact dec_mk x h
theorem Agree.cons {nt : Nat} {a : Act} {acc env : Env} (h : Agree nt a acc) (he : Agree nt a env) {t : Nat} {v : Value} (hk : known env t = true) (hv : look env t = v) : Agree nt a ((t, v) :: acc) :=
  ⟨h.defers, h.size, fun s hs => by
    by_cases e' : t = s
    · subst e'; rw [look_cons_same, ← hv]; exact he.slots _ hk
    · rw [known_cons_other _ _ e'] at hs; rw [look_cons_other _ _ e']; exact h.slots s hs⟩
theorem Agree.empty {nt : Nat} {a : Act} {env : Env} (he : Agree nt a env) : Agree nt a [] := ⟨he.defers, he.size, fun s hs => by cases hs⟩
theorem appC_lamC {nt : Nat} {a : Act} : ∀ {L : Live} {f : Env → World → Prop} {acc env : Env} {w : World}, Agree nt a acc → Agree nt a env → appC L env (lamC L f acc) w → ∃ e, Agree nt a e ∧ f e w
  | [], f, acc, env, w, hs, _, h => ⟨acc, hs, h⟩
  | (t, s) :: r, f, acc, env, w, hs, he, h => by
    obtain ⟨x, hk, hx, h⟩ := appC_cons h
    exact appC_lamC (hs.cons he hk hx) he h
theorem appC_impC : ∀ {L : Live} {J K : Cont L} {env : Env} {w : World}, impC L J K → appC L env J w → appC L env K w
  | [], _, _, _, _, hi, h => hi _ h
  | (t, s) :: r, J, K, env, w, hi, h => by
    obtain ⟨x, hk, hx, h⟩ := appC_cons h
    exact appC_mk hk hx (appC_impC (hi x) h)
theorem appC_ltC : ∀ {L : Live} {n : Nat} {J : Nat → Cont L} {env : Env} {w : World}, appC L env (ltC L n J) w → ∃ m, m < n ∧ appC L env (J m) w
  | [], _, _, _, _, h => h
  | (t, s) :: r, n, J, env, w, h => by
    obtain ⟨x, hk, hx, h⟩ := appC_cons h
    obtain ⟨m, hm, h⟩ := appC_ltC (J := fun m => J m x) h
    exact ⟨m, hm, appC_mk hk hx h⟩
theorem memN_iff {n : Nat} : ∀ {l : List Nat}, memN n l = true ↔ n ∈ l
  | [] => by simp [memN]
  | m :: r => by
    unfold memN
    cases hb : Nat.beq n m with
    | true => simp [Nat.eq_of_beq_eq_true hb]
    | false =>
      have : n ≠ m := fun e => by subst e; simp at hb
      simp [memN_iff (l := r), this]
theorem known_keepE {ws : List Nat} {t : Nat} : ∀ {env : Env}, known (keepE ws env) t = true → t ∉ ws ∧ known env t = true ∧ look (keepE ws env) t = look env t
  | [], h => by cases h
  | (s, v) :: r, h => by
    unfold keepE at h ⊢
    cases hm : memN s ws with
    | true =>
      rw [hm] at h
      obtain ⟨h1, h2, h3⟩ := known_keepE (env := r) h
      have hne : s ≠ t := fun e => by subst e; exact h1 (memN_iff.1 hm)
      rw [known_cons_other _ _ hne, look_cons_other _ _ hne]
      exact ⟨h1, h2, h3⟩
    | false =>
      rw [hm] at h
      simp only [cond_false] at h ⊢
      by_cases e : s = t
      · subst e
        refine ⟨(fun hw => by rw [memN_iff.2 hw] at hm; cases hm), (by rw [known_cons]; simp), (by rw [look_cons_same, look_cons_same])⟩
      · rw [known_cons_other _ _ e] at h
        rw [known_cons_other _ _ e, look_cons_other _ _ e, look_cons_other _ _ e]
        exact known_keepE h
/-- The slots beside these are as they were. -/
def Frm (ws : List Nat) (a a' : Act) : Prop := ∀ t, t ∉ ws → a'.tmps[t]? = a.tmps[t]?
theorem Frm.refl (ws : List Nat) (a : Act) : Frm ws a a := fun _ _ => rfl
theorem Frm.trans {ws ws' : List Nat} {a b c : Act} (h : Frm ws a b) (k : Frm ws' b c) : Frm (ws ++ ws') a c := fun t ht => by
  simp only [List.mem_append, not_or] at ht
  rw [k t ht.2, h t ht.1]
theorem Frm.mono {ws ws' : List Nat} {a b : Act} (h : Frm ws a b) (hs : ∀ t, t ∈ ws → t ∈ ws') : Frm ws' a b := fun t ht => h t fun h' => ht (hs t h')
theorem Frm.join {ws : List Nat} {a b c : Act} (h : Frm ws a b) (k : Frm ws b c) : Frm ws a c := fun t ht => by rw [k t ht, h t ht]
theorem Frm.keep {nt : Nat} {ws : List Nat} {a a' : Act} {env env' : Env} (h : Frm ws a a') (ha : Agree nt a env) (ha' : Agree nt a' env') : Agree nt a' (keepE ws env) :=
  ⟨ha'.defers, ha'.size, fun t ht => by
    obtain ⟨h1, h2, h3⟩ := known_keepE ht
    rw [h t h1, h3]; exact ha.slots t h2⟩
theorem Frm.put {ops : Array Oper} {a a' : Act} {i : Nat} {o : Oper} {v : Value} (ho : ops[i]? = some o) (h : Frm (ops.toList.filterMap (·.dst)) a a') : Frm (ops.toList.filterMap (·.dst)) a (a'.put o.dst v) := fun t ht => by
  rw [← h t ht]
  cases hd : o.dst with
  | none => rfl
  | some d =>
    have hne : d ≠ t := fun e => ht (List.mem_filterMap.2 ⟨o, by simpa using Array.mem_of_getElem? ho, by rw [hd, e]⟩)
    simp [Act.put, Array.getElem?_setIfInBounds_ne hne]

/-! ### the whole code -/
def QA (nt : Nat) (ws : List Nat) (a0 : Act) (Q : Ex → Env → World → Prop) : Exit → Act → World → Prop
  | .normal, a, w => Frm ws a0 a ∧ ∃ env, Agree nt a env ∧ Q .nrm env w
  | .exit i, a, w => Frm ws a0 a ∧ ∃ env, Agree nt a env ∧ Q (.ext i) env w
  | .ret, a, w => Frm ws a0 a ∧ ∃ env, Agree nt a env ∧ Q .ret env w
  | _, _, _ => False
theorem QA.mono {nt : Nat} {ws ws' : List Nat} {a0 a1 : Act} {Q : Ex → Env → World → Prop} (hf : ∀ a, Frm ws a0 a → Frm ws' a1 a) {e : Exit} {a : Act} {w : World} (h : QA nt ws a0 Q e a w) : QA nt ws' a1 Q e a w := by
  cases e with
  | normal => exact ⟨hf _ h.1, h.2⟩
  | exit i => exact ⟨hf _ h.1, h.2⟩
  | ret => exact ⟨hf _ h.1, h.2⟩
  | goto l => exact h
  | panic c => exact h
  | outgrown => exact h

theorem join_app {L : Live} {Q : Ex → Env → World → Prop} {J : Cont L} {env0 : Env} {nt : Nat} {a0 a : Act} {ws : List Nat} (ha0 : Agree nt a0 env0) (hf : Frm ws a0 a) (hi : impC L J (lamC L (Q .nrm) (keepE ws env0))) {env : Env} {w : World} (ha : Agree nt a env) (h : appC L env J w) : ∃ env, Agree nt a env ∧ Q .nrm env w :=
  appC_lamC (hf.keep ha0 ha) ha (appC_impC hi h)

theorem draw_sound (hm : P.follows .mixedOrders = true) {nt id : Nat} {ops : Array Oper} {plan tail : List Nat} {gen : Bool} {K : Env → World → Prop} {env : Env} {a : Act} {w : World} {Q : Exit → Act → World → Prop}
    (hd : ops.toList.all (dstIn nt) = true) (hp : planOk ops plan (bif gen then tail else effIdx ops.toList) = true) (ha : Agree nt a env) (hQp : ∀ c a w, ¬ Q (.panic c) a w) (hQ : ∀ env a' w, Agree nt a' env → Frm (ops.toList.filterMap (·.dst)) a a' → K env w → Q .normal a' w)
    (h : Draw gen (fun At Sb w' => opsV P At (fun i p w'' => bif tail.contains i then p else Sb p w'') [] ops.toList K plan [] env w') w) : (Code.region id ops true).wp P Q a w := by
  unfold planOk at hp
  simp only [Bool.and_eq_true] at hp
  obtain ⟨⟨⟨hl, h1⟩, h2⟩, h3⟩ := hp
  have hl := Nat.eq_of_beq_eq_true hl
  refine wp_region_any hm ?_
  change wpAny P .any ops Q ops.size (Array.replicate ops.size false) a w.drew
  rw [← hl]
  rw [← hl] at h2
  cases gen with
  | false =>
    refine anyC_wpAny _ _ _ _ (opsV_any (F := Frm (ops.toList.filterMap (·.dst)) a) (fun i o a' v ho h => h.put ho) (S := fun x => x = w.drew) (tail := effIdx ops.toList) ?_ (fun w => atOk_here w) ?_ h1 h3 hd hQp hQ plan _ [] env a w.drew (by simp [hl]) h2 ha (Frm.refl _ _) (.inl rfl) h)
    · intro φ w1 e1 hφ w2 e2; rw [e2, ← e1]; exact hφ
    · intro i o ho he p w' hp
      exact ⟨(fun e => by rw [effIdx_mem ho he] at e; cases e), (by cases hc : tail.contains i <;> rw [hc] at hp <;> exact hp)⟩
  | true =>
    obtain ⟨S, hS, h⟩ := h
    refine anyC_wpAny _ _ _ _ (opsV_any (F := Frm (ops.toList.filterMap (·.dst)) a) (fun i o a' v ho h => h.put ho) (S := S) (tail := tail) ?_ ?_ ?_ h1 h3 hd hQp hQ plan _ [] env a w.drew (by simp [hl]) h2 ha (Frm.refl _ _) (.inl hS) h)
    · intro φ w1 _ hφ w2 e2; exact hφ w2 e2
    · intro w; exact atOk_all S
    · intro i o ho he p w' hp
      cases hc : tail.contains i with
      | true => rw [hc] at hp; exact ⟨(fun e => by cases e), hp⟩
      | false => rw [hc] at hp; exact ⟨fun _ => hp.1, hp.2⟩

theorem eff_step {At : (World → Prop) → World → Prop} {Sb : Nat → Prop → World → Prop} {hs : List (Nat × TypeId × TypeId)} {ops : Array Oper} {K : Env → World → Prop} {nt : Nat} {Q : Exit → Act → World → Prop} {S : World → Prop} {tail : List Nat} {F : Act → Prop}
    (hF : ∀ (i : Nat) (o : Oper) a v, ops[i]? = some o → F a → F (a.put o.dst v))
    (hSb : ∀ i o, ops[i]? = some o → isEff o.op = true → ∀ p w', Sb i p w' → (tail.contains i = false → S w') ∧ p)
    (ht : tailOk ops.toList tail = true) (hd : ops.toList.all (dstIn nt) = true) {j : Nat} {r : List Nat} {res : List (Nat × Bool)} {env : Env} {a : Act} {w : World} {listed : Array Bool}
    (he : isEffAt ops j = true) (hmem : j ∈ Region.ready .any ops listed) (hl : listed.size = ops.size) (ha : Agree nt a env) (hf : F a) (hS : S w ∨ readsDone ops listed) (h : opsV P At Sb hs ops.toList K (j :: r) res env w) {m : Nat}
    (hrest : ∀ res' env' a' w', Agree nt a' env' → F a' → (S w' ∨ readsDone ops (listed.setIfInBounds j true)) → opsV P At Sb hs ops.toList K r res' env' w' → anyC P .any ops Q (Cond ops tail S) m (listed.setIfInBounds j true) a' w') :
    wpOp P ops Q j (fun a' w' => Cond ops tail S j w w' ∧ anyC P .any ops Q (Cond ops tail S) m (listed.setIfInBounds j true) a' w') a w := by
  obtain ⟨o, ho, res', st⟩ := opsV_step ha h
  have he : isEff o.op = true := by unfold isEffAt at he; rw [ho] at he; exact he
  have hdi := dstIn_at hd ho
  have mono : readsDone ops listed → readsDone ops (listed.setIfInBounds j true) := fun h k ok hk hr => by
    have := h k ok hk hr
    by_cases e : j = k
    · subst e
      have hlt : j < ops.size := by
        rcases Nat.lt_or_ge j ops.size with h | h
        · exact h
        · rw [Array.getElem?_eq_none h] at hk; cases hk
      simp [hl, hlt]
    · rw [getD_set_ne true e]; exact this
  have done : tail.contains j = true → readsDone ops (listed.setIfInBounds j true) := fun htl k ok hk hr => by
    obtain ⟨e, hem, hb, hon⟩ := tail_edge ht htl ho hk hr
    obtain ⟨_, oj, hoj, hall⟩ := mem_ready.1 hmem
    rw [ho] at hoj; cases hoj
    have := hall e hem hb
    rw [hon] at this
    have hlt : k < listed.size := by
      rw [hl]
      rcases Nat.lt_or_ge k ops.size with h | h
      · exact h
      · rw [Array.getElem?_eq_none h] at hk; cases hk
    by_cases e' : j = k
    · subst e'; simp [hlt]
    · rw [getD_set_ne true e']
      simp only [Array.getD_eq_getD_getElem?] at this ⊢
      rw [Array.getElem?_eq_getElem hlt] at this ⊢
      simpa using this
  unfold wpOp
  simp only [ho]
  cases st with
  | run env' ha' hw h' =>
    rw [if_pos hw]
    left
    unfold opV at h'
    obtain ⟨hk, h'⟩ := bif_elim h'
    rw [he] at h'
    unfold Oper.wp
    rw [execOp_agree ha' (served_eff h') hk]
    refine effV_sound h' fun v w' hv => ?_
    obtain ⟨h1, h2⟩ := hSb _ _ ho he _ _ hv
    refine ⟨?_, hrest res' _ _ w' (ha'.put (dstIn_lt hdi) v) (hF _ o a v ho hf) ?_ h2⟩
    · simp only [Cond, ho, he, if_true]; exact fun ht _ => h1 ht
    · cases hc : tail.contains j with
      | false => exact .inl (h1 hc)
      | true => exact .inr (done hc)
  | skip env' ha' hw h' =>
    rw [if_neg (by rw [hw]; simp)]
    refine ⟨?_, hrest res' _ _ w (ha'.put (dstIn_lt hdi) undef) (hF _ o a undef ho hf) (hS.imp id mono) h'⟩
    simp only [Cond, ho, he, if_true]; exact fun _ h => h

theorem fork_sound (hm : P.follows .mixedOrders = true) {nt id : Nat} {ops : Array Oper} {pre : List Nat} {i j : Nat} {r1 r2 tail : List Nat} {K : Env → World → Prop} {env : Env} {a : Act} {w : World} {Q : Exit → Act → World → Prop}
    (hd : ops.toList.all (dstIn nt) = true) (hp : forkOk ops pre i j r1 r2 tail = true) (ha : Agree nt a env) (hQp : ∀ c a w, ¬ Q (.panic c) a w) (hQ : ∀ env a' w, Agree nt a' env → Frm (ops.toList.filterMap (·.dst)) a a' → K env w → Q .normal a' w)
    (h : ∃ S : World → Prop, S w.drew ∧
        opsV P (fun φ _ => ∀ w, S w → φ w) (fun i p w'' => bif tail.contains i then p else S w'' ∧ p) [] ops.toList (fun env' w' =>
          opsV P (fun φ _ => ∀ w, S w → φ w) (fun i p w'' => bif tail.contains i then p else S w'' ∧ p) [] ops.toList K (i :: r1) [] env' w' ∧
          opsV P (fun φ _ => ∀ w, S w → φ w) (fun i p w'' => bif tail.contains i then p else S w'' ∧ p) [] ops.toList K (j :: r2) [] env' w') pre [] env w.drew) : (Code.region id ops true).wp P Q a w := by
  unfold forkOk at hp
  simp only [Bool.and_eq_true] at hp
  obtain ⟨⟨⟨⟨hl, hl2⟩, h1⟩, h2⟩, h3⟩ := hp
  have hl := Nat.eq_of_beq_eq_true hl
  have hl2 := Nat.eq_of_beq_eq_true hl2
  refine wp_region_any hm ?_
  change wpAny P .any ops Q ops.size (Array.replicate ops.size false) a w.drew
  obtain ⟨S, hS, h⟩ := h
  have hAt : ∀ (φ : World → Prop) (w : World), S w → (∀ w, S w → φ w) → ∀ w', S w' → φ w' := fun φ w1 _ hφ w2 e2 => hφ w2 e2
  have hSb : ∀ i o, ops[i]? = some o → isEff o.op = true → ∀ (p : Prop) w', (bif tail.contains i then p else S w' ∧ p) → (tail.contains i = false → S w') ∧ p := by
    intro i o ho he p w' hp
    cases hc : tail.contains i with
    | true => rw [hc] at hp; exact ⟨(fun e => by cases e), hp⟩
    | false => rw [hc] at hp; exact ⟨fun _ => hp.1, hp.2⟩
  have hF : ∀ (i : Nat) (o : Oper) a' v, ops[i]? = some o → Frm (ops.toList.filterMap (·.dst)) a a' → Frm (ops.toList.filterMap (·.dst)) a (a'.put o.dst v) := fun i o a' v ho h => h.put ho
  have hlen : ops.size = pre.length + (r1.length + 1) := hl.symm
  conv => arg 5; rw [hlen]
  refine anyC_wpAny _ _ _ _ (opsV_anyE (F := Frm (ops.toList.filterMap (·.dst)) a) hF (S := S) (tail := tail) hAt (fun w => atOk_all S) hSb h1 h3 hd hQp (n := r1.length + 1) ?_ pre _ [] env a w.drew (by simp) h2 ha (Frm.refl _ _) (.inl hS) h)
  intro listed env' a' w' hE hls ha' hf' hS' hK
  unfold forkAt at hE
  simp only [Bool.and_eq_true] at hE
  obtain ⟨⟨⟨⟨hr, hi⟩, hj⟩, hp1⟩, hp2⟩ := hE
  have hrd : Region.ready .any ops listed = [i, j] := by
    cases hre : Region.ready .any ops listed with
    | nil => rw [hre] at hr; cases hr
    | cons x t =>
      cases t with
      | nil => rw [hre] at hr; cases hr
      | cons y t' =>
        cases t' with
        | nil =>
          rw [hre] at hr
          simp only [Bool.and_eq_true] at hr
          rw [Nat.eq_of_beq_eq_true hr.1, Nat.eq_of_beq_eq_true hr.2]
        | cons _ _ => rw [hre] at hr; cases hr
  refine ⟨(fun h0 => by rw [hrd] at h0; cases h0), fun k hk => ?_⟩
  have hk' := hk
  rw [hrd] at hk
  have rest : ∀ (k : Nat) (r : List Nat), r.length = r1.length → planGo ops r (listed.setIfInBounds k true) = true → ∀ res' env' a' w', Agree nt a' env' → Frm (ops.toList.filterMap (·.dst)) a a' → (S w' ∨ readsDone ops (listed.setIfInBounds k true)) →
      opsV P (fun φ _ => ∀ w, S w → φ w) (fun i p w'' => bif tail.contains i then p else S w'' ∧ p) [] ops.toList K r res' env' w' → anyC P .any ops Q (Cond ops tail S) r1.length (listed.setIfInBounds k true) a' w' := by
    intro k r hrl hpk res' env' a' w' ha' hf' hS' h'
    rw [← hrl]
    exact opsV_any (F := Frm (ops.toList.filterMap (·.dst)) a) hF (S := S) (tail := tail) hAt (fun w => atOk_all S) hSb h1 h3 hd hQp (fun env a'' w ha hf hK => hQ env a'' w ha hf hK) r _ res' env' a' w' (by simpa using hls) hpk ha' hf' hS' h'
  rcases List.mem_cons.1 hk with rfl | hk
  · exact eff_step hF hSb h3 hd hi hk' hls ha' hf' hS' hK.1 (rest k r1 rfl hp1)
  · have hk := List.mem_singleton.1 hk
    subst hk
    exact eff_step hF hSb h3 hd hj hk' hls ha' hf' hS' hK.2 (rest k r2 hl2.symm hp2)

/-- Where nothing changes the world any more, what an operation does to the world may be told in any way. -/
theorem anyC_late {ops : Array Oper} {Q : Exit → Act → World → Prop} {t1 t2 : List Nat} {S1 S2 : World → Prop} : ∀ (f : Nat) (listed : Array Bool) (a : Act) (w : World), (∀ (r : Nat) (o : Oper), ops[r]? = some o → isEff o.op = true → listed.getD r true = true) →
    anyC P .any ops Q (Cond ops t1 S1) f listed a w → anyC P .any ops Q (Cond ops t2 S2) f listed a w
  | 0, _, _, _, _, h => h
  | f + 1, listed, a, w, he, h => by
    refine ⟨h.1, fun i hi => wpOp_mono (fun a' w' h3 => ⟨?_, anyC_late f _ a' w' (fun r o ho heff => ?_) h3.2⟩) (h.2 i hi)⟩
    · have h3 := h3.1
      unfold Cond at h3 ⊢
      split
      · rename_i o ho
        simp only [ho] at h3
        have hn : isEff o.op = false := by
          cases hc : isEff o.op with
          | false => rfl
          | true => have := he i o ho hc; rw [(mem_ready.1 hi).1] at this; cases this
        rw [hn] at h3 ⊢
        simpa using h3
      · trivial
    · have := he r o ho heff
      by_cases e : i = r
      · subst e
        simp only [Array.getD_eq_getD_getElem?]
        rcases Nat.lt_or_ge i listed.size with h' | h'
        · simp [h']
        · simp [Array.getElem?_eq_none (show (listed.setIfInBounds i true).size ≤ i by simpa using h')]
      · rw [getD_set_ne true e]; exact this
theorem effsDone_of {ops : Array Oper} {listed : Array Bool} (h : effsDoneB ops listed = true) : ∀ (r : Nat) (o : Oper), ops[r]? = some o → isEff o.op = true → listed.getD r true = true := fun r o ho he => by
  have hm : (o, r) ∈ ops.toList.zipIdx := by rw [List.mem_zipIdx_iff_getElem?]; simpa using ho
  have := List.all_eq_true.1 h _ hm
  simpa [he] using this
theorem tree_any {ops : Array Oper} {K : Env → World → Prop} {nt : Nat} {Q : Exit → Act → World → Prop} {S : World → Prop} {tail : List Nat} {F : Act → Prop}
    (hF : ∀ (i : Nat) (o : Oper) a v, ops[i]? = some o → F a → F (a.put o.dst v))
    (hsel : Region.noSelect ops = true) (ht : tailOk ops.toList tail = true) (hd : ops.toList.all (dstIn nt) = true) (hQp : ∀ c a w, ¬ Q (.panic c) a w)
    (hQ : ∀ env a w, Agree nt a env → F a → K env w → Q .normal a w) :
    ∀ (t : PT) (n : Nat) (listed : Array Bool) (env : Env) (a : Act) (w : World), t.depth ≤ n → listed.size = ops.size → treeOk ops t listed = true → Agree nt a env → F a → (S w ∨ readsDone ops listed) →
      treeV P S tail ops.toList K t env w → anyC P .any ops Q (Cond ops tail S) n listed a w := by
  have hAt : ∀ (φ : World → Prop) (w : World), S w → (∀ w, S w → φ w) → ∀ w', S w' → φ w' := fun φ w1 _ hφ w2 e2 => hφ w2 e2
  have hSb : ∀ i o, ops[i]? = some o → isEff o.op = true → ∀ (p : Prop) w', (bif tail.contains i then p else S w' ∧ p) → (tail.contains i = false → S w') ∧ p := by
    intro i o ho he p w' hp
    cases hc : tail.contains i with
    | true => rw [hc] at hp; exact ⟨(fun e => by cases e), hp⟩
    | false => rw [hc] at hp; exact ⟨fun _ => hp.1, hp.2⟩
  have hend : ∀ (n : Nat) (C : Nat → World → World → Prop) (listed : Array Bool) (env : Env) (a : Act) (w : World), (Region.ready .any ops listed).isEmpty = true → Agree nt a env → F a → K env w → anyC P .any ops Q C n listed a w := by
    intro n C listed env a w he ha hf hK
    have he : Region.ready .any ops listed = [] := by simpa using he
    cases n with
    | zero => exact ⟨he, hQ env a w ha hf hK⟩
    | succ n => exact ⟨fun _ => hQ env a w ha hf hK, fun i hi => by rw [he] at hi; cases hi⟩
  intro t
  induction t with
  | nil =>
    intro n listed env a w _ hl hp ha hf hS h
    exact hend n _ listed env a w hp ha hf h
  | go pre r ih =>
    intro n listed env a w hn hl hp ha hf hS h
    have hn : pre.length + r.depth ≤ n := hn
    obtain ⟨m, rfl⟩ : ∃ m, n = pre.length + m := ⟨n - pre.length, by omega⟩
    exact opsV_anyE hF (S := S) (tail := tail) hAt (fun w => atOk_all S) hSb hsel ht hd hQp (n := m) (fun listed' env' a' w' hE hls ha' hf' hS' hK => ih m listed' env' a' w' (by omega) hls hE ha' hf' hS' hK) pre listed [] env a w hl hp ha hf hS h
  | fk i x j y ihx ihy =>
    intro n listed env a w hn hl hp ha hf hS h
    have hn : Nat.max x.depth y.depth + 1 ≤ n := hn
    obtain ⟨m, rfl⟩ : ∃ m, n = m + 1 := ⟨n - 1, by omega⟩
    have hx : x.depth ≤ m := by have : x.depth ≤ Nat.max x.depth y.depth := Nat.le_max_left _ _
                                omega
    have hy : y.depth ≤ m := by have : y.depth ≤ Nat.max x.depth y.depth := Nat.le_max_right _ _
                                omega
    simp only [treeOk, Bool.and_eq_true] at hp
    obtain ⟨⟨⟨⟨hr, hi⟩, hj⟩, hp1⟩, hp2⟩ := hp
    have hrd : Region.ready .any ops listed = [i, j] := by
      cases hre : Region.ready .any ops listed with
      | nil => rw [hre] at hr; cases hr
      | cons x t =>
        cases t with
        | nil => rw [hre] at hr; cases hr
        | cons y t' =>
          cases t' with
          | nil =>
            rw [hre] at hr
            simp only [Bool.and_eq_true] at hr
            rw [Nat.eq_of_beq_eq_true hr.1, Nat.eq_of_beq_eq_true hr.2]
          | cons _ _ => rw [hre] at hr; cases hr
    refine ⟨(fun h0 => by rw [hrd] at h0; cases h0), fun k hk => ?_⟩
    have hk' := hk
    rw [hrd] at hk
    rcases List.mem_cons.1 hk with rfl | hk
    · exact eff_step hF hSb ht hd hi hk' hl ha hf hS h.1 (r := []) fun res' env' a' w' ha' hf' hS' h' => ihx m _ env' a' w' hx (by simpa using hl) hp1 ha' hf' hS' h'
    · have hk := List.mem_singleton.1 hk
      subst hk
      exact eff_step hF hSb ht hd hj hk' hl ha hf hS h.2 (r := []) fun res' env' a' w' ha' hf' hS' h' => ihy m _ env' a' w' hy (by simpa using hl) hp2 ha' hf' hS' h'
  | late rest =>
    intro n listed env a w hn hl hp ha hf hS h
    have hn : rest.length ≤ n := hn
    obtain ⟨m, rfl⟩ : ∃ m, n = rest.length + m := ⟨n - rest.length, by omega⟩
    simp only [treeOk, Bool.and_eq_true] at hp
    refine anyC_late (t1 := []) (S1 := fun x => x = w) _ listed a w (effsDone_of hp.1) ?_
    refine opsV_anyE hF (S := fun x => x = w) (tail := []) ?_ (fun w => atOk_here w) (fun i o ho he p w' h => h.elim) hsel (by simp [tailOk]) hd hQp (n := m) (E := fun listed => (Region.ready .any ops listed).isEmpty)
      (fun listed' env' a' w' hE _ ha' hf' _ hK => hend m _ listed' env' a' w' hE ha' hf' hK) rest listed [] env a w hl hp.2 ha hf (.inl rfl) h
    intro φ w1 e1 hφ w2 e2
    rw [e2, ← e1]; exact hφ
theorem tree_sound (hm : P.follows .mixedOrders = true) {nt id : Nat} {ops : Array Oper} {t : PT} {tail : List Nat} {K : Env → World → Prop} {env : Env} {a : Act} {w : World} {Q : Exit → Act → World → Prop}
    (hd : ops.toList.all (dstIn nt) = true) (hp : dtOk ops t tail = true) (ha : Agree nt a env) (hQp : ∀ c a w, ¬ Q (.panic c) a w) (hQ : ∀ env a' w, Agree nt a' env → Frm (ops.toList.filterMap (·.dst)) a a' → K env w → Q .normal a' w)
    (h : ∃ S : World → Prop, S w.drew ∧ treeV P S tail ops.toList K t env w.drew) : (Code.region id ops true).wp P Q a w := by
  unfold dtOk at hp
  simp only [Bool.and_eq_true] at hp
  obtain ⟨⟨⟨hl, h1⟩, h2⟩, h3⟩ := hp
  refine wp_region_any hm ?_
  change wpAny P .any ops Q ops.size (Array.replicate ops.size false) a w.drew
  obtain ⟨S, hS, h⟩ := h
  exact anyC_wpAny _ _ _ _ (tree_any (F := Frm (ops.toList.filterMap (·.dst)) a) (fun i o a' v ho h => h.put ho) h1 h3 hd hQp hQ t _ _ env a w.drew (Nat.le_of_ble_eq_true hl) (by simp) h2 ha (Frm.refl _ _) (.inl hS) h)

theorem V_sound (hm : P.follows .mixedOrders = true) {nt : Nat} : ∀ (c : Code) (an : An) (Q : Ex → Env → World → Prop) (env : Env) (a : Act) (w : World),
    dstsOk nt c = true → Agree nt a env → V P c an Q env w → c.wp P (QA nt (writes c) a Q) a w
  | .skip, an, Q, env, a, w, _, ha, h => wp_skip ⟨Frm.refl _ _, env, ha, by simpa [V] using h⟩
  | .ret, an, Q, env, a, w, _, ha, h => wp_ret ⟨Frm.refl _ _, env, ha, by simpa [V] using h⟩
  | .exit i, an, Q, env, a, w, _, ha, h => wp_exit ⟨Frm.refl _ _, env, ha, by simpa [V] using h⟩
  | .seq x y, .sq m n, Q, env, a, w, hd, ha, h => by
    simp only [dstsOk, Bool.and_eq_true] at hd
    simp only [V] at h
    refine wp_seq (wp_mono (V_sound hm x m _ env a w hd.1 ha h) ?_)
    intro e a' w' hq
    have up : ∀ b, Frm (writes x) a b → Frm (writes (x.seq y)) a b := fun b hb => hb.mono fun t ht => by simp [writes, ht]
    cases e with
    | normal =>
      obtain ⟨hf, env', ha', h'⟩ := hq
      exact wp_mono (V_sound hm y n Q env' a' w' hd.2 ha' h') fun e a2 w2 hq2 => hq2.mono fun b hb => hf.trans hb
    | exit i => exact ⟨up _ hq.1, hq.2⟩
    | ret => exact ⟨up _ hq.1, hq.2⟩
    | goto l => exact hq
    | panic c => exact hq
    | outgrown => exact hq
  | .seq x y, .sn L m n, Q, env, a, w, hd, ha, h => by
    simp only [dstsOk, Bool.and_eq_true] at hd
    simp only [V] at h
    refine wp_seq (wp_mono (V_sound hm x m _ env a w hd.1 ha h) ?_)
    intro e a' w' hq
    have up : ∀ b, Frm (writes x) a b → Frm (writes (x.seq y)) a b := fun b hb => hb.mono fun t ht => by simp [writes, ht]
    cases e with
    | normal =>
      obtain ⟨hf, env', ha', h'⟩ := hq
      obtain ⟨e2, ha2, h2⟩ := appC_lamC (Agree.empty ha') ha' h'
      exact wp_mono (V_sound hm y n Q e2 a' w' hd.2 ha2 h2) fun e a2 w2 hq2 => hq2.mono fun b hb => hf.trans hb
    | exit i => exact ⟨up _ hq.1, hq.2⟩
    | ret => exact ⟨up _ hq.1, hq.2⟩
    | goto l => exact hq
    | panic c => exact hq
    | outgrown => exact hq
  | .cond c x y, .cd m n, Q, env, a, w, hd, ha, h => by
    simp only [dstsOk, Bool.and_eq_true] at hd
    simp only [V] at h
    split at h
    · rename_i t hc
      have hev : a.eval c = .bool t := by
        cases c with
        | tmp s => rw [ha.eval (x := .tmp s) (known_of_look (by show look env s ≠ _; rw [show look env s = .bool t from hc]; intro e; cases e))]; exact hc
        | const v => exact hc
        | global g => exact hc
        | func f => exact hc
      exact wp_cond_split hev
        (fun e => wp_mono (V_sound hm x m Q env a w hd.1 ha (by rw [e] at h; exact h)) fun e a2 w2 hq2 => hq2.mono fun b hb => hb.mono fun t ht => by simp [writes, ht])
        (fun e => wp_mono (V_sound hm y n Q env a w hd.2 ha (by rw [e] at h; exact h)) fun e a2 w2 hq2 => hq2.mono fun b hb => hb.mono fun t ht => by simp [writes, ht])
    · exact h.elim
  | .cond c x y, .cj L m n, Q, env, a, w, hd, ha, h => by
    simp only [dstsOk, Bool.and_eq_true] at hd
    simp only [V] at h
    split at h
    · rename_i t hc
      have hev : a.eval c = .bool t := by
        cases c with
        | tmp s => rw [ha.eval (x := .tmp s) (known_of_look (by show look env s ≠ _; rw [show look env s = .bool t from hc]; intro e; cases e))]; exact hc
        | const v => exact hc
        | global g => exact hc
        | func f => exact hc
      obtain ⟨J, hi, h1⟩ := h
      have fin : ∀ (ws : List Nat), (∀ t, t ∈ ws → t ∈ writes x ++ writes y) → ∀ (e : Exit) (a' : Act) (w' : World), QA nt ws a (fun e env' w' => match e with | .nrm => appC L env' J w' | .ext i => Q (.ext i) env' w' | .ret => Q .ret env' w') e a' w' → QA nt (writes x ++ writes y) a Q e a' w' := fun ws hws e a' w' hq0 => by
        have hq := hq0.mono (ws' := writes x ++ writes y) (a1 := a) fun b hb => hb.mono hws
        cases e with
        | normal => obtain ⟨hf, env', ha', h'⟩ := hq; exact ⟨hf, join_app ha hf hi ha' h'⟩
        | exit i => exact hq
        | ret => exact hq
        | goto l => exact hq
        | panic c => exact hq
        | outgrown => exact hq
      exact wp_cond_split hev (fun e => wp_mono (V_sound hm x m _ env a w hd.1 ha (by rw [e] at h1; exact h1)) (fin _ fun t ht => by simp [ht])) (fun e => wp_mono (V_sound hm y n _ env a w hd.2 ha (by rw [e] at h1; exact h1)) (fin _ fun t ht => by simp [ht]))
    · exact h.elim
  | .block i c, .bk L m, Q, env, a, w, hd, ha, h => by
    simp only [dstsOk] at hd
    simp only [V] at h
    obtain ⟨J, hi, h⟩ := h
    refine wp_block (wp_mono (V_sound hm c m _ env a w hd ha h) ?_)
    intro e a' w' hq
    cases e with
    | normal => obtain ⟨hf, env', ha', h'⟩ := hq; exact ⟨hf, join_app ha hf hi ha' h'⟩
    | exit j =>
      obtain ⟨hf, env', ha', h'⟩ := hq
      simp only [Exit.inBlock]
      replace h' : bif Nat.beq j i then appC L env' J w' else Q (.ext j) env' w' := h'
      cases hb : Nat.beq j i with
      | true => rw [hb] at h'; rw [if_pos (Nat.eq_of_beq_eq_true hb)]; exact ⟨hf, join_app ha hf hi ha' h'⟩
      | false => rw [hb] at h'; rw [if_neg (fun e => by subst e; simp at hb)]; exact ⟨hf, env', ha', h'⟩
    | ret => exact hq
    | goto l => exact hq
    | panic c => exact hq
    | outgrown => exact hq
  | .loop c, .lp L m, Q, env, a, w, hd, ha, h => by
    simp only [dstsOk] at hd
    simp only [V] at h
    obtain ⟨J, ⟨n₀, h0⟩, hr⟩ := h
    refine wp_loop_ghost (fun n a' w => Frm (writes c) a a' ∧ ∃ env, Agree nt a' env ∧ appC L env (J n) w) n₀ ⟨Frm.refl _ _, env, ha, h0⟩ ?_
    rintro n a1 w1 ⟨hf1, env1, ha1, h1⟩
    obtain ⟨e2, ha2, h2⟩ := appC_lamC (hf1.keep ha ha1) ha1 (appC_impC (hr n) h1)
    refine wp_mono (V_sound hm c m _ e2 a1 w1 hd ha2 h2) ?_
    intro e a' w' hq0
    have hq := hq0.mono (ws' := writes c) (a1 := a) fun b hb => hf1.join hb
    cases e with
    | normal =>
      obtain ⟨hf, env', ha', h'⟩ := hq
      obtain ⟨k, hk, h'⟩ := appC_ltC h'
      exact ⟨k, hk, hf, env', ha', h'⟩
    | exit j => exact hq
    | ret => exact hq
    | goto l => exact hq
    | panic c => exact hq
    | outgrown => exact hq
  | .region id ops false, .lf hs, Q, env, a, w, hd, ha, h => by
    simp only [dstsOk] at hd
    simp only [V] at h
    refine wp_region ?_
    have := opsV_wpOps (P := P) (Q := QA nt (ops.toList.filterMap (·.dst)) a Q) (F := Frm (ops.toList.filterMap (·.dst)) a) hd (fun i o a' v ho h => h.put ho) (fun env a' w ha hf hK => ⟨hf, env, ha, hK⟩) _ _ env a w ha (Frm.refl _ _) h
    simpa [writes] using this
  | .region id ops false, .rj hs L, Q, env, a, w, hd, ha, h => by
    simp only [dstsOk] at hd
    simp only [V] at h
    obtain ⟨J, hi, h⟩ := h
    refine wp_region ?_
    have := opsV_wpOps (P := P) (Q := QA nt (ops.toList.filterMap (·.dst)) a Q) (F := Frm (ops.toList.filterMap (·.dst)) a) hd (fun i o a' v ho h => h.put ho) (fun env' a' w ha' hf hK => ⟨hf, join_app ha hf hi ha' hK⟩) _ _ env a w ha (Frm.refl _ _) h
    simpa [writes] using this
  | .region id ops true, .dr plan tail gen L, Q, env, a, w, hd, ha, h => by
    simp only [dstsOk] at hd
    simp only [V] at h
    obtain ⟨hp, h⟩ := bif_elim h
    cases L with
    | none => exact draw_sound hm hd hp ha (fun _ _ _ h => h) (fun env a w ha hf hK => ⟨hf, env, ha, hK⟩) h
    | some L =>
      obtain ⟨J, hi, h⟩ := h
      exact draw_sound hm hd hp ha (fun _ _ _ h => h) (fun env' a' w ha' hf hK => ⟨hf, join_app ha hf hi ha' hK⟩) h
  | .region id ops true, .df pre i j r1 r2 tail L, Q, env, a, w, hd, ha, h => by
    simp only [dstsOk] at hd
    simp only [V] at h
    obtain ⟨hp, h⟩ := bif_elim h
    obtain ⟨J, hi, h⟩ := h
    exact fork_sound hm hd hp ha (fun _ _ _ h => h) (fun env' a' w ha' hf hK => ⟨hf, join_app ha hf hi ha' hK⟩) h
  | .region id ops true, .dt t tail L, Q, env, a, w, hd, ha, h => by
    simp only [dstsOk] at hd
    simp only [V] at h
    obtain ⟨hp, h⟩ := bif_elim h
    obtain ⟨J, hi, h⟩ := h
    exact tree_sound hm hd hp ha (fun _ _ _ h => h) (fun env' a' w ha' hf hK => ⟨hf, join_app ha hf hi ha' hK⟩) h

theorem agree_params {nt : Nat} (args : List Value) (h : args.length ≤ nt) :
    Agree nt { tmps := args.toArray ++ Array.replicate (nt - args.toArray.size) undef, defers := [] } (params 0 args) := by
  have key : ∀ (l : List Value) (i t : Nat), known (params i l) t = true → i ≤ t ∧ t < i + l.length ∧ l[t - i]? = some (look (params i l) t) := by
    intro l
    induction l with
    | nil => intro i t h; cases h
    | cons v r ih =>
      intro i t h
      by_cases e : i = t
      · subst e; simp [params, look_cons_same]
      · simp only [params] at h ⊢
        rw [known_cons_other _ _ e] at h
        rw [look_cons_other _ _ e]
        obtain ⟨h1, h2, h3⟩ := ih _ _ h
        refine ⟨by omega, by simp; omega, ?_⟩
        rw [show t - i = (t - (i + 1)) + 1 from by omega]
        simpa using h3
  refine ⟨rfl, by simp; omega, fun t ht => ?_⟩
  obtain ⟨_, h2, h3⟩ := key args 0 t ht
  simp only [Nat.zero_add, Nat.sub_zero] at h2 h3
  rw [Array.getElem?_append_left (by simpa using h2)]
  simpa using h3

def resM (tmps : Array Value) (x : ResultVar) : Sem Value :=
  match x with
  | .tmp t => pure (tmps.getD t undef)
  | .cell c t => do loadVar t (← asAddr (tmps.getD c undef))
theorem results_resM (fn : Func) (tmps : Array Value) : results fn tmps = (do
    let vs ← fn.results.mapM (resM tmps)
    pure (if h : vs.size = 1 then vs[0] else .tuple vs)) := rfl
theorem resV_sound {nt : Nat} {a : Act} {env : Env} (ha : Agree nt a env) : ∀ (l : List ResultVar) (K : List Value → World → Prop) (w : World), resV P env l K w →
    ∃ vs, vs.length = l.length ∧ (l.mapM (resM a.tmps)).run P w = .ok vs w ∧ K vs w
  | [], K, w, h => ⟨[], rfl, rfl, h⟩
  | .tmp t :: r, K, w, h => by
    unfold resV at h
    obtain ⟨hk, h⟩ := bif_elim h
    obtain ⟨vs, hl, hr, h⟩ := resV_sound ha r _ w h
    have := ha.slots t hk
    refine ⟨look env t :: vs, by simp [hl], ?_, h⟩
    have e : (resM a.tmps (.tmp t)).run P w = .ok (look env t) w := by simp [resM, this]
    simp only [List.mapM_cons, Sem.run_bind, e, hr, Result.andThen_ok, Sem.run_pure]
  | .cell c t :: r, K, w, h => by
    unfold resV at h
    split at h
    · rename_i b o hc
      obtain ⟨v, h1, h2⟩ := loadV_sound (atOk_here w) h
      obtain ⟨vs, hl, hr, h⟩ := resV_sound ha r _ w h2
      have hk : known env c = true := known_of_look (by rw [hc]; intro e; cases e)
      have := ha.slots c hk
      refine ⟨v :: vs, by simp [hl], ?_, h⟩
      have e : (resM a.tmps (.cell c t)).run P w = .ok v w := by simp [resM, this, hc, asAddr, h1]
      simp only [List.mapM_cons, Sem.run_bind, e, hr, Result.andThen_ok, Sem.run_pure]
    · exact h.elim

/-- THE CALCULUS' THEOREM: what it asks of a function's body is enough for the call. -/
theorem funV_calls (hm : P.follows .mixedOrders = true) {f : FuncId} {fn : Func} (hf : P.funcs[f]? = some fn) {an : An} {args : List Value} {R : Value → World → Prop} {w : World}
    (h : funV P fn an args R w) : Calls P f args.toArray w fun e w' => ∃ v, e = .returned v ∧ R v w' := by
  unfold funV at h
  split at h
  · rename_i c hb
    obtain ⟨hd, h⟩ := bif_elim h
    simp only [Bool.and_eq_true] at hd
    have hle := Nat.le_of_ble_eq_true hd.2
    refine calls_of_wp hf hb (wp_mono (V_sound hm c an _ _ _ w hd.1 (agree_params args hle) h) ?_)
    have fin : ∀ (a : Act) (w : World) (env : Env), Agree fn.ntmps a env → resV P env fn.results.toList (fun vs w => R (oneOrTup vs) w) w →
        a.defers = [] ∧ ∃ v, (results fn a.tmps).run P w = .ok v w ∧ (∃ u, Ending.returned v = .returned u ∧ R u w) := fun a w env ha hr => by
      obtain ⟨vs, hl, h1, h2⟩ := resV_sound ha _ _ _ hr
      refine ⟨ha.defers, oneOrTup vs, ?_, _, rfl, h2⟩
      rw [results_resM, Sem.run_bind, Array.mapM_eq_mapM_toList]
      simp only [Sem.run_map, h1, Result.andThen_ok]
      match vs with
      | [] => rfl
      | [v] => rfl
      | _ :: _ :: _ => rfl
    intro e a' w' hq
    cases e with
    | normal => obtain ⟨_, env, ha, hr⟩ := hq; exact fin a' w' env ha hr
    | ret => obtain ⟨_, env, ha, hr⟩ := hq; exact fin a' w' env ha hr
    | exit i => obtain ⟨_, _, _, hr⟩ := hq; exact hr.elim
    | goto l => exact hq.elim
    | panic c => exact hq.elim
    | outgrown => exact hq.elim
  · exact h.elim
end Go.VC
