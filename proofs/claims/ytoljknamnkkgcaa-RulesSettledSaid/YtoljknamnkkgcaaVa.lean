/-
  A verification-condition calculus over the model's code: the definitions. 'V P c an Q env w' is a sufficient condition for 'Code.wp P c ..' (proved in YtoljknamnkkgcaaVb). It holds of every program; nothing is assumed.
-/
import Derived.WalkKit
import Derived.OrdersHeld
namespace Go.VC
open Go

/-- A slice value's three parts. -/
structure Sl where
  a : Option Addr
  n : Nat
  c : Nat
/-- A plain place: block and offset. -/
structure Pt where
  b : Nat
  o : Nat

abbrev Env := List (Nat × Value)
def look : Env → Nat → Value
  | [], _ => undef
  | (t, v) :: r, s => bif Nat.beq t s then v else look r s
def known : Env → Nat → Bool
  | [], _ => false
  | (t, _) :: r, s => bif Nat.beq t s then true else known r s
def putE (env : Env) (d : Option Nat) (v : Value) : Env :=
  match d with
  | some t => (t, v) :: env
  | none => env
def ev (env : Env) : Operand → Value
  | .tmp t => look env t
  | .const v => v
  | .global g => .pointer (some ⟨g, 0, none⟩)
  | .func f => .func (.func f) #[] #[]
def knownO (env : Env) : Operand → Bool
  | .tmp t => known env t
  | _ => true
def allKnown (env : Env) : List Operand → Bool
  | [] => true
  | x :: r => bif knownO env x then allKnown env r else false

/-! ### shapes -/
inductive SK where
  | int (k : IntKind) | bool | slice | ptr | map | func | any
def ikEq : IntKind → IntKind → Bool
  | .i8, .i8 | .i16, .i16 | .i32, .i32 | .i64, .i64 | .u8, .u8 | .u16, .u16 | .u32, .u32 | .u64, .u64 => true
  | _, _ => false
abbrev SK.T : SK → Type
  | .int _ => Int
  | .bool => Bool
  | .slice => Sl
  | .ptr => Pt
  | .map => Option Nat
  | .func => Value
  | .any => Value
def SK.enc : (s : SK) → s.T → Value
  | .int k, n => .int k n
  | .bool, b => .bool b
  | .slice, s => .slice s.a s.n s.c
  | .ptr, p => .pointer (some ⟨p.b, p.o, none⟩)
  | .map, m => .map m
  | .func, v => v
  | .any, v => v
/-- What a value of a shape is, handed on. -/
def SK.dec (s : SK) (v : Value) (K : s.T → Prop) : Prop :=
  match s, v, K with
  | .int k, .int k' n, K => bif ikEq k k' then K n else False
  | .bool, .bool b, K => K b
  | .slice, .slice a n c, K => K ⟨a, n, c⟩
  | .ptr, .pointer (some ⟨b, o, none⟩), K => K ⟨b, o⟩
  | .map, .map m, K => K m
  | .func, v, K => K v
  | .any, v, K => K v
  | _, _, _ => False
abbrev Live := List (Nat × SK)
@[reducible] def Cont : Live → Type
  | [] => World → Prop
  | (_, s) :: r => s.T → Cont r
def appC : (L : Live) → Env → Cont L → World → Prop
  | [], _, K, w => K w
  | (t, s) :: r, env, K, w => bif known env t then s.dec (look env t) (fun x => appC r env (K x) w) else False
def lamC : (L : Live) → (Env → World → Prop) → Env → Cont L
  | [], f, acc => fun w => f acc w
  | (t, s) :: r, f, acc => fun x => lamC r f ((t, s.enc x) :: acc)
@[reducible] def impC : (L : Live) → Cont L → Cont L → Prop
  | [], J, K => ∀ w, J w → K w
  | (_, _) :: r, J, K => ∀ x, impC r (J x) (K x)
@[reducible] def ltC : (L : Live) → Nat → (Nat → Cont L) → Cont L
  | [], n, J => fun w => ∃ m, m < n ∧ J m w
  | (_, _) :: r, n, J => fun x => ltC r n (fun m => J m x)
/-- A place where ways meet: some assertion holds there and leads on. -/
def Join (L : Live) (K : Cont L) (body : Cont L → Prop) : Prop := ∃ J, impC L J K ∧ body J
/-- A loop: an invariant with a number that every round lowers. -/
def LoopV (L : Live) (start : Cont L → Prop) (body : Cont L → Cont L) : Prop :=
  ∃ J : Nat → Cont L, (∃ n, start (J n)) ∧ ∀ n, impC L (J n) (body (ltC L n J))

theorem impC_refl : ∀ (L : Live) (K : Cont L), impC L K K
  | [], _ => fun _ h => h
  | _ :: r, K => fun x => impC_refl r (K x)
/-- The ways' continuation itself is taken for the assertion. -/
theorem Join.dir {L : Live} {K : Cont L} {body : Cont L → Prop} (h : body K) : Join L K body := ⟨K, impC_refl L K, h⟩
theorem LoopV.intro {L : Live} {start : Cont L → Prop} {body : Cont L → Cont L} (J : Nat → Cont L) (n : Nat) (h0 : start (J n)) (hs : ∀ n, impC L (J n) (body (ltC L n J))) : LoopV L start body := ⟨J, ⟨n, h0⟩, hs⟩

/-! ### types -/
def skOf (P : Program) (t : TypeId) : SK :=
  match P.underlying t with
  | some (.int k) => .int k
  | some .bool => .bool
  | some (.slice _) => .slice
  | some (.pointer _) => .ptr
  | some (.map _ _) => .map
  | some (.func _ _ _) => .func
  | _ => .any
def cellsSK (P : Program) : Nat → TypeId → List SK
  | 0, _ => []
  | d + 1, t =>
    match P.underlying t with
    | some (.struct fs) => (fs.toList.map fun f => cellsSK P d f.type).flatten
    | some (.array n e) => (List.replicate n (cellsSK P d e)).flatten
    | _ => [skOf P t]
inductive TS where
  | bad | one (s : SK) | flat (ss : List SK) | opq (n : Nat)
def flatOr (P : Program) (m : Nat) (t : TypeId) : TS :=
  bif Nat.ble (P.cellsOf t) m then (bif Nat.beq (cellsSK P 6 t).length (P.cellsOf t) then .flat (cellsSK P 6 t) else .bad) else .opq (P.cellsOf t)
def tsOf (P : Program) (t : TypeId) : TS :=
  match P.underlying t with
  | some (.struct _) => flatOr P 8 t
  | some (.array _ _) => flatOr P 4 t
  | none => .bad
  | _ => .one (skOf P t)
def exSK : SK → (Value → Prop) → Prop
  | .int k, K => ∃ n : Int, K (.int k n)
  | .bool, K => ∃ b : Bool, K (.bool b)
  | .slice, K => ∃ s : Sl, K (.slice s.a s.n s.c)
  | .ptr, K => ∃ p : Pt, K (.pointer (some ⟨p.b, p.o, none⟩))
  | .map, K => ∃ m : Option Nat, K (.map m)
  | .func, K => ∃ (f : Nat) (cap : List Value), K (.func (.func f) #[] cap.toArray)
  | .any, K => ∃ v : Value, K v
def exSKs : List SK → (List Value → Prop) → Prop
  | [], K => K []
  | s :: r, K => exSK s fun v => exSKs r fun vs => K (v :: vs)
def exTS : TS → (Value → Prop) → Prop
  | .bad, _ => False
  | .one s, K => exSK s K
  | .flat ss, K => exSKs ss fun vs => K (.agg vs.toArray)
  | .opq n, K => ∃ cs : List Value, cs.length = n ∧ K (.agg cs.toArray)
def exTSs : List TS → (List Value → Prop) → Prop
  | [], K => K []
  | t :: r, K => exTS t fun v => exTSs r fun vs => K (v :: vs)
/-- A result of a type: one value, or a tuple of them. -/
def exRes (P : Program) (t : TypeId) (K : Value → Prop) : Prop :=
  match P.underlying t with
  | some (.tuple ts) => exTSs (ts.toList.map (tsOf P)) fun vs => K (.tuple vs.toArray)
  | _ => exTS (tsOf P t) K

/-! ### memory -/
def cellsV : Value → List Value
  | .agg cs => cs.toList
  | v => [v]
/-- The cells from an offset on hold these values. -/
def rd (w : World) (b : Nat) : Nat → List Value → Prop
  | _, [] => True
  | o, v :: r => w.cell? ⟨b, o, none⟩ = some v ∧ rd w b (o + 1) r
/-- The cells from an offset on may be written. -/
def mayWr (w : World) (b : Nat) : Nat → Nat → Prop
  | _, 0 => True
  | o, n + 1 => (∃ u, w.cell? ⟨b, o, none⟩ = some u) ∧ w.frozen? ⟨b, o, none⟩ = false ∧ mayWr w b (o + 1) n
def put (w : World) (b : Nat) : Nat → List Value → World
  | _, [] => w
  | o, v :: r => put (w.setCell ⟨b, o, none⟩ v) b (o + 1) r
def StoreOk (w : World) (b o : Nat) (vs : List Value) (n : Nat) : Prop :=
  vs.length = n ∧ (∀ v ∈ vs, v.oneCell' = true) ∧ mayWr w b o n
def zc (P : Program) (t : TypeId) : Array Value := (((P.info? t).bind (·.zero)).map (·.cells)).getD #[]
def hasZero (P : Program) (t : TypeId) : Bool := ((P.info? t).bind (·.zero)).isSome
/-- Where 's[l:]' begins. -/
def subA (a : Option Addr) (m l s : Nat) : Option Addr := if m = l then a else a.map (·.add (l * s))

/-! ### operations that look at no memory -/
def bitsI (op : BinOp) (k : IntKind) (x y : Int) : Int :=
  match op with
  | .and => k.wrap (BitVec.ofInt k.bits x &&& BitVec.ofInt k.bits y).toNat
  | .or => k.wrap (BitVec.ofInt k.bits x ||| BitVec.ofInt k.bits y).toNat
  | .xor => k.wrap (BitVec.ofInt k.bits x ^^^ BitVec.ofInt k.bits y).toNat
  | _ => k.wrap (BitVec.ofInt k.bits x &&& ~~~BitVec.ofInt k.bits y).toNat
def intV (op : BinOp) (k : IntKind) (a b : Int) (K : Value → Prop) : Prop :=
  match op with
  | .add => K (.int k (k.wrap (a + b)))
  | .sub => K (.int k (k.wrap (a - b)))
  | .mul => K (.int k (k.wrap (a * b)))
  | .quo => b ≠ 0 ∧ K (.int k (k.wrap (a.tdiv b)))
  | .rem => b ≠ 0 ∧ K (.int k (a.tmod b))
  | .and => K (.int k (bitsI .and k a b))
  | .or => K (.int k (bitsI .or k a b))
  | .xor => K (.int k (bitsI .xor k a b))
  | .andNot => K (.int k (bitsI .andNot k a b))
  | .eql => K (.bool (a == b))
  | .neq => K (.bool (a != b))
  | .lss => K (.bool (decide (a < b)))
  | .leq => K (.bool (decide (a ≤ b)))
  | .gtr => K (.bool (decide (a > b)))
  | .geq => K (.bool (decide (a ≥ b)))
  | _ => False
/-- '==' or '!=' of two structs or arrays, as the model runs it. -/
def aggEq (op : BinOp) (t : TypeId) (x y : Value) : Sem Value := do
  eqGuard op t (.tmp 0) (.tmp 0) x y
  binOp op t x y
def binV (P : Program) (op : BinOp) (t : TypeId) (x y : Value) (K : Value → Prop) : Prop :=
  match x, y with
  | .int k a, .int k' b =>
    match op with
    | .shl => 0 ≤ b ∧ K (.int k (k.wrap (a * 2 ^ (min b.toNat k.bits))))
    | .shr => 0 ≤ b ∧ K (.int k (a.fdiv (2 ^ (min b.toNat k.bits))))
    | _ => bif ikEq k k' then intV op k a b K else False
  | .bool a, .bool b =>
    match op, P.underlying t with
    | .eql, some .bool => K (.bool (a == b))
    | .neq, some .bool => K (.bool (!(a == b)))
    | _, _ => False
  | .agg xs, .agg ys =>
    match op with
    | .eql => ∃ r : Bool, (∀ w, (aggEq .eql t (.agg xs) (.agg ys)).run P w = .ok (.bool r) w) ∧ K (.bool r)
    | .neq => ∃ r : Bool, (∀ w, (aggEq .neq t (.agg xs) (.agg ys)).run P w = .ok (.bool r) w) ∧ K (.bool r)
    | _ => False
  | .map m, .map none =>
    match op, P.underlying t with
    | .eql, some (.map _ _) => K (.bool m.isNone)
    | .neq, some (.map _ _) => K (.bool (!m.isNone))
    | _, _ => False
  | .slice a _ _, .slice none _ _ =>
    match op, P.underlying t with
    | .eql, some (.slice _) => K (.bool a.isNone)
    | .neq, some (.slice _) => K (.bool (!a.isNone))
    | _, _ => False
  | _, _ => False
def unV (op : UnOp) (x : Value) (K : Value → Prop) : Prop :=
  match op, x with
  | .not, .bool b => K (.bool (!b))
  | .neg, .int k n => K (.int k (k.wrap (0 - n)))
  | _, _ => False
def convV (P : Program) (s d : TypeId) (x : Value) (K : Value → Prop) : Prop :=
  match P.underlying s, P.underlying d, x with
  | some _, some (.int k), .int _ n => K (.int k (k.wrap n))
  | _, _, _ => False
/-- A field's place in a struct: its offset, its size, is it an aggregate. -/
def fieldOf (P : Program) (s : TypeId) (f : Nat) : Option Field :=
  match P.underlying s with
  | some (.struct fs) => fs.toList[f]?
  | _ => none
def isAggT (P : Program) (t : TypeId) : Option Bool :=
  match P.underlying t with
  | some (.struct _) | some (.array _ _) => some true
  | some _ => some false
  | none => none
def fieldAddrV (P : Program) (s : TypeId) (x : Value) (f : Nat) (K : Value → Prop) : Prop :=
  match fieldOf P s f, x with
  | some fd, .pointer (some ⟨b, o, none⟩) => bif Nat.beq (P.cellsOf fd.type) 0 then False else K (.pointer (some ⟨b, o + fd.offset, none⟩))
  | _, _ => False
def indexAddrV (P : Program) (t : TypeId) (x i : Value) (K : Value → Prop) : Prop :=
  match P.underlying t, x, i with
  | some (.slice e), .slice a n _, .int _ i => bif Nat.beq (P.cellsOf e) 0 then False else ∃ p : Pt, a = some ⟨p.b, p.o, none⟩ ∧ 0 ≤ i ∧ i < (n : Int) ∧ K (.pointer (some ⟨p.b, p.o + i.toNat * P.cellsOf e, none⟩))
  | some (.array n e), .pointer (some ⟨b, o, none⟩), .int _ i => bif Nat.beq (P.cellsOf e) 0 then False else 0 ≤ i ∧ i < (n : Int) ∧ K (.pointer (some ⟨b, o + i.toNat * P.cellsOf e, none⟩))
  | _, _, _ => False
def indexV (P : Program) (t : TypeId) (x i : Value) (K : Value → Prop) : Prop :=
  match P.underlying t, x, i with
  | some (.array n e), .agg cs, .int _ i =>
    match isAggT P e with
    | some false => bif Nat.beq (P.cellsOf e) 1 then 0 ≤ i ∧ i < (n : Int) ∧ exSK (skOf P e) (fun v => cs.toList[i.toNat]? = some v ∧ K v) else False
    | _ => False
  | _, _, _ => False
def fieldV (P : Program) (t : TypeId) (x : Value) (f : Nat) (K : Value → Prop) : Prop :=
  match fieldOf P t f, x with
  | some fd, .agg cs =>
    match isAggT P fd.type with
    | some true => K (.agg ((cs.toList.drop fd.offset).take (P.cellsOf fd.type)).toArray)
    | some false => (match cs.toList[fd.offset]? with | some v => K v | none => False)
    | none => False
  | _, _ => False
/-- A run of cells laid into a list from a place on. -/
def setR : List Value → Nat → List Value → List Value
  | cs, _, [] => cs
  | cs, o, v :: r => setR (cs.set o v) (o + 1) r
def placesOf (P : Program) (t : TypeId) : Option (Nat → Option (Nat × Nat)) :=
  match P.underlying t with
  | some (.struct fs) => (fs.toList.mapM (fun f => (P.info? f.type).map fun i => (f.offset, i.size))).map fun places i => places[i]?
  | some (.array _ e) => (P.info? e).map fun ie i => some (i * ie.size, ie.size)
  | _ => none
def fillV (place : Nat → Option (Nat × Nat)) : List (Nat × Value) → List Value → (Value → Prop) → Prop
  | [], cs, K => K (.agg cs.toArray)
  | (i, v) :: r, cs, K =>
    match place i with
    | none => False
    | some (o, s) =>
      match v with
      | .agg xs => xs.toList.length = s ∧ o + s ≤ cs.length ∧ fillV place r (setR cs o xs.toList) K
      | .tuple _ => False
      | v => bif (Nat.beq s 1 && Nat.ble (o + 1) cs.length) then fillV place r (cs.set o v) K else False
def buildV (P : Program) (t : TypeId) (ps : List (Nat × Value)) (K : Value → Prop) : Prop :=
  match (P.info? t).bind (·.zero), placesOf P t with
  | some z, some place => fillV place ps z.cells.toList K
  | _, _ => False
def bndV (x : Option Value) (y : Nat) (d : Nat) (K : Nat → Prop) : Prop :=
  match x with
  | none => K d
  | some (.int _ i) => 0 ≤ i ∧ i ≤ (y : Int) ∧ K i.toNat
  | _ => False
def sliceV (P : Program) (t : TypeId) (x : Value) (lo hi mx : Option Value) (K : Value → Prop) : Prop :=
  match P.underlying t, x with
  | some (.slice e), .slice a n c =>
    bif Nat.beq (P.cellsOf e) 0 then False else
    bndV mx c c fun m => bndV hi m n fun h =>
      match hi, mx with
      | none, some _ => False
      | _, _ =>
      match lo with
      | none => K (.slice a h m)
      | some l => bndV (some l) h 0 fun l => K (.slice (subA a m l (P.cellsOf e)) (h - l) (m - l))
  | some (.array n e), .pointer (some ⟨b, o, none⟩) =>
    bif Nat.beq (P.cellsOf e) 0 then False else
    (match lo, hi, mx with
     | none, none, none => K (.slice (some ⟨b, o, none⟩) n n)
     | _, _, _ => False)
  | _, _ => False
def lenV (P : Program) (t : TypeId) (x : Value) (K : Value → Prop) : Prop :=
  match P.underlying t, x with
  | some (.slice _), .slice _ n _ => K (.int .i64 n)
  | some (.array n _), _ => K (.int .i64 n)
  | some (.map _ _), .map none => K (.int .i64 0)
  | _, _ => False
def pureV (P : Program) (ρ : Operand → Value) (op : Op) (K : Value → Prop) : Prop :=
  match op with
  | .move x => K (ρ x)
  | .assign x => K (ρ x)
  | .pick c a b => (match ρ c with | .bool true => K (ρ a) | .bool false => K (ρ b) | _ => False)
  | .binOp op t x y _ => binV P op t (ρ x) (ρ y) K
  | .unOp op _ x => unV op (ρ x) K
  | .convert s d x => convV P s d (ρ x) K
  | .nilCheck x => (match ρ x with | .pointer (some a) => K (.pointer (some a)) | _ => False)
  | .fieldAddr s x f => fieldAddrV P s (ρ x) f K
  | .indexAddr t x i => indexAddrV P t (ρ x) (ρ i) K
  | .index t x i => indexV P t (ρ x) (ρ i) K
  | .field t x f => fieldV P t (ρ x) f K
  | .build t ps => buildV P t (ps.toList.map fun p => (p.1, ρ p.2)) K
  | .makeFunc (.func f) first cap => (match first.toList with | [] => K (.func (.func f) #[] (cap.toList.map ρ).toArray) | _ => False)
  | .slice t x lo hi mx => sliceV P t (ρ x) (lo.map ρ) (hi.map ρ) (mx.map ρ) K
  | .extract x i => (match ρ x with | .tuple vs => (match vs.toList[i]? with | some v => K v | none => False) | _ => False)
  | .call { callee := .builtin b, args := xs, argTypes := ts } =>
    (match b, xs.toList, ts.toList with
     | .len, [x], [t] => lenV P t (ρ x) K
     | .max, [x, y], _ => (match ρ x, ρ y with | .int k a, .int _ b => K (.int k (if b > a then b else a)) | _, _ => False)
     | .min, [x, y], _ => (match ρ x, ρ y with | .int k a, .int _ b => K (.int k (if b < a then b else a)) | _, _ => False)
     | _, _, _ => False)
  | _ => False

/-! ### operations that read memory: 'At φ': φ holds of the world, or of all worlds that come up -/
def loadV (P : Program) (At : (World → Prop) → Prop) (t : TypeId) (b o : Nat) (K : Value → Prop) : Prop :=
  match tsOf P t with
  | .bad => False
  | .one s => exSK s fun v => At (fun w => w.cell? ⟨b, o, none⟩ = some v) ∧ K v
  | .flat ss => exSKs ss fun vs => At (fun w => rd w b o vs) ∧ K (.agg vs.toArray)
  | .opq n => ∃ cs : List Value, cs.length = n ∧ At (fun w => rd w b o cs) ∧ K (.agg cs.toArray)
def lookupV (P : Program) (At : (World → Prop) → Prop) (t : TypeId) (m : Option Nat) (key : Value) (ok : Bool) (K : Value → Prop) : Prop :=
  match P.underlying t with
  | some (.map _ e) =>
    match ok with
    | false => exTS (tsOf P e) fun v => At (fun w => (Instr.lookup t (.map m) key false).run P w = .ok v w) ∧ K v
    | true => exTS (tsOf P e) fun v => ∃ b : Bool, At (fun w => (Instr.lookup t (.map m) key true).run P w = .ok (.tuple #[v, .bool b]) w) ∧ K (.tuple #[v, .bool b])
  | _ => False
def readV (P : Program) (At : (World → Prop) → Prop) (ρ : Operand → Value) (ent : Option (TypeId × TypeId)) (op : Op) (T : TypeId) (K : Value → Prop) : Prop :=
  match op with
  | .load t a => (match ρ a with | .pointer (some ⟨b, o, none⟩) => loadV P At t b o K | _ => False)
  | .lookup t m i ok => (match ρ m with | .map m => lookupV P At t m (ρ i) ok K | _ => False)
  | .entry it =>
    (match ent with
     | some (kt, vt) => exTS (tsOf P kt) fun k => exTS (tsOf P vt) fun v => At (fun w => (Instr.entry (ρ it)).run P w = .ok (.tuple #[k, v]) w) ∧ K (.tuple #[k, v])
     | none => False)
  | .call { callee := .builtin .len, args := xs, argTypes := ts } =>
    (match xs.toList, ts.toList with
     | [x], [t] =>
       (match ρ x with
        | .map (some m) => ∃ n : Int, At (fun w => (Builtin.len_ #[t] T #[.map (some m)]).run P w = .ok (.int .i64 n) w) ∧ K (.int .i64 n)
        | _ => pureV P ρ op K)
     | _, _ => False)
  | _ => pureV P ρ op K

/-! ### operations that change the world -/
def isEff : Op → Bool
  | .store .. | .alloc _ | .box .. | .buildSlice .. | .makeMap .. | .makeSlice .. | .mapUpdate .. | .range .. | .next .. => true
  | .call { callee := .value _, .. } => true
  | .call { callee := .builtin .append, .. } | .call { callee := .builtin .copy, .. } | .call { callee := .builtin .delete, .. } | .call { callee := .builtin .clear, .. } => true
  | _ => false
def callable (P : Program) (f : FuncId) : Bool :=
  match P.funcs[f]? with
  | some fn => !(fn.name == "runtime.NumGoroutine") && fn.body.isSome
  | none => false
def callV (P : Program) (f : FuncId) (args : List Value) (T : TypeId) (K : Value → World → Prop) (w : World) : Prop :=
  bif callable P f then Calls P f args.toArray w (fun e w' => exRes P T fun v => e = .returned v ∧ K v w') else False
def runS (P : Program) (m : Sem Value) (K : Value → World → Prop) (w : World) : Prop :=
  ∃ (s : Sl) (w' : World), m.run P w = .ok (.slice s.a s.n s.c) w' ∧ K (.slice s.a s.n s.c) w'
def effV (P : Program) (ρ : Operand → Value) (op : Op) (T : TypeId) (K : Value → World → Prop) (w : World) : Prop :=
  match op with
  | .store t a x =>
    (match ρ a with
     | .pointer (some ⟨b, o, none⟩) => bif Nat.beq (P.cellsOf t) 0 then False else StoreOk w b o (cellsV (ρ x)) (P.cellsOf t) ∧ K undef (put w b o (cellsV (ρ x)))
     | _ => False)
  | .alloc t => bif hasZero P t then K (.pointer (some ⟨w.heap.size, 0, none⟩)) (w.alloc (.cells (zc P t) t)) else False
  | .box t x => K (.pointer (some ⟨w.heap.size, 0, none⟩)) (w.alloc (.cells (cellsV (ρ x)).toArray t))
  | .buildSlice t n ps => runS P (Instr.buildSlice t n (ps.toList.map fun p => (p.1, ρ p.2)).toArray) K w
  | .makeMap _ none => K (.map (some w.heap.size)) (w.alloc (.map #[] 0))
  | .makeSlice t l c => runS P (Instr.makeSlice t (ρ l) (ρ c)) K w
  | .mapUpdate t m k x => ∃ w', (Instr.mapUpdate t (ρ m) (ρ k) (ρ x)).run P w = .ok () w' ∧ K undef w'
  | .range t x => ∃ (p : Pt) (w' : World), (Instr.range t (ρ x)).run P w = .ok (.pointer (some ⟨p.b, p.o, none⟩)) w' ∧ K (.pointer (some ⟨p.b, p.o, none⟩)) w'
  | .next it false => ∃ (b : Bool) (kv : List Value) (w' : World), (Instr.next (ρ it) false T).run P w = .ok (.tuple (Value.bool b :: kv).toArray) w' ∧ K (.tuple (Value.bool b :: kv).toArray) w'
  | .call { callee := .value f, args := xs, .. } =>
    (match ρ f with
     | .func (.func i) first cap => callV P i (first.toList ++ xs.toList.map ρ ++ cap.toList) T K w
     | _ => False)
  | .call { callee := .builtin b, args := xs, argTypes := ts } =>
    (match b, xs.toList with
     | .append, [x, y] => runS P (Builtin.append_ ts T #[ρ x, ρ y]) K w
     | .copy, [x, y] => ∃ (n : Int) (w' : World), (Builtin.copy_ ts T #[ρ x, ρ y]).run P w = .ok (.int .i64 n) w' ∧ K (.int .i64 n) w'
     | .delete, [x, y] => ∃ (w' : World), (Builtin.delete_ ts T #[ρ x, ρ y]).run P w = .ok (.tuple #[]) w' ∧ K (.tuple #[]) w'
     | .clear, [x] => ∃ (w' : World), (Builtin.clear_ ts T #[ρ x]).run P w = .ok (.tuple #[]) w' ∧ K (.tuple #[]) w'
     | _, _ => False)
  | _ => False

/-- The operands of those operations that this calculus serves. -/
def opnds : Op → List Operand
  | .move x | .assign x | .unOp _ _ x | .convert _ _ x | .nilCheck x | .fieldAddr _ x _ | .field _ x _ | .extract x _ | .load _ x | .entry x | .box _ x | .range _ x | .next x _ => [x]
  | .binOp _ _ x y _ | .indexAddr _ x y | .index _ x y | .lookup _ x y _ | .store _ x y | .makeSlice _ x y => [x, y]
  | .pick x y z | .mapUpdate _ x y z => [x, y, z]
  | .build _ ps | .buildSlice _ _ ps => ps.toList.map (·.2)
  | .makeFunc _ _ cap => cap.toList
  | .slice _ x lo hi mx => x :: (lo.toList ++ hi.toList ++ mx.toList)
  | .call { callee := .value f, args := xs, .. } => f :: xs.toList
  | .call { callee := .builtin _, args := xs, .. } => xs.toList
  | _ => []

/-! ### regions -/
def findR : List (Nat × Bool) → Nat → Option Bool
  | [], _ => none
  | (i, b) :: r, j => bif Nat.beq i j then some b else findR r j
def findH : List (Nat × TypeId × TypeId) → Nat → Option (TypeId × TypeId)
  | [], _ => none
  | (i, p) :: r, j => bif Nat.beq i j then some p else findH r j
/-- One operation, its guard met. -/
def opV (P : Program) (At : (World → Prop) → World → Prop) (Sb : Prop → World → Prop) (hs : List (Nat × TypeId × TypeId)) (i : Nat) (o : Oper) (env : Env) (K : Env → World → Prop) (w : World) : Prop :=
  bif allKnown env (opnds o.op) then
    (match isEff o.op with
     | true => effV P (ev env) o.op o.type (fun v w' => Sb (K (putE env o.dst v) w') w') w
     | false => readV P (fun φ => At φ w) (ev env) (findH hs i) o.op o.type (fun v => K (putE env o.dst v) w))
  else False
def dstOf (ops : List Oper) (j : Nat) : Option Nat := (ops[j]?).bind (·.dst)
/-- The operations of a region, in the order of a plan. 'res': what is known of the guards. -/
def opsV (P : Program) (At : (World → Prop) → World → Prop) (Sb : Nat → Prop → World → Prop) (hs : List (Nat × TypeId × TypeId)) (ops : List Oper) (K : Env → World → Prop) :
    List Nat → List (Nat × Bool) → Env → World → Prop
  | [], _, env, w => K env w
  | i :: r, res, env, w =>
    match ops[i]? with
    | none => False
    | some o =>
      match o.guard with
      | none => opV P At (Sb i) hs i o env (fun env' w' => opsV P At Sb hs ops K r res env' w') w
      | some (j, want) =>
        match findR res j with
        | some _ =>
          (match dstOf ops j with
           | none => False
           | some d =>
             match look env d, want with
             | .bool true, true => opV P At (Sb i) hs i o env (fun env' w' => opsV P At Sb hs ops K r res env' w') w
             | .bool false, false => opV P At (Sb i) hs i o env (fun env' w' => opsV P At Sb hs ops K r res env' w') w
             | .bool true, false => opsV P At Sb hs ops K r res (putE env o.dst undef) w
             | .bool false, true => opsV P At Sb hs ops K r res (putE env o.dst undef) w
             | _, _ => False)
        | none =>
          match dstOf ops j with
          | none => False
          | some d =>
            match look env d, want with
            | .bool g, true =>
              cond g (opV P At (Sb i) hs i o ((d, .bool true) :: env) (fun env' w' => opsV P At Sb hs ops K r ((j, true) :: res) env' w') w)
                (opsV P At Sb hs ops K r ((j, false) :: res) (putE ((d, .bool false) :: env) o.dst undef) w)
            | .bool g, false =>
              cond g (opsV P At Sb hs ops K r ((j, true) :: res) (putE ((d, .bool true) :: env) o.dst undef) w)
                (opV P At (Sb i) hs i o ((d, .bool false) :: env) (fun env' w' => opsV P At Sb hs ops K r ((j, false) :: res) env' w') w)
            | .tuple _, _ => bif known env d then opsV P At Sb hs ops K r res (putE env o.dst undef) w else False
            | _, _ => False

/-! ### a region that draws its order -/
def isRead : Op → Bool
  | .load .. | .lookup .. | .entry _ => true
  | .call { callee := .builtin .len, .. } => true
  | _ => false
/-- The plan takes each operation when it is ready; what is taken ahead of others is free of them; an operation that changes the world is taken only when no other is ready; what stands in the tail waits for every operation that reads. -/
def planGoE (ops : Array Oper) (E : Array Bool → Bool) : List Nat → Array Bool → Bool
  | [], listed => E listed
  | i :: r, listed =>
    (match ops[i]? with
     | none => false
     | some o => bif isEff o.op then (match Region.ready .any ops listed with | [j] => Nat.beq i j | _ => false)
        else ((Region.ready .any ops listed).contains i && Region.free .any ops listed i)) &&
    planGoE ops E r (listed.setIfInBounds i true)
def planGo (ops : Array Oper) : List Nat → Array Bool → Bool := planGoE ops fun listed => (Region.ready .any ops listed).isEmpty
def isEffAt (ops : Array Oper) (i : Nat) : Bool := match ops[i]? with | some o => isEff o.op | none => false
/-- A place where two operations that change the world may come in either order. -/
def forkAt (ops : Array Oper) (i j : Nat) (r1 r2 : List Nat) (listed : Array Bool) : Bool :=
  (match Region.ready .any ops listed with | [a, b] => Nat.beq a i && Nat.beq b j | _ => false) && isEffAt ops i && isEffAt ops j &&
    planGo ops r1 (listed.setIfInBounds i true) && planGo ops r2 (listed.setIfInBounds j true)
def tailOk (ops : List Oper) (tail : List Nat) : Bool :=
  tail.all fun j => (ops.zipIdx).all fun (o, r) => !(isRead o.op) || (match ops[j]? with | some oj => oj.after.toList.any fun e => Region.binds .any e && Nat.beq e.on r | none => false)
def planOk (ops : Array Oper) (plan tail : List Nat) : Bool :=
  Nat.beq plan.length ops.size && Region.noSelect ops && planGo ops plan (Array.replicate ops.size false) && tailOk ops.toList tail

def forkOk (ops : Array Oper) (pre : List Nat) (i j : Nat) (r1 r2 tail : List Nat) : Bool :=
  Nat.beq (pre.length + (r1.length + 1)) ops.size && Nat.beq r1.length r2.length && Region.noSelect ops && planGoE ops (forkAt ops i j r1 r2) pre (Array.replicate ops.size false) && tailOk ops.toList tail
def effIdx (ops : List Oper) : List Nat := (ops.zipIdx.filter fun p => isEff p.1.op).map (·.2)

inductive An where
  | lf (hs : List (Nat × TypeId × TypeId) := [])
  | rj (hs : List (Nat × TypeId × TypeId)) (L : Live)
  | dr (plan tail : List Nat) (gen : Bool) (L : Option Live)
  | df (pre : List Nat) (i j : Nat) (r1 r2 tail : List Nat) (L : Live)
  | sq (a b : An)
  | sn (L : Live) (a b : An)
  | cd (a b : An)
  | cj (L : Live) (a b : An)
  | bk (L : Live) (a : An)
  | lp (L : Live) (a : An)
inductive Ex where
  | nrm | ext (i : Nat) | ret
/-- A region that draws: some condition S on the world holds throughout, until the tail. -/
def Draw (gen : Bool) (body : ((World → Prop) → World → Prop) → (Prop → World → Prop) → World → Prop) (w : World) : Prop :=
  match gen with
  | false => body (fun φ w => φ w) (fun p _ => p) w.drew
  | true => ∃ S : World → Prop, S w.drew ∧ body (fun φ _ => ∀ w, S w → φ w) (fun p w' => S w' ∧ p) w.drew

/-- The slots that a piece of code writes. -/
def writes : Code → List Nat
  | .region _ ops _ => ops.toList.filterMap (·.dst)
  | .seq a b => writes a ++ writes b
  | .cond _ a b => writes a ++ writes b
  | .block _ a => writes a
  | .loop a => writes a
  | _ => []
def memN : Nat → List Nat → Bool
  | _, [] => false
  | n, m :: r => bif Nat.beq n m then true else memN n r
/-- What is known of the slots that are not written. -/
def keepE (ws : List Nat) : Env → Env
  | [] => []
  | (t, v) :: r => bif memN t ws then keepE ws r else (t, v) :: keepE ws r

def V (P : Program) : Code → An → (Ex → Env → World → Prop) → Env → World → Prop
  | .skip, _, Q, env, w => Q .nrm env w
  | .ret, _, Q, env, w => Q .ret env w
  | .exit i, _, Q, env, w => Q (.ext i) env w
  | .seq a b, .sq x y, Q, env, w => V P a x (fun e env' w' => match e with | .nrm => V P b y Q env' w' | .ext i => Q (.ext i) env' w' | .ret => Q .ret env' w') env w
  | .seq a b, .sn L x y, Q, env, w => V P a x (fun e env' w' => match e with | .nrm => appC L env' (lamC L (fun env2 w2 => V P b y Q env2 w2) []) w' | .ext i => Q (.ext i) env' w' | .ret => Q .ret env' w') env w
  | .cond c a b, .cd x y, Q, env, w =>
    (match ev env c with
     | .bool t => cond t (V P a x Q env w) (V P b y Q env w)
     | _ => False)
  | .cond c a b, .cj L x y, Q, env, w =>
    (match ev env c with
     | .bool t => Join L (lamC L (Q .nrm) (keepE (writes a ++ writes b) env)) (fun J =>
        cond t (V P a x (fun e env' w' => match e with | .nrm => appC L env' J w' | .ext i => Q (.ext i) env' w' | .ret => Q .ret env' w') env w)
          (V P b y (fun e env' w' => match e with | .nrm => appC L env' J w' | .ext i => Q (.ext i) env' w' | .ret => Q .ret env' w') env w))
     | _ => False)
  | .block i c, .bk L x, Q, env, w =>
    Join L (lamC L (Q .nrm) (keepE (writes c) env)) (fun J =>
      V P c x (fun e env' w' => match e with | .nrm => appC L env' J w' | .ext j => bif Nat.beq j i then appC L env' J w' else Q (.ext j) env' w' | .ret => Q .ret env' w') env w)
  | .loop c, .lp L x, Q, env, w =>
    LoopV L (fun K => appC L env K w) (fun N =>
      lamC L (fun env' w' => V P c x (fun e env'' w'' => match e with | .nrm => appC L env'' N w'' | .ext j => Q (.ext j) env'' w'' | .ret => Q .ret env'' w'') env' w') (keepE (writes c) env))
  | .region _ ops false, .lf hs, Q, env, w =>
    opsV P (fun φ w => φ w) (fun _ p _ => p) hs ops.toList (fun env' w' => Q .nrm env' w') (List.range ops.toList.length) [] env w
  | .region _ ops false, .rj hs L, Q, env, w =>
    Join L (lamC L (Q .nrm) (keepE (ops.toList.filterMap (·.dst)) env)) (fun J => opsV P (fun φ w => φ w) (fun _ p _ => p) hs ops.toList (fun env' w' => appC L env' J w') (List.range ops.toList.length) [] env w)
  | .region _ ops true, .dr plan tail gen L, Q, env, w =>
    bif planOk ops plan (bif gen then tail else effIdx ops.toList) then
      (match L with
       | none => Draw gen (fun At Sb w' => opsV P At (fun i p w'' => bif tail.contains i then p else Sb p w'') [] ops.toList (fun env' w'' => Q .nrm env' w'') plan [] env w') w
       | some L => Join L (lamC L (Q .nrm) (keepE (ops.toList.filterMap (·.dst)) env)) (fun J =>
          Draw gen (fun At Sb w' => opsV P At (fun i p w'' => bif tail.contains i then p else Sb p w'') [] ops.toList (fun env' w'' => appC L env' J w'') plan [] env w') w))
    else False
  | .region _ ops true, .df pre i j r1 r2 tail L, Q, env, w =>
    bif forkOk ops pre i j r1 r2 tail then
      Join L (lamC L (Q .nrm) (keepE (ops.toList.filterMap (·.dst)) env)) (fun J => ∃ S : World → Prop, S w.drew ∧
        opsV P (fun φ _ => ∀ w, S w → φ w) (fun i p w'' => bif tail.contains i then p else S w'' ∧ p) [] ops.toList (fun env' w' =>
          opsV P (fun φ _ => ∀ w, S w → φ w) (fun i p w'' => bif tail.contains i then p else S w'' ∧ p) [] ops.toList (fun env'' w'' => appC L env'' J w'') (i :: r1) [] env' w' ∧
          opsV P (fun φ _ => ∀ w, S w → φ w) (fun i p w'' => bif tail.contains i then p else S w'' ∧ p) [] ops.toList (fun env'' w'' => appC L env'' J w'') (j :: r2) [] env' w') pre [] env w.drew)
    else False
  | _, _, _, _, _ => False

theorem cond_intro {b : Bool} {p q : Prop} (h1 : b = true → p) (h2 : b = false → q) : cond b p q := by cases b; exact h2 rfl; exact h1 rfl
/-- A world under a name. -/
def Let (x : World) (f : World → Prop) : Prop := f x
theorem Let.intro {x : World} {f : World → Prop} (h : ∀ w, w = x → f w) : Let x f := h x rfl

/-! ### a whole function -/
def resV (P : Program) (env : Env) : List ResultVar → (List Value → World → Prop) → World → Prop
  | [], K, w => K [] w
  | .tmp t :: r, K, w => bif known env t then resV P env r (fun vs w => K (look env t :: vs) w) w else False
  | .cell a t :: r, K, w =>
    (match look env a with
     | .pointer (some ⟨b, o, none⟩) => loadV P (fun φ => φ w) t b o (fun v => resV P env r (fun vs w => K (v :: vs) w) w)
     | _ => False)
def oneOrTup : List Value → Value
  | [v] => v
  | vs => .tuple vs.toArray
def endV (P : Program) (fn : Func) (R : Value → World → Prop) : Ex → Env → World → Prop
  | .nrm, env, w => resV P env fn.results.toList (fun vs w => R (oneOrTup vs) w) w
  | .ret, env, w => resV P env fn.results.toList (fun vs w => R (oneOrTup vs) w) w
  | _, _, _ => False
def params : Nat → List Value → Env
  | _, [] => []
  | i, v :: r => (i, v) :: params (i + 1) r
def dstIn (nt : Nat) (o : Oper) : Bool :=
  match o.dst with
  | some d => Nat.ble (d + 1) nt
  | none => true
/-- All that the code writes lies in the frame. -/
def dstsOk (nt : Nat) : Code → Bool
  | .region _ ops _ => ops.toList.all (dstIn nt)
  | .seq a b => dstsOk nt a && dstsOk nt b
  | .cond _ a b => dstsOk nt a && dstsOk nt b
  | .block _ a => dstsOk nt a
  | .loop a => dstsOk nt a
  | _ => true
def funV (P : Program) (fn : Func) (an : An) (args : List Value) (R : Value → World → Prop) (w : World) : Prop :=
  match fn.body with
  | some c => bif dstsOk fn.ntmps c && Nat.ble args.length fn.ntmps then V P c an (endV P fn R) (params 0 args) w else False
  | none => False
end Go.VC
