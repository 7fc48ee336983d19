/-
  VX, part a: the machine's code as a term in continuation style: what each operation does is a predicate 'x .. K', and 'vx' turns code into such predicates. Nothing here is of one program.
  VX, part b: 'opx' gives for each operation its predicate; it is sound for the model's own 'Oper.wp'.
-/
import Derived.WalkKit
import Derived.RangeFuncLeaves
import Derived.RangeFuncRecord
set_option linter.all false
namespace Go.Proofs.YtkpefimnggojdaaGreat.VX
open Go

abbrev Fr := List Value
/-- A string of these bytes. -/
abbrev str (l : List UInt8) : Value := .string ⟨⟨l⟩⟩
def rho (fr : Fr) : Operand → Value
  | .tmp t => fr.getD t undef
  | .const v => v
  | .global g => .pointer (some ⟨g, 0, none⟩)
  | .func f => .func (.func f) #[] #[]

/-- The run of a piece of the model ends well, in K. -/
def rn {α : Type} (P : Program) (s : Sem α) (w : World) (K : α → World → Prop) : Prop :=
  match s.run P w with | .ok v w' => K v w' | .halt _ _ => False

attribute [irreducible] rn

/-- A call that returns, with a value and a world of which R holds. -/
def CallsV (P : Program) (f : FuncId) (args : Array Value) (w : World) (R : Value → World → Prop) : Prop :=
  Calls P f args w fun e w' => ∃ v, e = .returned v ∧ R v w'

theorem CallsV.mono {P : Program} {f : FuncId} {args : Array Value} {w : World} {R R' : Value → World → Prop}
    (h : CallsV P f args w R) (hr : ∀ v w', R v w' → R' v w') : CallsV P f args w R' :=
  Calls.mono h fun _ w' ⟨v, he, h⟩ => ⟨v, he, hr v w' h⟩

/-! What reads. -/
def pickx (c a b : Value) (K : Value → Prop) : Prop := match c with | .bool true => K a | .bool false => K b | _ => False
def cnd (c : Value) (A B : Prop) : Prop := match c with | .bool true => A | .bool false => B | _ => False
def nck (x : Value) (K : Value → Prop) : Prop :=
  match x with
  | .pointer (some a) => K (.pointer (some a))
  | .func (.func f) a b => K (.func (.func f) a b)
  | .iface t v => K (.iface t v)
  | _ => False
/-- Where an address is held against nil no memory is read. -/
def eqP (op : BinOp) (b : Bool) (K : Value → Prop) : Prop := match op with | .eql => K (.bool b) | .neq => K (.bool (!b)) | _ => False
def fa (off : Nat) (x : Value) (K : Value → Prop) : Prop := match x with | .pointer (some a) => K (.pointer (some (a.add off))) | _ => False
def ia (size : Nat) (x i : Value) (K : Value → Prop) : Prop :=
  match x, i with
  | .slice (some a) len _, .int _ n => (0 ≤ n ∧ n < len) ∧ K (.pointer (some (a.add (n.toNat * size))))
  | _, _ => False
def iaA (len size : Nat) (x i : Value) (K : Value → Prop) : Prop :=
  match x, i with
  | .pointer (some a), .int _ n => (0 ≤ n ∧ n < len) ∧ K (.pointer (some (a.add (n.toNat * size))))
  | _, _ => False
def ld (a : Value) (w : World) (K : Value → Prop) : Prop :=
  match a with | .pointer (some a) => (match w.cell? a with | some v => K v | none => False) | _ => False
def cellsAt (w : World) (a : Addr) : Nat → Nat → Option (List Value)
  | _, 0 => some []
  | i, n + 1 => match w.cell? (a.add i) with | some v => (cellsAt w a (i + 1) n).map (v :: ·) | none => none
def ldS (n : Nat) (a : Value) (w : World) (K : Value → Prop) : Prop :=
  match a with | .pointer (some a) => (match cellsAt w a 0 n with | some vs => K (.agg vs.toArray) | none => False) | _ => False
def fd (off size : Nat) (agg : Bool) (x : Value) (K : Value → Prop) : Prop :=
  match x with
  | .agg cs => (match agg with | true => K (.agg (cs.extract off (off + size))) | false => (match cs[off]? with | some v => K v | none => False))
  | _ => False
def ex (x : Value) (i : Nat) (K : Value → Prop) : Prop :=
  match x with | .tuple vs => (match vs[i]? with | some v => K v | none => False) | _ => False
def ixS (x i : Value) (K : Value → Prop) : Prop :=
  match x, i with
  | .string s, .int _ n => (0 ≤ n ∧ n < s.data.toList.length) ∧ K (.int .u8 ((s.data.toList.getD n.toNat 0).toNat : Int))
  | _, _ => False
def ixA (len size : Nat) (agg : Bool) (x i : Value) (K : Value → Prop) : Prop :=
  match i with
  | .int _ n => (0 ≤ n ∧ n < len) ∧ fd (n.toNat * size) size agg x K
  | _ => False
def bndI (v : Option Value) (d : Int) : Option Int := match v with | none => some d | some (.int _ n) => some n | _ => none
def slS (x : Value) (lo hi : Option Value) (K : Value → Prop) : Prop :=
  match x, bndI lo 0, bndI hi (match x with | .string s => s.data.toList.length | _ => 0) with
  | .string s, some l, some h => (0 ≤ h ∧ h ≤ s.data.toList.length) ∧ (0 ≤ l ∧ l ≤ h) ∧ K (str ((s.data.toList.drop l.toNat).take (h.toNat - l.toNat)))
  | _, _, _ => False
def slV (size : Nat) (x : Value) (lo hi mx : Option Value) (K : Value → Prop) : Prop :=
  match x, bndI lo 0 with
  | .slice a len cap, some l =>
    (match bndI mx cap, bndI hi len with
    | some m, some h => (0 ≤ m ∧ m ≤ cap) ∧ (0 ≤ h ∧ h ≤ (match mx with | none => (cap : Int) | some _ => m)) ∧ (0 ≤ l ∧ l ≤ h) ∧ (mx.isSome = true → hi.isSome = true) ∧
        K (.slice (if m.toNat = l.toNat then a else a.map (·.add (l.toNat * size))) (h.toNat - l.toNat) (m.toNat - l.toNat))
    | _, _ => False)
  | _, _ => False
def okP (w : World) (a : Addr) : Prop := ∃ c t, w.heap[a.block]? = some (.cells c t (0, 0))
def binI (op : BinOp) (k : IntKind) (a b : Int) (K : Value → Prop) : Prop :=
  match op with
  | .add => K (.int k (k.wrap (a + b)))
  | .sub => K (.int k (k.wrap (a - b)))
  | .mul => K (.int k (k.wrap (a * b)))
  | .eql => K (.bool (a == b))
  | .neq => K (.bool (a != b))
  | .lss => K (.bool (a < b))
  | .leq => K (.bool (a ≤ b))
  | .gtr => K (.bool (b < a))
  | .geq => K (.bool (b ≤ a))
  | .quo => b ≠ 0 ∧ K (.int k (k.wrap (a.tdiv b)))
  | .rem => b ≠ 0 ∧ K (.int k (a.tmod b))
  | .and => K (.int k (k.wrap (BitVec.ofInt k.bits a &&& BitVec.ofInt k.bits b).toNat))
  | .or => K (.int k (k.wrap (BitVec.ofInt k.bits a ||| BitVec.ofInt k.bits b).toNat))
  | .xor => K (.int k (k.wrap (BitVec.ofInt k.bits a ^^^ BitVec.ofInt k.bits b).toNat))
  | .andNot => K (.int k (k.wrap (BitVec.ofInt k.bits a &&& ~~~BitVec.ofInt k.bits b).toNat))
  | .shl => 0 ≤ b ∧ K (.int k (k.wrap (a * 2 ^ min b.toNat k.bits)))
  | .shr => 0 ≤ b ∧ K (.int k (a.fdiv (2 ^ min b.toNat k.bits)))
def binS (op : BinOp) (a b : ByteArray) (K : Value → Prop) : Prop :=
  match op with
  | .add => a.data.toList.length + b.data.toList.length ≤ 9223372036854775807 ∧ K (str (a.data.toList ++ b.data.toList))
  | .eql => K (.bool (a.data.toList == b.data.toList))
  | .neq => K (.bool (!(a.data.toList == b.data.toList)))
  | .lss => K (.bool (Op.bytesLess a.data.toList b.data.toList))
  | .leq => K (.bool (Op.bytesLess a.data.toList b.data.toList || a.data.toList == b.data.toList))
  | .gtr => K (.bool (!(Op.bytesLess a.data.toList b.data.toList || a.data.toList == b.data.toList)))
  | .geq => K (.bool (!Op.bytesLess a.data.toList b.data.toList))
  | _ => False
def bin (op : BinOp) (x y : Value) (K : Value → Prop) : Prop :=
  match x, y with
  | .int k a, .int k' b => ((match op with | .shl => true | .shr => true | _ => false) = true ∨ k = k') ∧ binI op k a b K
  | .string a, .string b => binS op a b K
  | _, _ => False
def binB (op : BinOp) (x y : Value) (K : Value → Prop) : Prop := match x, y with | .bool a, .bool b => eqP op (a == b) K | _, _ => False
def binP (op : BinOp) (x y : Value) (w : World) (K : Value → Prop) : Prop :=
  match x, y with
  | .pointer none, .pointer b => eqP op b.isNone K
  | .pointer (some _), .pointer none => eqP op false K
  | .pointer (some a), .pointer (some b) => if a.block = b.block then eqP op (a == b) K else okP w a ∧ okP w b ∧ eqP op false K
  | _, _ => False
def binL (op : BinOp) (x y : Value) (K : Value → Prop) : Prop :=
  match x, y with
  | .slice none _ _, .slice b _ _ => eqP op b.isNone K
  | .slice (some _) _ _, .slice none _ _ => eqP op false K
  | _, _ => False
def binM (op : BinOp) (x y : Value) (K : Value → Prop) : Prop :=
  match x, y with
  | .map none, .map b => eqP op b.isNone K
  | .map (some _), .map none => eqP op false K
  | _, _ => False
def binF (op : BinOp) (x y : Value) (K : Value → Prop) : Prop :=
  match x, y with
  | .nilFunc, .nilFunc => eqP op true K
  | .func _ _ _, .nilFunc => eqP op false K
  | _, _ => False
def un (op : UnOp) (x : Value) (K : Value → Prop) : Prop :=
  match op, x with
  | .not, .bool b => K (.bool (!b))
  | .neg, .int k n => K (.int k (k.wrap (-n)))
  | _, _ => False
def cvI (k : IntKind) (x : Value) (K : Value → Prop) : Prop := match x with | .int _ n => K (.int k (k.wrap n)) | _ => False
def fillL (cells : List Value) (off : Nat) (vs : List Value) : List Value := cells.take off ++ vs ++ cells.drop (off + vs.length)
def bldL (cells : List Value) : List (Nat × Nat × Value) → Option (List Value)
  | [] => some cells
  | (off, size, v) :: r => if v.cells.toList.length = size ∧ off + size ≤ cells.length then bldL (fillL cells off v.cells.toList) r else none
def bld (zs : List Value) (parts : List (Nat × Nat × Value)) (K : Value → Prop) : Prop :=
  match bldL zs parts with | some cs => K (.agg cs.toArray) | none => False
def lk (kd : TypeDesc) (z : Value) (x k : Value) (ok : Bool) (w : World) (K : Value → Prop) : Prop :=
  match x with
  | .map none => K (match ok with | true => .tuple #[z, .bool false] | false => z)
  | .map (some r) =>
    (match w.heap[r]? with
    | some (.map es _) =>
      (match Instr.findNow kd k es.toList 0 with
      | some (some (_, v)) => K (match ok with | true => .tuple #[v, .bool true] | false => v)
      | some none => K (match ok with | true => .tuple #[z, .bool false] | false => z)
      | none => False)
    | _ => False)
  | _ => False
def lenS (x : Value) (K : Value → Prop) : Prop := match x with | .string s => K (.int .i64 s.data.toList.length) | _ => False
def lenV (x : Value) (K : Value → Prop) : Prop := match x with | .slice _ n _ => K (.int .i64 n) | _ => False
def lenM (x : Value) (w : World) (K : Value → Prop) : Prop :=
  match x with
  | .map none => K (.int .i64 0)
  | .map (some r) => (match w.heap[r]? with | some (.map es _) => K (.int .i64 es.size) | _ => False)
  | _ => False
def maxx (x y : Value) (K : Value → Prop) : Prop := match x, y with | .int k a, .int k' b => k = k' ∧ K (.int k (max a b)) | _, _ => False
def minx (x y : Value) (K : Value → Prop) : Prop := match x, y with | .int k a, .int k' b => k = k' ∧ K (.int k (min a b)) | _, _ => False
def enx (it : Value) (w : World) (K : Value → Prop) : Prop :=
  match it with
  | .pointer (some ⟨r, 0, _⟩) =>
    (match w.heap[r]? with
    | some (.mapIter (some m) _ seen stepped) =>
      (match seen.back?, w.heap[m]? with
      | some stamp, some (.map es clock) => clock = stepped ∧ (match es.find? (·.born == stamp) with | some e => K (.tuple #[e.key, e.val]) | none => False)
      | _, _ => False)
    | _ => False)
  | _ => False

/-! What turns the world. -/
def newx (zs : List Value) (t : TypeId) (w : World) (K : Value → World → Prop) : Prop := K (.pointer (some ⟨w.heap.size, 0, none⟩)) (w.alloc (.cells zs.toArray t))
def boxx (t : TypeId) (v : Value) (w : World) (K : Value → World → Prop) : Prop := K (.pointer (some ⟨w.heap.size, 0, none⟩)) (w.alloc (.cells v.cells t))
def bsl (t : TypeId) (len : Nat) (zs : List Value) (parts : List (Nat × Nat × Value)) (w : World) (K : Value → World → Prop) : Prop :=
  match bldL zs parts with | some cs => K (.slice (some ⟨w.heap.size, 0, none⟩) len len) (w.alloc (.cells cs.toArray t)) | none => False
def oneCell : Value → Bool | .agg _ | .tuple _ => false | _ => true
def stL (a : Addr) (w : World) : Nat → List Value → Option World
  | _, [] => some w
  | i, v :: r => if oneCell v = true ∧ (w.cell? (a.add i)).isSome = true ∧ w.frozen? (a.add i) = false then stL a (w.setCell (a.add i) v) (i + 1) r else none
def st (n : Nat) (a v : Value) (w : World) (K : World → Prop) : Prop :=
  match a with
  | .pointer (some a) => v.cells.toList.length = n ∧ (match stL a w 0 v.cells.toList with | some w' => K w' | none => False)
  | _ => False
def mkmap (w : World) (K : Value → World → Prop) : Prop := K (.map (some w.heap.size)) (w.alloc (.map #[] 0))
def mkmapN (r : Value) (w : World) (K : Value → World → Prop) : Prop := match r with | .int _ _ => K (.map (some w.heap.size)) (w.alloc (.map #[] 0)) | _ => False
def mks (t : TypeId) (zs : List Value) (bytes : Nat) (l c : Value) (w : World) (K : Value → World → Prop) : Prop :=
  match l, c with
  | .int .i64 l, .int .i64 c => (0 ≤ l ∧ l ≤ c ∧ c ≤ 9223372036854775807 ∧ bytes * c ≤ 2 ^ 48) ∧
      K (.slice (some ⟨w.heap.size, 0, none⟩) l.toNat c.toNat) (w.alloc (.cells (List.replicate c.toNat zs).flatten.toArray t))
  | _, _ => False
def mux (kd : TypeDesc) (m k v : Value) (w : World) (K : World → Prop) : Prop :=
  match m with
  | .map (some r) =>
    (match w.heap[r]? with
    | some (.map es clock) =>
      (match Instr.findNow kd k es.toList 0 with
      | some (some (i, _)) => ((es[i]?).map (·.key)) = some k ∧ Instr.sameBits 10000 k k = true ∧ K { w with heap := w.heap.setIfInBounds r (.map (es.modify i fun e => { e with key := k, val := v }) clock) }
      | some none => K { w with heap := w.heap.setIfInBounds r (.map (es.push { key := k, val := v, born := clock }) (clock + 1)) }
      | none => False)
    | _ => False)
  | _ => False
def delx (kd : TypeDesc) (m k : Value) (w : World) (K : World → Prop) : Prop :=
  match m with
  | .map none => K w
  | .map (some r) =>
    (match w.heap[r]? with
    | some (.map es clock) =>
      (match Instr.findNow kd k es.toList 0 with
      | some (some (i, _)) => K { w with heap := w.heap.setIfInBounds r (.map (es.eraseIdxIfInBounds i) clock) }
      | some none => K { w with heap := w.heap.setIfInBounds r (.map es clock) }
      | none => False)
    | _ => False)
  | _ => False
def rgS (x : Value) (w : World) (K : Value → World → Prop) : Prop :=
  match x with | .string s => K (.pointer (some ⟨w.heap.size, 0, none⟩)) (w.alloc (.stringIter s 0)) | _ => False
def rgM (x : Value) (w : World) (K : Value → World → Prop) : Prop :=
  match x with
  | .map none => K (.pointer (some ⟨w.heap.size, 0, none⟩)) (w.alloc (.mapIter none 0 #[] 0))
  | .map (some m) => (match w.heap[m]? with | some (.map _ clock) => K (.pointer (some ⟨w.heap.size, 0, none⟩)) (w.alloc (.mapIter (some m) clock #[] clock)) | _ => False)
  | _ => False
def nxS (it : Value) (w : World) (K : Value → World → Prop) : Prop :=
  match it with
  | .pointer (some ⟨r, 0, _⟩) =>
    (match w.heap[r]? with
    | some (.stringIter s pos) =>
      if pos < s.data.toList.length then
        K (.tuple #[.bool true, .int .i64 pos, .int .i32 (Utf8.decode s pos).1]) { w with heap := w.heap.setIfInBounds r (.stringIter s (pos + (Utf8.decode s pos).2)) }
      else K (.tuple #[.bool false]) w
    | _ => False)
  | _ => False

/-- A call of a Go function, and of a function value. -/
def callv (P : Program) (fv : Value) (args : List Value) (w : World) (K : Value → World → Prop) : Prop :=
  match fv with
  | .func (.func f) first cap => (match P.funcs[f]? with | some fn => fn.name ≠ "runtime.NumGoroutine" ∧ fn.body.isSome = true | none => False) ∧ CallsV P f (first ++ args.toArray ++ cap) w K
  | .func (.yield l) first cap => ∃ f tmps assign body w', (Instr.yield l (first ++ args.toArray)).run P w = .ok (.round l f tmps assign body) w' ∧ RoundIn Fence.wide 0 P l f tmps assign body w' fun e w'' => ∃ v, e = .returned v ∧ K v w''
  | _ => False

/-- The fence that lets all in, around code that stands in a round, or in none. -/
abbrev F0 (ro : Option Nat) : Fence := { Fence.wide with round := ro }
theorem callsIn_F0 {ro : Option Nat} {n : Nat} {P : Program} {f : FuncId} {args : Array Value} {w : World} {R : Ending → World → Prop} (h : Calls P f args w R) : CallsIn (F0 ro) n P f args w R :=
  have h' : CallsIn Fence.wide n P f args w R := callsIn_wide.2 h
  h'
theorem F0_none : F0 none = Fence.wide := rfl

/-! Ways that meet again; loops. -/
def nth (g : List Value) (k : Nat) : Value := g.getD k undef
def jn (rest : List Value → List Value → World → Prop) (body : (List Value → World → Prop) → Prop) : Prop := ∃ J : List Value → World → Prop, (∀ g z w, J g w → rest g z w) ∧ body J
def lp (body : (List Value → World → Prop) → List Value → List Value → World → Prop) (g0 : List Value) (w0 : World) : Prop :=
  ∃ (I : List Value → World → Prop) (μ : List Value → World → Nat), I g0 w0 ∧ ∀ g z w, I g w → body (fun g' w' => I g' w' ∧ μ g' w' < μ g w) g z w
def gd (c : Value) (want : Bool) (A B : Prop) : Prop := match c with | .bool b => (match b, want with | true, true => A | false, false => A | _, _ => B) | .tuple _ => B | _ => False

def sel (ms : List Nat) (fr : Fr) : List Value := ms.map fun m => fr.getD m undef
def ovl : List Nat → Nat → List Value → Fr → Fr
  | [], _, _, fr => fr
  | m :: ms, k, g, fr => ovl ms (k + 1) g (fr.set m (nth g k))

end Go.Proofs.YtkpefimnggojdaaGreat.VX

namespace Go.Proofs.YtkpefimnggojdaaGreat.VX
open Go

def isAggD : TypeDesc → Bool | .struct _ => true | .array _ _ => true | _ => false
def szOf (P : Program) (t : TypeId) : Option Nat := (P.info? t).map (·.size)
def zOf (P : Program) (t : TypeId) : Option (List Value) := ((P.info? t).bind (·.zero)).map (·.cells.toList)
/-- Where each field of a struct lies, and how many cells it has. -/
def places (P : Program) (fields : Array Field) : Option (List (Nat × Nat)) := fields.toList.mapM fun f => (szOf P f.type).map fun n => (f.offset, n)
def partsOf (ρ : Operand → Value) (pl : Nat → Option (Nat × Nat)) : List (Nat × Operand) → Option (List (Nat × Nat × Value))
  | [] => some []
  | (i, x) :: r => match pl i, partsOf ρ pl r with | some (o, n), some l => some ((o, n, ρ x) :: l) | _, _ => none

def opx (P : Program) (op : Op) (ty : TypeId) (ρ : Operand → Value) (w : World) (K : Value → World → Prop) : Prop :=
  match op with
  | .move x | .assign x => K (ρ x) w
  | .pick c a b => pickx (ρ c) (ρ a) (ρ b) fun v => K v w
  | .alloc t => (match zOf P t with | some zs => newx zs t w K | none => False)
  | .box t x => boxx t (ρ x) w K
  | .build t parts =>
    (match P.underlying t, zOf P t with
    | some (.struct fields), some zs =>
      (match places P fields with
      | some pl => (match partsOf ρ (pl[·]?) parts.toList with | some ps => bld zs ps fun v => K v w | none => False)
      | none => False)
    | some (.array _ e), some zs =>
      (match szOf P e with
      | some n => (match partsOf ρ (fun i => some (i * n, n)) parts.toList with | some ps => bld zs ps fun v => K v w | none => False)
      | none => False)
    | _, _ => False)
  | .buildSlice t len parts =>
    (match P.underlying t with
    | some (.slice e) =>
      (match szOf P e, zOf P e with
      | some n, some zs => if len * n ≤ 2 ^ 24 ∧ zs.length = n ∧ 0 < n then (match partsOf ρ (fun i => some (i * n, n)) parts.toList with | some ps => bsl e len (List.replicate len zs).flatten ps w K | none => False) else False
      | _, _ => False)
    | _ => False)
  | .load t a =>
    (match P.underlying t with
    | some d => (match isAggD d with
      | true => (match szOf P t with | some n => ldS n (ρ a) w fun v => K v w | none => False)
      | false => ld (ρ a) w fun v => K v w)
    | none => False)
  | .store t a x => (match szOf P t with | some n => st n (ρ a) (ρ x) w fun w' => K undef w' | none => False)
  | .nilCheck x => nck (ρ x) fun v => K v w
  | .binOp op t x y _ =>
    (match P.underlying t with
    | some (.int _) | some .string => bin op (ρ x) (ρ y) fun v => K v w
    | some .bool => binB op (ρ x) (ρ y) fun v => K v w
    | some (.pointer e) => (match szOf P e with
      | some (_ + 1) => binP op (ρ x) (ρ y) w fun v => K v w
      | _ => False)
    | some (.slice _) => binL op (ρ x) (ρ y) fun v => K v w
    | some (.map _ _) => binM op (ρ x) (ρ y) fun v => K v w
    | some (.func _ _ _) => binF op (ρ x) (ρ y) fun v => K v w
    | _ => rn P (do eqGuard op t x y (ρ x) (ρ y); binOp op t (ρ x) (ρ y)) w K)
  | .unOp op _ x => un op (ρ x) fun v => K v w
  | .convert src dst x =>
    (match P.underlying src, P.underlying dst with
    | some (.int _), some (.int k) => cvI k (ρ x) fun v => K v w
    | _, _ => rn P (convert src dst (ρ x)) w K)
  | .makeFunc fn first captured => K (.func fn (first.toList.map ρ).toArray (captured.toList.map ρ).toArray) w
  | .makeMap t none => mkmap w K
  | .makeMap t (some r) => (match P.underlying t with | some (.map _ _) => mkmapN (ρ r) w K | _ => False)
  | .makeSlice t l c =>
    (match P.underlying t with
    | some (.slice e) =>
      (match P.info? e, zOf P e with
      | some i, some zs => if zs.length = i.size ∧ 0 < i.size then mks e zs i.bytes (ρ l) (ρ c) w K else False
      | _, _ => False)
    | _ => False)
  | .slice t x lo hi mx =>
    (match P.underlying t with
    | some .string => (match mx with | none => slS (ρ x) (lo.map ρ) (hi.map ρ) fun v => K v w | some _ => False)
    | some (.slice e) => (match szOf P e with | some n => slV n (ρ x) (lo.map ρ) (hi.map ρ) (mx.map ρ) fun v => K v w | none => False)
    | _ => rn P (Instr.sliceAt t (ρ x) (lo.map ρ) (hi.map ρ) (mx.map ρ)) w K)
  | .fieldAddr s x f =>
    (match P.underlying s with
    | some (.struct fields) => (match fields[f]? with
      | some fl => (match szOf P fl.type with | some (_ + 1) => fa fl.offset (ρ x) fun v => K v w | _ => False)
      | none => False)
    | _ => False)
  | .field s x f =>
    (match P.underlying s with
    | some (.struct fields) => (match fields[f]? with
      | some fl => (match P.underlying fl.type, szOf P fl.type with | some d, some n => fd fl.offset n (isAggD d) (ρ x) fun v => K v w | _, _ => False)
      | none => False)
    | _ => False)
  | .indexAddr t x i =>
    (match P.underlying t with
    | some (.slice e) => (match szOf P e with | some n => ia n (ρ x) (ρ i) fun v => K v w | none => False)
    | some (.array len e) => (match szOf P e with | some n => iaA len n (ρ x) (ρ i) fun v => K v w | none => False)
    | _ => False)
  | .index t x i =>
    (match P.underlying t with
    | some .string => ixS (ρ x) (ρ i) fun v => K v w
    | some (.array len e) => (match P.underlying e, szOf P e with | some d, some n => ixA len n (isAggD d) (ρ x) (ρ i) fun v => K v w | _, _ => False)
    | _ => False)
  | .lookup t x i ok =>
    (match P.underlying t with
    | some (.map k e) =>
      (match P.underlying k, (P.info? e).bind (·.zero) with
      | some (.int q), some z => lk (.int q) z (ρ x) (ρ i) ok w fun v => K v w
      | some .string, some z => lk .string z (ρ x) (ρ i) ok w fun v => K v w
      | _, _ => False)
    | _ => False)
  | .mapUpdate t m k x =>
    (match P.underlying t with
    | some (.map kt _) =>
      (match P.underlying kt with
      | some (.int q) => mux (.int q) (ρ m) (ρ k) (ρ x) w fun w' => K undef w'
      | some .string => mux .string (ρ m) (ρ k) (ρ x) w fun w' => K undef w'
      | _ => False)
    | _ => False)
  | .range t x =>
    (match P.underlying t with
    | some .string => rgS (ρ x) w K
    | some (.map _ _) => rgM (ρ x) w K
    | _ => False)
  | .next it true => nxS (ρ it) w K
  | .next it false => rn P (Instr.next (ρ it) false ty) w K
  | .entry it => enx (ρ it) w fun v => K v w
  | .extract t ix => ex (ρ t) ix fun v => K v w
  | .call c =>
    (match c.callee with
    | .value f => callv P (ρ f) (c.args.toList.map ρ) w K
    | .invoke _ _ => False
    | .builtin b =>
      (match b, c.args.toList, c.argTypes.toList with
      | .len, [x], [t] =>
        (match P.underlying t with
        | some .string => lenS (ρ x) fun v => K v w
        | some (.slice _) => lenV (ρ x) fun v => K v w
        | some (.map _ _) => lenM (ρ x) w fun v => K v w
        | _ => rn P (Builtin.len_ #[t] ty #[ρ x]) w K)
      | .max, [x, y], _ => maxx (ρ x) (ρ y) fun v => K v w
      | .min, [x, y], _ => minx (ρ x) (ρ y) fun v => K v w
      | .delete, [m, k], (t :: _) =>
        (match P.underlying t with
        | some (.map kt _) =>
          (match P.underlying kt with
          | some (.int q) => delx (.int q) (ρ m) (ρ k) w fun w' => K undef w'
          | some .string => delx .string (ρ m) (ρ k) w fun w' => K undef w'
          | _ => False)
        | _ => False)
      | .append, _, _ => rn P (Builtin.append_ c.argTypes ty (c.args.toList.map ρ).toArray) w K
      | .copy, _, _ => rn P (Builtin.copy_ c.argTypes ty (c.args.toList.map ρ).toArray) w K
      | .cap, _, _ => rn P (Builtin.cap_ c.argTypes ty (c.args.toList.map ρ).toArray) w K
      | _, _, _ => False))
  | .makeInterface t x => rn P (Instr.makeInterface t (ρ x)) w K
  | .mapEntry t m k => rn P (Instr.mapEntry t (ρ m) (ρ k)) w K
  | .entryStore t m s x => rn P (Instr.entryStore t (ρ m) (ρ s) (ρ x)) w fun _ w' => K undef w'
  | .typeAssert x t u ok => rn P (Instr.typeAssert (ρ x) t u ok) w K
  | _ => False

end Go.Proofs.YtkpefimnggojdaaGreat.VX
