/- A part of an interpreter of the model's code that is proved sound, and of laws told by it: DamCore. -/
import Derived.Below
import Derived.OrdersHeld
set_option linter.unusedVariables false
set_option linter.unusedSimpArgs false
/- A pure abstract interpreter of the model's code: values are scalars and lists, there is no heap; whose a slice's row is stands in marks beside the values, which the code alone decides. -/
namespace Go.Dam

/-- A home of a slice: a cell of a slot (of its c-th part, if it holds several results), or of a variable in memory. -/
structure Place where
  box : Bool
  n : Nat
  c : Nat
  j : Nat

/-- Whose a slice's row is: frozen for good; the caller's; this home's own; a look at a home's row (whole, or a part). -/
inductive Own where
  | ro | lent | own
  | brw (p : Place) (full : Bool)

inductive AV where
  | undef
  | sc (v : Value)
  | sl (T : Nat) (l : List AV)
  | agg (l : List AV)
  | tup (l : List AV)
  | ref (l : List AV)
  | fn (g : Nat) (caps : List AV)
  | mp (T : Nat) (l : List AV)
  | er

/-- Marks: of a value; of an aggregate's cells; of results; an address (behind it 'off' cells in); the address of an element of the row at home p; a local variable's address; a function with addresses. -/
inductive Md where
  | unk
  | uni (o : Own)
  | cells (l : List Own)
  | tup (l : List Md)
  | adr (o : Own) (off : Nat)
  | elem (p : Place) (i off : Nat)
  | loc (d off : Nat)
  | fn (g : Nat) (caps : List (Nat × Nat))
  | mapAt (d : Nat)

structure Fr where
  slots : List (AV × Md)
  boxes : List (Nat × List (AV × Own))

/-- In a plan: an operation in its turn; a new block that may come up from here on; its turn. -/
inductive PK where
  | norm | pre | late
def PK.isPre : PK → Bool
  | .pre => true
  | _ => false
/-- A drawn region that copies n cells from cell off on out of the variable x into the variable y; dsts: the slots that it writes. -/
structure CopyR where
  x : Nat
  y : Nat
  off : Nat
  n : Nat
  dsts : List Nat
  m : Nat
/-- What is known of the program: bodies, types, zero values' cells with sizes in cells and bytes, functions that are told by hand, the slots that a loop keeps, arguments that a function may keep, results' types. -/
structure Tab where
  fn : Nat → Option Func
  ty : Nat → Option TypeDesc
  info : Nat → Option (List AV × Nat × Nat)
  ext : Nat → Option (List AV → Option AV)
  keep : Nat → Nat → Option (List Nat)
  share : Nat → List Bool
  res : Nat → List Nat
  plan : Nat → Nat → Option (List (Nat × PK))
  cmp : Nat → Bool
  roF : Nat → Bool
  copy : Nat → Nat → Option CopyR
  lay : World → Prop := fun _ => True

def none1 : AV × Md := (.undef, .unk)

section
variable {R : Type}
def castI (k : IntKind) (a : AV) (K : Int → Option R) : Option R := match a with
  | .sc (.int k' n) => if k' = k then K n else none
  | _ => none
/-- A number of whatever kind. -/
def castIx (a : AV) (K : Int → Option R) : Option R := match a with
  | .sc (.int _ n) => K n
  | _ => none
def castB (a : AV) (K : Bool → Option R) : Option R := match a with
  | .sc (.bool b) => K b
  | _ => none
def castS (a : AV) (K : ByteArray → Option R) : Option R := match a with
  | .sc (.string s) => K s
  | _ => none
def castL (T : Nat) (a : AV) (K : List AV → Option R) : Option R := match a with
  | .sl T' l => if T' = T then K l else none
  | _ => none
def castRef (a : AV) (K : List AV → Option R) : Option R := match a with
  | .ref l => K l
  | _ => none
def castFn (a : AV) (K : Nat → List AV → Option R) : Option R := match a with
  | .fn g l => K g l
  | _ => none
/-- Something is known of it. -/
def castP (a : AV) (K : AV → Option R) : Option R := match a with
  | .undef => none
  | .sl _ _ => none
  | .agg _ => none
  | .tup _ => none
  | .mp _ _ => none
  | a => K a
/-- An interface value that is nil, or some error. -/
def castErr (a : AV) (K : Bool → Option R) : Option R := match a with
  | .sc .nilIface => K true
  | .er => K false
  | _ => none
/-- The bytes of a list. -/
def bytesK : List AV → (List UInt8 → Option R) → Option R
  | [], K => K []
  | a :: l, K => castI .u8 a fun n => bytesK l fun r => K (UInt8.ofNat n.toNat :: r)
def castNil (a : AV) (K : Bool → Option R) : Option R := match a with
  | .sc (.pointer none) => K true
  | .ref _ => K false
  | _ => none
end
def cellN (a : AV) (j : Nat) : AV := match a with
  | .agg l => l.getD j .undef
  | _ => .undef
def compN (a : AV) (j : Nat) : AV := match a with
  | .tup l => l.getD j .undef
  | _ => .undef
/-- n values told by their numbers. -/
def tell (f : Nat → AV) : Nat → Nat → List AV
  | _, 0 => []
  | i, n + 1 => f i :: tell f (i + 1) n

/-- The cells told by their numbers, those that must be numbers, bools or strings told as such (z: the type's zero cells). -/
def castCells {R : Type} (f : Nat → AV) : List AV → Nat → (List AV → Option R) → Option R
  | [], _, K => K []
  | .sc (.int k _) :: z, j, K => castI k (f j) fun n => castCells f z (j + 1) fun l => K (.sc (.int k n) :: l)
  | .sc (.bool _) :: z, j, K => castB (f j) fun b => castCells f z (j + 1) fun l => K (.sc (.bool b) :: l)
  | .sc (.string _) :: z, j, K => castS (f j) fun s => castCells f z (j + 1) fun l => K (.sc (.string s) :: l)
  | .sl T _ :: z, j, K => castL T (f j) fun m => castCells f z (j + 1) fun l => K (.sl T m :: l)
  | _ :: z, j, K => castP (f j) fun a => castCells f z (j + 1) fun l => K (a :: l)

def Place.eqB (p q : Place) : Bool := p.box == q.box && p.n == q.n && p.c == q.c && p.j == q.j
def Own.hits (bad : Place → Bool) : Own → Bool
  | .brw p _ => bad p
  | _ => false
def Md.hits (bad : Place → Bool) : Md → Bool
  | .uni o => o.hits bad
  | .cells l => l.any (Own.hits bad)
  | .tup l => l.any fun m => match m with
    | .uni o => o.hits bad
    | .cells l => l.any (Own.hits bad)
    | _ => false
  | .adr o _ => o.hits bad
  | .elem p _ _ => bad p
  | _ => false
def Own.owns : Own → Bool
  | .own => true
  | _ => false
def Md.owns : Md → Bool
  | .uni o => o.owns
  | .cells l => l.any Own.owns
  | .tup l => l.any fun m => match m with
    | .uni o => o.owns
    | .cells l => l.any Own.owns
    | _ => false
  | _ => false
def viewO (p : Place) : Own → Own
  | .own => .brw p true
  | o => o
def viewOs (b : Bool) (n c : Nat) : Nat → List Own → List Own
  | _, [] => []
  | j, o :: l => viewO ⟨b, n, c, j⟩ o :: viewOs b n c (j + 1) l
def view1 (b : Bool) (n c : Nat) : Md → Md
  | .uni o => .uni (viewO ⟨b, n, c, 0⟩ o)
  | .cells l => .cells (viewOs b n c 0 l)
  | m => m
def viewMs (b : Bool) (n : Nat) : Nat → List Md → List Md
  | _, [] => []
  | c, m :: l => view1 b n c m :: viewMs b n (c + 1) l
def viewM (b : Bool) (n : Nat) : Md → Md
  | .tup l => .tup (viewMs b n 0 l)
  | m => view1 b n 0 m
/-- A cell's mark out of a value's. -/
def Md.at (m : Md) (j : Nat) : Own := match m with
  | .uni o => o
  | .cells l => l.getD j .ro
  | _ => .lent
def Fr.getS (fr : Fr) (t : Nat) : AV × Md := fr.slots.getD t none1
def assoc (d : Nat) : List (Nat × List (AV × Own)) → Option (List (AV × Own))
  | [] => none
  | (e, c) :: r => if e = d then some c else assoc d r
def assocSet (d : Nat) (x : List (AV × Own)) : List (Nat × List (AV × Own)) → List (Nat × List (AV × Own))
  | [] => [(d, x)]
  | (e, c) :: r => if e = d then (d, x) :: r else (e, c) :: assocSet d x r
def Fr.box? (fr : Fr) (d : Nat) : Option (List (AV × Own)) := assoc d fr.boxes
def Fr.setBox (fr : Fr) (d : Nat) (x : List (AV × Own)) : Fr := { fr with boxes := assocSet d x fr.boxes }
def setNth {α : Type} : List α → Nat → α → List α
  | [], _, _ => []
  | _ :: l, 0, a => a :: l
  | b :: l, n + 1, a => b :: setNth l n a
def Fr.setS (fr : Fr) (t : Nat) (x : AV × Md) : Fr := { fr with slots := setNth fr.slots t x }
inductive Up where
  | keep | drop | froze
def upO (u : Up) (x : AV × Own) : AV × Own := match u with
  | .keep => x
  | .drop => (.undef, .ro)
  | .froze => (x.1, .ro)
def isKeep : Up → Bool
  | .keep => true
  | _ => false
def upCells (F : Place → Own → Up) (b : Bool) (n c : Nat) (a : Nat → AV) : Nat → List Own → List AV
  | _, [] => []
  | j, o :: l => (upO (F ⟨b, n, c, j⟩ o) (a j, o)).1 :: upCells F b n c a (j + 1) l
def upOwns (F : Place → Own → Up) (b : Bool) (n c : Nat) : Nat → List Own → List Own
  | _, [] => []
  | j, o :: l => (upO (F ⟨b, n, c, j⟩ o) (.undef, o)).2 :: upOwns F b n c (j + 1) l
def allKeep (F : Place → Own → Up) (b : Bool) (n c : Nat) : Nat → List Own → Bool
  | _, [] => true
  | j, o :: l => isKeep (F ⟨b, n, c, j⟩ o) && allKeep F b n c (j + 1) l
/-- What F says of each cell is done: kept, forgotten, frozen. -/
def up1 (F : Place → Own → Up) (n c : Nat) (a : AV) (m : Md) : AV × Md := match m with
  | .uni o => match F ⟨false, n, c, 0⟩ o with
    | .keep => (a, m)
    | .drop => none1
    | .froze => (a, .uni .ro)
  | .cells l => if allKeep F false n c 0 l then (a, m) else (.agg (upCells F false n c (cellN a) 0 l), .cells (upOwns F false n c 0 l))
  | m => (a, m)
def upComps (F : Place → Own → Up) (n : Nat) (a : Nat → AV) : Nat → List Md → List (AV × Md)
  | _, [] => []
  | c, m :: l => up1 F n c (a c) m :: upComps F n a (c + 1) l
def upS (F : Place → Own → Up) (n : Nat) (s : AV × Md) : AV × Md := match s.2 with
  | .tup l => (.tup ((upComps F n (compN s.1) 0 l).map (·.1)), .tup ((upComps F n (compN s.1) 0 l).map (·.2)))
  | .uni o => up1 F n 0 s.1 (.uni o)
  | .cells l => up1 F n 0 s.1 (.cells l)
  | .adr o off => match F ⟨false, n, 0, 0⟩ o with
    | .keep => s
    | .drop => none1
    | .froze => (s.1, .adr .ro off)
  | .elem q i off => match F ⟨false, n, 0, 0⟩ (.brw q true) with
    | .keep => s
    | .drop => none1
    | .froze => (s.1, .adr .ro off)
  | _ => s
def upSlots (F : Place → Own → Up) : Nat → List (AV × Md) → List (AV × Md)
  | _, [] => []
  | n, s :: l => upS F n s :: upSlots F (n + 1) l
/-- A map stays what it is. -/
def upB (u : Up) (x : AV × Own) : AV × Own := match x with
  | (.mp T l, .ro) => (.mp T l, .ro)
  | x => upO u x
def isMapB : List (AV × Own) → Bool
  | [(.mp _ _, .ro)] => true
  | _ => false
def upBox (F : Place → Own → Up) (d : Nat) : Nat → List (AV × Own) → List (AV × Own)
  | _, [] => []
  | j, x :: l => upB (F ⟨true, d, 0, j⟩ x.2) x :: upBox F d (j + 1) l
def upBoxes (F : Place → Own → Up) : List (Nat × List (AV × Own)) → List (Nat × List (AV × Own))
  | [] => []
  | (d, c) :: l => (d, upBox F d 0 c) :: upBoxes F l
def Fr.up (fr : Fr) (F : Place → Own → Up) : Fr := { slots := upSlots F 0 fr.slots, boxes := upBoxes F fr.boxes }
def nixF (bad : Place → Bool) (q : Place) (o : Own) : Up := if o.hits bad || bad q then .drop else .keep
def Own.meets (p q : Place) : Own → Bool
  | .own => p.eqB q
  | .brw p' _ => p.eqB p'
  | _ => false
def frzF (p q : Place) (o : Own) : Up := if o.meets p q then .froze else .keep
/-- Bad homes, and what looks at them, are forgotten. -/
def Fr.nix (fr : Fr) (bad : Place → Bool) : Fr := fr.up (nixF bad)
/-- The home p is empty now, what looked at it is forgotten. -/
def Fr.kill (fr : Fr) (p : Place) : Fr := fr.nix p.eqB
/-- The row at home p is frozen for good. -/
def Fr.freeze (fr : Fr) (p : Place) : Fr := fr.up (frzF p)
def Fr.put (fr : Fr) (dst : Option Nat) (x : AV × Md) : Fr :=
  match dst with
  | none => fr
  | some d => (if (fr.getS d).2.owns then fr.nix fun p => !p.box && p.n == d else fr).setS d (if x.2.hits (fun p => !p.box && p.n == d) then none1 else x)
def Md.home1 (m : Md) (j : Nat) : Own := match m with
  | .uni o => if j = 0 then o else .ro
  | .cells l => l.getD j .ro
  | _ => .ro
def Fr.ownAt (fr : Fr) (p : Place) : Own :=
  match p.box with
  | true => match p.c, fr.box? p.n with
    | 0, some cs => (cs.getD p.j (.undef, .ro)).2
    | _, _ => .ro
  | false => match (fr.getS p.n).2 with
    | .tup l => (l.getD p.c (.uni .ro)).home1 p.j
    | m => if p.c = 0 then m.home1 p.j else .ro
/-- A home that is a whole slot, or a variable's cell. -/
def Fr.sole (fr : Fr) (p : Place) : Bool := match p.box with
  | true => true
  | false => match (fr.getS p.n).2 with
    | .uni _ => p.c == 0 && p.j == 0
    | _ => false
def Fr.valAt (fr : Fr) (p : Place) : AV :=
  match p.box with
  | true => match fr.box? p.n with
    | some cs => (cs.getD p.j (.undef, .ro)).1
    | none => .undef
  | false => (fr.getS p.n).1
def Fr.setVal (fr : Fr) (p : Place) (a : AV) : Fr :=
  match p.box with
  | true => match fr.box? p.n with
    | some cs => fr.setBox p.n (setNth cs p.j (a, .own))
    | none => fr
  | false => fr.setS p.n (a, .uni .own)

def isPlain : AV → Bool
  | .sc (.int _ _) => true
  | .sc (.bool _) => true
  | .sc (.string _) => true
  | _ => false
/-- Values of this type hold nothing but numbers, bools and strings. -/
def Tab.flat (C : Tab) (T : Nat) : Bool := match C.info T with
  | some (z, _, _) => z.all isPlain
  | none => false
def isSc : AV → Bool
  | .sc _ => true
  | _ => false
/-- The marks of a value's cells: what is a number, a bool or a string needs none. -/
def outsZ (m : Md) : List AV → List AV → Nat → List Own
  | z :: zs, a :: as, j => (if isPlain z then (if isSc a then .ro else m.at j) else m.at j) :: outsZ m zs as (j + 1)
  | _, _, _ => []
def outsT (C : Tab) (t : Nat) (m : Md) (cs : List AV) : List Own := match C.info t with
  | some (z, _, _) => outsZ m z cs 0
  | none => []
def normM (C : Tab) (T : Nat) (m : Md) : Md := if C.flat T then .uni .ro else m
def sizeC (C : Tab) (t : Nat) : Option Nat := match C.info t with
  | some (_, s, _) => some s
  | none => none
def isAggD : TypeDesc → Bool
  | .struct _ => true
  | .array _ _ => true
  | _ => false
def isAggT (C : Tab) (t : Nat) : Option Bool := match C.ty t with
  | some d => some (isAggD d)
  | none => none

def noShare (l : List Bool) : Bool := l.all fun b => !b
def constM : Value → AV × Md
  | .agg _ => none1
  | .tuple _ => none1
  | .func _ _ _ => (.undef, .uni .ro)
  | .slice _ _ _ => (.undef, .uni .ro)
  | v => (.sc v, .uni .ro)
def isNilSlice : Value → Bool
  | .slice none 0 0 => true
  | _ => false
/-- An operand, a nil slice written out at its type t. -/
def ev (C : Tab) (fr : Fr) (t : Nat) : Operand → AV × Md
  | .tmp i => ((fr.getS i).1, viewM false i (fr.getS i).2)
  | .const v => if isNilSlice v then (match C.ty t with
      | some (.slice e) => (.sl e [], .uni .own)
      | _ => none1) else constM v
  | .func f => if noShare (C.share f) then (.fn f [], .fn f []) else none1
  | .global _ => none1

/-- Values on their way into a variable: whole own rows go along. -/
def takeOs (fr : Fr) : List Own → Option (List Own × Fr)
  | [] => some ([], fr)
  | o :: l => match o with
    | .brw p true => match fr.ownAt p with
      | .own => match takeOs (fr.kill p) l with
        | some (l', fr') => some (.own :: l', fr')
        | none => none
      | _ => none
    | o => match takeOs fr l with
      | some (l', fr') => some (o :: l', fr')
      | none => none
def alive (fr : Fr) : Own → Bool
  | .brw p _ => (fr.ownAt p).owns
  | _ => true
def take (fr : Fr) (m : Md) : Option (Md × Fr) :=
  match m with
  | .uni o => match takeOs fr [o] with
    | some ([o'], fr') => if alive fr' o' then some (.uni o', fr') else none
    | _ => none
  | .cells l => match takeOs fr l with
    | some (l', fr') => if l'.all (alive fr') then some (.cells l', fr') else none
    | none => none
  | .tup _ => none
  | .elem _ _ _ => none
  | .adr o off => match o with
    | .brw _ _ => none
    | o => some (.adr o off, fr)
  | m => some (m, fr)
/-- Values on their way into a row (own = false) or out of the function: nothing of them is written again, but (own = true) whole own rows. -/
def givOs (own : Bool) (fr : Fr) : List Own → Option (List Own × Fr)
  | [] => some ([], fr)
  | o :: l => match o with
    | .brw p full => match fr.ownAt p with
      | .own => match (match own && full with
          | true => (Own.own, fr.kill p)
          | false => (Own.ro, fr.freeze p)) with
        | (o', fr1) => match givOs own fr1 l with
          | some (l', fr') => some (o' :: l', fr')
          | none => none
      | _ => none
    | .lent => none
    | .own => match givOs own fr l with
      | some (l', fr') => some ((match own with | true => .own | false => .ro) :: l', fr')
      | none => none
    | .ro => match givOs own fr l with
      | some (l', fr') => some (.ro :: l', fr')
      | none => none
def giv (own : Bool) (fr : Fr) (m : Md) : Option (Md × Fr) :=
  match m with
  | .uni o => match givOs own fr [o] with
    | some ([o'], fr') => some (.uni o', fr')
    | _ => none
  | .cells l => match givOs own fr l with
    | some (l', fr') => some (.cells l', fr')
    | none => none
  | .adr .ro 0 => some (.uni .ro, fr)
  | _ => none
def givs (own : Bool) (fr : Fr) : List Md → Option (List Md × Fr)
  | [] => some ([], fr)
  | m :: l => match giv own fr m with
    | some (m', fr1) => match givs own fr1 l with
      | some (l', fr') => some (m' :: l', fr')
      | none => none
    | none => none

/-- What a callee sees: addresses of local variables become what they hold now. -/
def lendBox (fr : Fr) (c : Nat × Nat) : AV := match fr.box? c.1 with
  | some cs => match isMapB cs with
    | true => .undef
    | false => .ref ((cs.drop c.2).map (·.1))
  | none => .undef
def lend (fr : Fr) (x : AV × Md) : AV := match x.2 with
  | .loc d off => lendBox fr (d, off)
  | .fn g caps => .fn g (caps.map (lendBox fr))
  | .uni _ => x.1
  | .cells _ => x.1
  | .adr _ 0 => x.1
  | _ => .undef
def argsOf (C : Tab) (fr : Fr) : List Operand → List Nat → List AV
  | x :: xs, t :: ts => lend fr (ev C fr t x) :: argsOf C fr xs ts
  | _, _ => []

/-- Arguments that a callee may keep are frozen first: their marks, and of the others none. -/
def shareMs (C : Tab) (fr : Fr) : List Bool → List Operand → List Nat → List Md
  | b :: bs, x :: xs, t :: ts => (match b with | true => (ev C fr t x).2 | false => .uni .ro) :: shareMs C fr bs xs ts
  | _, _, _ => []
def shareArgs (C : Tab) (fr : Fr) (bs : List Bool) (xs : List Operand) (ts : List Nat) : Option Fr := match bs with
  | [] => some fr
  | bs => match givs false fr (shareMs C fr bs xs ts) with
    | some (_, fr1) => some fr1
    | none => none
/-- Values that can be lent. -/
def lendOk : Md → Bool
  | .unk => false
  | .tup _ => false
  | .mapAt _ => false
  | _ => true
def argsFine (C : Tab) (fr : Fr) : List Operand → List Nat → Bool
  | x :: xs, t :: ts => lendOk (ev C fr t x).2 && argsFine C fr xs ts
  | [], [] => true
  | _, _ => false

def fieldOf (C : Tab) (t j : Nat) : Option (Nat × Nat) :=
  match C.ty t with
  | some (.struct fs) => match fs[j]? with
    | some f => some (f.offset, f.type)
    | none => none
  | _ => none
/-- A value of type t out of cells told by their numbers. -/
def tellK {R : Type} (C : Tab) (t : Nat) (f : Nat → AV) (off : Nat) (K : AV → Option R) : Option R := match C.info t, isAggT C t with
  | some (z, _, _), some true => castCells (fun j => f (off + j)) z 0 fun l => K (.agg l)
  | some (z, _, _), some false => castCells (fun j => f (off + j)) z 0 fun l => match l with
    | [a] => K a
    | _ => none
  | _, _ => none
def mdOf (C : Tab) (t : Nat) (f : Nat → Own) (off : Nat) : Md :=
  if C.flat t then .uni .ro else match isAggT C t, sizeC C t with
    | some true, some n => .cells ((List.range n).map fun j => f (off + j))
    | _, _ => .uni (f off)
/-- A value's cells; an element's cells. -/
def cellsOf (C : Tab) (t : Nat) (a : AV) : Option (List AV) := match isAggT C t, sizeC C t with
  | some true, some n => match a with
    | .agg l => if l.length = n then some l else none
    | _ => none
  | some false, some 1 => match a with
    | .agg _ => none
    | .tup _ => none
    | a => some [a]
  | _, _ => none
def cellsAt (C : Tab) (t : Nat) (a : AV) : Option (List AV) := match isAggT C t, sizeC C t with
  | some true, some n => some (tell (cellN a) 0 n)
  | some false, some 1 => some [a]
  | _, _ => none
def upTo (C : Tab) (t off len : Nat) : Bool := match sizeC C t with
  | some n => Nat.ble (off + n) len
  | none => false
def putNth {α : Type} (l : List α) (off : Nat) : List α → List α
  | [] => l
  | c :: cs => putNth (setNth l off c) (off + 1) cs
def lay (z : List (AV × Own)) : List (Nat × List (AV × Own)) → List (AV × Own)
  | [] => z
  | (off, cs) :: r => lay (putNth z off cs) r
/-- Marks of values that stand for what their AV says. -/
def cellMd : Md → Option Md
  | .uni o => some (.uni o)
  | .cells l => some (.cells l)
  | .adr .ro 0 => some (.uni .ro)
  | .adr .lent 0 => some (.uni .lent)
  | .loc _ _ => some (.uni .ro)
  | _ => none
def parts (C : Tab) (fr : Fr) (place : Nat → Option (Nat × Nat)) (len : Nat) : List (Nat × Operand) → Option (List (Nat × List (AV × Own)))
  | [] => some []
  | (i, x) :: r => match place i with
    | none => none
    | some (off, t) => match cellsOf C t (ev C fr t x).1, cellMd (ev C fr t x).2, parts C fr place len r with
      | some cs, some m, some r' => if Nat.ble (off + cs.length) len then some ((off, cs.zip (outsT C t m cs)) :: r') else none
      | _, _, _ => none
def inOrder : Nat → List (Nat × Operand) → Bool
  | _, [] => true
  | n, (i, _) :: r => i == n && inOrder (n + 1) r
def zOwn : AV → Own
  | .sl _ _ => .own
  | _ => .ro
def zeroOwn (l : List AV) : List (AV × Own) := l.map fun a => (a, zOwn a)
def maxBytes : Nat := 140737488355328
def partOf : Own → Own
  | .brw p _ => .brw p false
  | o => o
def minI (a b : Int) : Int := if b < a then b else a
def maxI (a b : Int) : Int := if b > a then b else a

section
variable {R : Type}
def arith (op : BinOp) (k : IntKind) (x y : Int) : Option Value :=
  match op with
  | .add => some (.int k (k.wrap (x + y)))
  | .sub => some (.int k (k.wrap (x - y)))
  | .mul => some (.int k (k.wrap (x * y)))
  | .eql => some (.bool (x == y))
  | .neq => some (.bool (x != y))
  | .lss => some (.bool (decide (x < y)))
  | .leq => some (.bool (decide (x ≤ y)))
  | .gtr => some (.bool (decide (x > y)))
  | .geq => some (.bool (decide (x ≥ y)))
  | .and => some (.int k (k.wrap ((BitVec.ofInt k.bits x &&& BitVec.ofInt k.bits y).toNat)))
  | .or => some (.int k (k.wrap ((BitVec.ofInt k.bits x ||| BitVec.ofInt k.bits y).toNat)))
  | _ => none
def eqv (op : BinOp) (b : Bool) : Option Value :=
  match op with
  | .eql => some (.bool b)
  | .neq => some (.bool (!b))
  | _ => none
def eqCells (a b : AV) : List AV → Nat → (Bool → Option R) → Option R
  | [], _, K => K true
  | .sc (.int k _) :: z, j, K => castI k (cellN a j) fun x => castI k (cellN b j) fun y => eqCells a b z (j + 1) fun r => K ((x == y) && r)
  | .sc (.bool _) :: z, j, K => castB (cellN a j) fun x => castB (cellN b j) fun y => eqCells a b z (j + 1) fun r => K ((x == y) && r)
  | .sc (.string _) :: z, j, K => castS (cellN a j) fun x => castS (cellN b j) fun y => eqCells a b z (j + 1) fun r => K ((x == y) && r)
  | _, _, _ => none
def withV (v : Option Value) (K : Value → Option R) : Option R := match v with
  | some v => K v
  | none => none
def aggLen (a : AV) (s : Nat) : Bool := match a with
  | .agg l => Nat.beq l.length s
  | _ => false
def intBin (op : BinOp) (k : IntKind) (a b : Int) (K : Value → Option R) : Option R := match op with
  | .quo => match (b == 0) with
    | true => none
    | false => K (.int k (k.wrap (a.tdiv b)))
  | .rem => match (b == 0) with
    | true => none
    | false => K (.int k (a.tmod b))
  | op => withV (arith op k a b) K
def isShift : BinOp → Bool
  | .shl => true
  | .shr => true
  | _ => false
def shiftBin (op : BinOp) (k : IntKind) (a b : Int) (K : Value → Option R) : Option R := match decide (0 ≤ b) && decide (b ≤ (k.bits : Int)) with
  | true => match op with
    | .shr => K (.int k (a / 2 ^ b.toNat))
    | .shl => K (.int k (k.wrap (a * 2 ^ b.toNat)))
    | _ => none
  | false => none
def ltS (a b : ByteArray) : Bool := Go.Op.bytesLess a.data.toList b.data.toList
def strBin (op : BinOp) (a b : ByteArray) (K : Value → Option R) : Option R := match op with
  | .lss => K (.bool (ltS a b))
  | .add => match Nat.ble (a.size + b.size) 9223372036854775807 with
    | true => K (.string (a ++ b))
    | false => none
  | op => withV (eqv op (a == b)) K
def avBin (C : Tab) (op : BinOp) (t : Nat) (x y : AV) (K : Value → Option R) : Option R :=
  match C.ty t with
  | some (.int k) => match isShift op with
    | true => castI k x fun a => castIx y fun b => shiftBin op k a b K
    | false => castI k x fun a => castI k y fun b => intBin op k a b K
  | some .bool => castB x fun a => castB y fun b => withV (eqv op (a == b)) K
  | some .string => castS x fun a => castS y fun b => strBin op a b K
  | some (.pointer _) => match y with
    | .sc (.pointer none) => castNil x fun b => withV (eqv op b) K
    | _ => none
  | some (.interface _) => match y with
    | .sc .nilIface => castErr x fun b => withV (eqv op b) K
    | _ => none
  | some (.struct _) => match C.info t with
    | some (z, s, _) => if aggLen x s && (aggLen y s && C.cmp t) then eqCells x y z 0 fun b => withV (eqv op b) K else none
    | none => none
  | some (.array _ _) => match C.info t with
    | some (z, s, _) => if aggLen x s && (aggLen y s && C.cmp t) then eqCells x y z 0 fun b => withV (eqv op b) K else none
    | none => none
  | _ => none
/-- An interface value is looked at beside a nil that is not written out. -/
def errBad (C : Tab) (t : Nat) (y : Operand) : Bool := match C.ty t with
  | some (.interface _) => match y with
    | .const _ => false
    | _ => true
  | _ => false
def avUn (C : Tab) (op : UnOp) (t : Nat) (x : AV) (K : Value → Option R) : Option R :=
  match C.ty t with
  | some .bool => castB x fun b => match op with
    | .not => K (.bool (!b))
    | _ => none
  | some (.int k) => castI k x fun n => match op with
    | .neg => K (.int k (k.wrap (-n)))
    | _ => none
  | _ => none

/-- The mark of what is loaded from behind an address. -/
def frozenO (C : Tab) (T : Nat) : Own → Option Own
  | .ro => some .ro
  | .lent => some .lent
  | _ => if C.flat T then some .ro else none
/-- A load's cells. -/
def loadK (C : Tab) (fr : Fr) (T : Nat) (x : AV × Md) (K : AV × Md → Option R) : Option R :=
  match x.2 with
  | .loc d off => match fr.box? d with
    | some cs => if upTo C T off cs.length && !(isMapB cs) then
        tellK C T (fun j => (cs.getD j (.undef, .ro)).1) off fun a => K (a, mdOf C T (fun j => viewO ⟨true, d, 0, j⟩ (cs.getD j (.undef, .ro)).2) off) else none
    | none => none
  | .adr o off => castRef x.1 fun cs => match frozenO C T o with
    | some o => tellK C T (fun j => cs.getD j .undef) off fun a => K (a, normM C T (.uni o))
    | none => none
  | .elem _ _ off => castRef x.1 fun cs => tellK C T (fun j => cs.getD j .undef) off fun a => K (a, normM C T (.uni .ro))
  | .uni o => castRef x.1 fun cs => match frozenO C T o with
    | some o => tellK C T (fun j => cs.getD j .undef) 0 fun a => K (a, normM C T (.uni o))
    | none => none
  | _ => none

def boundK (C : Tab) (fr : Fr) (dflt : Int) (x : Option Operand) (K : Int → Option R) : Option R := match x with
  | none => K dflt
  | some z => castI .i64 (ev C fr 0 z).1 K

def castAny (a : AV) (K : Nat → List AV → Option R) : Option R := match a with
  | .sl T l => K T l
  | _ => none
/-- A value of type t, told as such. -/
def castT (C : Tab) (t : Nat) (a : AV) (K : AV → Option R) : Option R := match isAggT C t with
  | some true => tellK C t (cellN a) 0 K
  | some false => tellK C t (fun _ => a) 0 K
  | none => none
/-- The same, of an argument: an aggregate with its cells written out. -/
def castE {R : Type} (C : Tab) (t : Nat) (a : AV) (K : AV → Option R) : Option R := match isAggT C t with
  | some true => match cellsOf C t a with
    | some _ => castT C t a K
    | none => none
  | _ => castT C t a K
def castTs (C : Tab) (a : AV) : List Nat → Nat → (List AV → Option R) → Option R
  | [], _, K => K []
  | t :: ts, j, K => castT C t (compN a j) fun x => castTs C a ts (j + 1) fun l => K (x :: l)
/-- A call's results, told part by part. -/
def resK (C : Tab) (r : Option AV) (t : Nat) (K : AV → Option R) : Option R := match r with
  | some a => match C.ty t with
    | some (.tuple es) => castTs C a es.toList 0 fun l => K (.tup l)
    | _ => castT C t a K
  | none => none
def resMd (C : Tab) (ro : Bool) : List Nat → List Md
  | [] => []
  | t :: ts => (if C.flat t || ro then .uni .ro else match C.info t, isAggT C t with
      | some (z, _, _), some true => .cells (z.map zOwn)
      | some (z, _, _), _ => .uni (match z with | [.sl _ _] => .own | _ => .ro)
      | _, _ => .uni .ro) :: resMd C ro ts

def resMdT (C : Tab) (ro : Bool) (t : Nat) : Md := match C.ty t with
  | some (.tuple es) => .tup (resMd C ro es.toList)
  | _ => (resMd C ro [t]).getD 0 (.uni .ro)

/-- A number, a bool or a string of type t. -/
def castSc (C : Tab) (t : Nat) (a : AV) (K : AV → Option R) : Option R := match C.ty t with
  | some (.int k) => castI k a fun n => K (.sc (.int k n))
  | some .bool => castB a fun b => K (.sc (.bool b))
  | some .string => castS a fun s => K (.sc (.string s))
  | _ => none
def zeroSc (C : Tab) (t : Nat) : AV := match C.info t with
  | some ([.sc v], _, _) => .sc v
  | _ => .undef
def keyEq : AV → AV → Bool
  | .sc (.int _ a), .sc (.int _ b) => a == b
  | .sc (.bool a), .sc (.bool b) => a == b
  | .sc (.string a), .sc (.string b) => a == b
  | _, _ => false
/-- A map's entries: pairs; what stands under a key. -/
def mget (k : AV) : List AV → Option AV
  | [] => none
  | x :: l => match keyEq k (cellN x 0) with
    | true => some (cellN x 1)
    | false => mget k l
def mset (k v : AV) : List AV → List AV
  | [] => [.agg [k, v]]
  | x :: l => match keyEq k (cellN x 0) with
    | true => .agg [k, v] :: l
    | false => x :: mset k v l
/-- The map that stands at d, of type T. -/
def Fr.map? (fr : Fr) (d T : Nat) : Option (List AV) := match fr.box? d with
  | some [(.mp T' l, .ro)] => if Nat.beq T T' then some l else none
  | _ => none
/-- Where the type has a number, a bool or a string there is one. -/
def plainOk : List AV → List AV → Bool
  | z :: zs, a :: as => (!isPlain z || isSc a) && plainOk zs as
  | _, _ => true
def elemOk (C : Tab) (t : Nat) (a : AV) : Bool := match C.info t, cellsOf C t a with
  | some (z, _, _), some cs => plainOk z cs
  | _, _ => false

def eqNats : List Nat → List Nat → Bool
  | [], [] => true
  | a :: l, b :: m => Nat.beq a b && eqNats l m
  | _, _ => false
def typesOf (C : Tab) (t : Nat) : List Nat := match C.ty t with
  | some (.tuple es) => es.toList
  | _ => [t]
/-- The results of f are what an operation of type t yields. -/
def sameRes (C : Tab) (f t : Nat) : Bool := eqNats (C.res f) (typesOf C t) && (match C.ty t with
  | some (.tuple es) => !(Nat.beq es.toList.length 1)
  | _ => true)
/-- The result of a function value: a number, a bool or a string. -/
def resK1 (C : Tab) (r : Option AV) (t : Nat) (K : AV → Option R) : Option R := match r with
  | some a => match C.ty t with
    | some (.int k) => castI k a fun n => K (.sc (.int k n))
    | some .bool => castB a fun b => K (.sc (.bool b))
    | some .string => castS a fun s => K (.sc (.string s))
    | _ => none
  | none => none
def smallRow (C : Tab) (e n : Nat) : Bool := match sizeC C e with
  | some s => Nat.ble (n * s) 16777216
  | none => false
/-- An aggregate of its cells. -/
def builtK (C : Tab) (T : Nat) (L : List (AV × Own)) (K : AV × Md → Option R) : Option R :=
  if C.flat T then (if L.all (fun x => isSc x.1) then K (.agg (L.map (·.1)), .uni .ro) else none) else K (.agg (L.map (·.1)), .cells (L.map (·.2)))
def rangeB (d off n : Nat) (p : Place) : Bool := p.box && p.n == d && p.c == 0 && Nat.ble off p.j && Nat.blt p.j (off + n)
/-- Cells of a variable are about to be written. -/
def Fr.clearBox (fr : Fr) (d off n : Nat) : Fr := match fr.box? d with
  | some b => if ((b.drop off).take n).any (fun s => s.2.owns) then fr.nix (rangeB d off n) else fr
  | none => fr
def cellM : Md → Bool
  | .uni _ => true
  | .cells _ => true
  | _ => false
/-- An element of its cells. -/
def elemA (C : Tab) (e : Nat) (cs : List AV) : AV := match isAggT C e with
  | some true => .agg cs
  | _ => cs.headD .undef
def flatOk (C : Tab) (T : Nat) (cs : List AV) : Bool := if C.flat T then cs.all isSc else true
def sizeIs (C : Tab) (e n : Nat) : Bool := match sizeC C e with
  | some s => Nat.beq s n
  | none => false
/-- What is appended: its elements are frozen. -/
def appArg (C : Tab) (fr1 : Fr) (e : Nat) (m : Md) : Option (Md × Fr) := match C.flat e with
  | true => some (.uni .ro, fr1)
  | false => match m with
    | .uni (.brw p true) => giv false fr1 (.uni (.brw p true))
    | .uni .ro => some (.uni .ro, fr1)
    | _ => none
/-- A zero element. -/
def zeroA (C : Tab) (e : Nat) : Option AV := match C.info e, isAggT C e with
  | some (z, _, _), some true => some (.agg z)
  | some ([c], _, _), some false => some c
  | _, _ => none
def hasBytes (C : Tab) (t : Nat) : Bool := match C.info t with
  | some (_, _, b) => Nat.blt 0 b
  | none => false
def hasCells (C : Tab) (t : Nat) : Bool := match sizeC C t with
  | some (_ + 1) => true
  | _ => false
def step (C : Tab) (call : Nat → List AV → Option AV) (o : Oper) (fr : Fr) (K : Fr → Option R) : Option R :=
  match o.op with
  | .move x => K (fr.put o.dst (ev C fr o.type x))
  | .assign x => match take fr (ev C fr o.type x).2 with
    | some (m, fr1) => K (fr1.put o.dst ((ev C fr o.type x).1, m))
    | none => none
  | .pick c a b => castB (ev C fr 0 c).1 fun t => match t with
    | true => K (fr.put o.dst (ev C fr 0 a))
    | false => K (fr.put o.dst (ev C fr 0 b))
  | .alloc T => match C.info T, o.dst with
    | some (z, _, _), some d => match fr.box? d with
      | some _ => none
      | none => K ((fr.setBox d (zeroOwn z)).put o.dst (.undef, .loc d 0))
    | _, _ => none
  | .box T x => match take fr (ev C fr T x).2, o.dst with
    | some (m, fr1), some d => match fr1.box? d, cellsOf C T (ev C fr T x).1 with
      | none, some cs => match m with
        | .uni _ => K ((fr1.setBox d (cs.zip (outsT C T m cs))).put o.dst (.undef, .loc d 0))
        | .cells _ => K ((fr1.setBox d (cs.zip (outsT C T m cs))).put o.dst (.undef, .loc d 0))
        | _ => none
      | _, _ => none
    | _, _ => none
  | .build T ps => match C.ty T, C.info T with
    | some (.struct fs), some (z, _, _) => match parts C fr (fun i => match fs[i]? with | some f => some (f.offset, f.type) | none => none) z.length ps.toList with
      | some l => builtK C T (lay (zeroOwn z) l) fun x => K (fr.put o.dst x)
      | none => none
    | some (.array _ e), some (z, _, _) => match sizeC C e with
      | some s => match parts C fr (fun i => some (i * s, e)) z.length ps.toList with
        | some l => builtK C T (lay (zeroOwn z) l) fun x => K (fr.put o.dst x)
        | none => none
      | none => none
    | _, _ => none
  | .buildSlice T n ps => match C.ty T with
    | some (.slice e) =>
      if inOrder 0 ps.toList && Nat.beq ps.toList.length n && hasCells C e && smallRow C e n && ps.toList.all (fun p => elemOk C e (ev C fr e p.2).1) then
        match givs false fr (ps.toList.map fun p => normM C e (ev C fr e p.2).2) with
        | some (_, fr1) => K (fr1.put o.dst (.sl e (ps.toList.map fun p => (ev C fr e p.2).1), .uni .own))
        | none => none
      else none
    | _ => none
  | .load T x => loadK C fr T (ev C fr 0 x) fun y => K (fr.put o.dst y)
  | .store T x v => if o.dst.isSome then none else match cellsOf C T (ev C fr T v).1 with
    | none => none
    | some cs => match (ev C fr 0 x).2 with
      | .loc d off => match take fr (ev C fr T v).2 with
        | some (m, fr1) => match (fr1.clearBox d off cs.length).box? d with
          | some b => if Nat.ble (off + cs.length) b.length && cellM m && !(m.hits (rangeB d off cs.length)) && !(isMapB b) then
              K ((fr1.clearBox d off cs.length).setBox d (putNth b off (cs.zip (outsT C T m cs)))) else none
          | none => none
        | none => none
      | .elem p i off => match giv false fr (normM C T (ev C fr T v).2) with
        | some (_, fr1) => match fr1.ownAt p, fr1.sole p with
          | .own, true => castRef (ev C fr 0 x).1 fun el => if Nat.ble (off + cs.length) el.length then
              castAny (fr1.valAt p) fun e l => if i < l.length then
                  (if elemOk C e (elemA C e (putNth el off cs)) && sizeIs C e el.length && flatOk C T cs then
                    K ((fr1.nix (Place.eqB p)).setVal p (.sl e (l.set i (elemA C e (putNth el off cs))))) else none) else none
              else none
          | _, _ => none
        | none => none
      | _ => none
  | .nilCheck x => match (ev C fr 0 x).2 with
    | .loc d off => K (fr.put o.dst (.undef, .loc d off))
    | .uni w => castRef (ev C fr 0 x).1 fun cs => K (fr.put o.dst (.ref cs, .adr w 0))
    | .adr w off => castRef (ev C fr 0 x).1 fun cs => K (fr.put o.dst (.ref cs, .adr w off))
    | _ => none
  | .binOp op t x y _ => match errBad C t y with
    | true => none
    | false => avBin C op t (ev C fr t x).1 (ev C fr t y).1 fun v => K (fr.put o.dst (.sc v, .uni .ro))
  | .unOp op t x => avUn C op t (ev C fr t x).1 fun v => K (fr.put o.dst (.sc v, .uni .ro))
  | .convert s d x => match C.ty s, C.ty d with
    | some (.int k'), some (.int k) => castI k' (ev C fr s x).1 fun n => K (fr.put o.dst (.sc (.int k (k.wrap n)), .uni .ro))
    | some .string, some (.slice e) => match C.ty e with
      | some (.int .u8) => castS (ev C fr s x).1 fun b => match sizeIs C e 1 && Nat.ble b.size 9223372036854775807 with
        | true => K (fr.put o.dst (.sl e (b.data.toList.map fun c => .sc (.int .u8 c.toNat)), .uni .own))
        | false => none
      | _ => none
    | some (.slice e), some .string => match C.ty e with
      | some (.int .u8) => match sizeIs C e 1 with
        | true => castL e (ev C fr s x).1 fun l => bytesK l fun bs => K (fr.put o.dst (.sc (.string ⟨bs.toArray⟩), .uni .ro))
        | false => none
      | _ => none
    | _, _ => none
  | .makeFunc g first captured => match g, first.toList with
    | .func f, [] => if noShare (C.share f) && captured.toList.all (fun c => match (ev C fr 0 c).2 with | .loc _ _ => true | _ => false) then
        K (fr.put o.dst (.undef, .fn f (captured.toList.map fun c => match (ev C fr 0 c).2 with | .loc d off => (d, off) | _ => (0, 0)))) else none
    | _, _ => none
  | .makeSlice T n m => match C.ty T with
    | some (.slice e) => castI .i64 (ev C fr 0 n).1 fun a => castI .i64 (ev C fr 0 m).1 fun b => match C.info e, zeroA C e with
      | some (_, _, bytes), some zv => if Nat.blt 0 bytes then (if a = b ∧ 0 ≤ a ∧ a.toNat * bytes ≤ maxBytes then K (fr.put o.dst (.sl e (List.replicate a.toNat zv), .uni .own)) else none) else none
      | _, _ => none
    | _ => none
  | .slice T x lo hi mx => match C.ty T, mx with
    | some (.slice e), none => match (ev C fr T x).2 with
      | .uni w => castL e (ev C fr T x).1 fun l => boundK C fr 0 lo fun a => boundK C fr l.length hi fun b =>
          if 0 ≤ a ∧ a ≤ b ∧ b ≤ l.length then K (fr.put o.dst (.sl e ((l.take b.toNat).drop a.toNat), .uni (partOf w))) else none
      | _ => none
    | some .string, none => castS (ev C fr T x).1 fun s => boundK C fr 0 lo fun a => boundK C fr s.size hi fun b =>
          if 0 ≤ a ∧ a ≤ b ∧ b ≤ s.size then K (fr.put o.dst (.sc (.string (s.extract a.toNat b.toNat)), .uni .ro)) else none
    | _, _ => none
  | .fieldAddr T x j => match fieldOf C T j with
    | none => none
    | some (f, ft) => if !(hasCells C ft) then none else match (ev C fr 0 x).2 with
      | .loc d off => K (fr.put o.dst (.undef, .loc d (off + f)))
      | .adr w off => K (fr.put o.dst ((ev C fr 0 x).1, .adr w (off + f)))
      | .elem p i off => K (fr.put o.dst ((ev C fr 0 x).1, .elem p i (off + f)))
      | .uni w => castRef (ev C fr 0 x).1 fun cs => K (fr.put o.dst (.ref cs, .adr w f))
      | _ => none
  | .field T x j => match fieldOf C T j with
    | none => none
    | some (f, ft) => match (ev C fr T x).2 with
      | .uni w => match (ev C fr T x).1 with
        | .agg l => if upTo C ft f l.length then tellK C ft (cellN (ev C fr T x).1) f fun a => K (fr.put o.dst (a, normM C ft (.uni w))) else none
        | _ => none
      | .cells l => if upTo C ft f l.length then tellK C ft (cellN (ev C fr T x).1) f fun a => K (fr.put o.dst (a, mdOf C ft (fun j => l.getD j .ro) f)) else none
      | _ => none
  | .indexAddr T x ix => match C.ty T with
    | some (.slice e) => castI .i64 (ev C fr 0 ix).1 fun n => castL e (ev C fr T x).1 fun l => match (ev C fr T x).2 with
      | .uni w => if 0 ≤ n then match l[n.toNat]? with
          | some el => match cellsAt C e el with
            | some cs => K (fr.put o.dst (.ref cs, match w with | .brw p true => .elem p n.toNat 0 | w => .adr w 0))
            | none => none
          | none => none
        else none
      | _ => none
    | some (.array len e) => castI .i64 (ev C fr 0 ix).1 fun n => match sizeC C e with
      | some s => if 0 ≤ n ∧ n < len then match (ev C fr 0 x).2 with
          | .loc d off => K (fr.put o.dst (.undef, .loc d (off + n.toNat * s)))
          | .adr w off => K (fr.put o.dst ((ev C fr 0 x).1, .adr w (off + n.toNat * s)))
          | .elem p i off => K (fr.put o.dst ((ev C fr 0 x).1, .elem p i (off + n.toNat * s)))
          | _ => none
        else none
      | none => none
    | _ => none
  | .index T x ix => match C.ty T with
    | some .string => castS (ev C fr T x).1 fun s => castI .i64 (ev C fr 0 ix).1 fun n => if 0 ≤ n then match s[n.toNat]? with
        | some b => K (fr.put o.dst (.sc (.int .u8 b.toNat), .uni .ro))
        | none => none
      else none
    | _ => none
  | .extract x j => match x with
    | .tmp t => match (ev C fr 0 (.tmp t)).2 with
      | .tup l => match l[j]? with
        | some m => K (fr.put o.dst (compN (fr.getS t).1 j, m))
        | none => none
      | _ => none
    | _ => none
  | .call c => match c.callee, c.args.toList, c.argTypes.toList with
    | .builtin .len, [x], [t] => match C.ty t with
      | some (.slice e) => castL e (ev C fr t x).1 fun l => K (fr.put o.dst (.sc (.int .i64 l.length), .uni .ro))
      | some .string => castS (ev C fr t x).1 fun s => K (fr.put o.dst (.sc (.int .i64 s.size), .uni .ro))
      | _ => none
    | .builtin .min, [x, y], [t, _] => match C.ty t with
      | some (.int k) => castI k (ev C fr t x).1 fun a => castI k (ev C fr t y).1 fun b => K (fr.put o.dst (.sc (.int k (minI a b)), .uni .ro))
      | _ => none
    | .builtin .max, [x, y], [t, _] => match C.ty t with
      | some (.int k) => castI k (ev C fr t x).1 fun a => castI k (ev C fr t y).1 fun b => K (fr.put o.dst (.sc (.int k (maxI a b)), .uni .ro))
      | _ => none
    | .builtin .append, [x, y], [tx, tyy] => match C.ty tx, C.ty tyy with
      | some (.slice e), some (.slice _) => if !(Nat.beq tx tyy && hasCells C e && hasBytes C e) then none else match take fr (ev C fr tx x).2, C.info e with
        | some (.uni .own, fr1), some (_, _, bytes) => match appArg C fr1 e (ev C fr1 tyy y).2 with
          | some (_, fr2) => castL e (ev C fr tx x).1 fun l => castL e (ev C fr1 tyy y).1 fun m =>
            if (l.length + m.length) * bytes ≤ maxBytes then K (fr2.put o.dst (.sl e (l ++ m), .uni .own)) else none
          | none => none
        | _, _ => none
      | _, _ => none
    | .value (.func f), xs, ts => if sameRes C f o.type && argsFine C fr xs ts then (match shareArgs C fr (C.share f) xs ts with
      | some fr1 => resK C (call f (argsOf C fr xs ts)) o.type fun a => K (fr1.put o.dst (a, resMdT C (C.roF f) o.type))
      | none => none) else none
    | .value (.tmp t), xs, ts => if argsFine C fr xs ts then (match (ev C fr 0 (.tmp t)).2 with
      | .fn f caps => if sameRes C f o.type && noShare (C.share f) then resK C (call f (argsOf C fr xs ts ++ caps.map (lendBox fr))) o.type fun a => K (fr.put o.dst (a, resMdT C (C.roF f) o.type)) else none
      | .uni _ => castFn (fr.getS t).1 fun f caps => resK1 C (call f (argsOf C fr xs ts ++ caps)) o.type fun a => K (fr.put o.dst (a, .uni .ro))
      | _ => none) else none
    | _, _, _ => none
  | .makeMap T n => match n, C.ty T, o.dst with
    | none, some (.map _ _), some d => match fr.box? d with
      | some _ => none
      | none => K ((fr.setBox d [(.mp T [], .ro)]).put o.dst (.undef, .mapAt d))
    | _, _, _ => none
  | .mapUpdate T m k v => if o.dst.isSome then none else match C.ty T, (ev C fr 0 m).2 with
    | some (.map kt vt), .mapAt d => match fr.map? d T with
      | some l => castSc C kt (ev C fr kt k).1 fun a => castSc C vt (ev C fr vt v).1 fun b => K (fr.setBox d [(.mp T (mset a b l), .ro)])
      | none => none
    | _, _ => none
  | .lookup T m k cok => match C.ty T, (ev C fr 0 m).2 with
    | some (.map kt vt), .mapAt d => match fr.map? d T with
      | some l => castSc C kt (ev C fr kt k).1 fun a => castSc C vt ((mget a l).getD (zeroSc C vt)) fun y => match cok with
        | true => K (fr.put o.dst (.tup [y, .sc (.bool (mget a l).isSome)], .tup [.uni .ro, .uni .ro]))
        | false => K (fr.put o.dst (y, .uni .ro))
      | none => none
    | _, _ => none
  | _ => none

/-- Operations that do nothing but yield a value. -/
def quietOp : Op → Bool
  | .move _ => true
  | .assign _ => true
  | .pick _ _ _ => true
  | .build _ _ => true
  | .load _ _ => true
  | .nilCheck _ => true
  | .binOp _ _ _ _ _ => true
  | .unOp _ _ _ => true
  | .convert _ _ _ => true
  | .makeFunc _ _ _ => true
  | .slice _ _ _ _ _ => true
  | .fieldAddr _ _ _ => true
  | .field _ _ _ => true
  | .indexAddr _ _ _ => true
  | .index _ _ _ => true
  | .extract _ _ => true
  | .lookup _ _ _ _ => true
  | .call c => match c.callee with
    | .builtin .len => true
    | .builtin .min => true
    | .builtin .max => true
    | _ => false
  | _ => false
/-- An address within a row that someone owns. -/
def partM : Md → Bool
  | .adr (.brw _ _) _ => true
  | .uni (.brw _ _) => true
  | _ => false
def loadOk (C : Tab) (fr : Fr) (o : Oper) : Bool := match o.op with
  | .load _ x => !(partM (ev C fr 0 x).2)
  | .convert s _ _ => match C.ty s with
    | some (.int _) => true
    | _ => false
  | _ => true
def Fr.know (fr : Fr) (d : Nat) (b : Bool) : Fr := fr.setS d (.sc (.bool b), (fr.getS d).2)
def wantedK (ops : Array Oper) (fr : Fr) (o : Oper) (K : Fr → Bool → Option R) : Option R :=
  match o.guard with
  | none => K fr true
  | some (j, want) => match (ops[j]?).bind (·.dst) with
    | none => none
    | some d => match (fr.getS d).2 with
      | .tup [] => K fr false
      | _ => castB (fr.getS d).1 fun b => match b with
        | true => K (fr.know d true) want
        | false => K (fr.know d false) (!want)
/-- What stands where nothing was done. -/
def skip1 : AV × Md := (.tup [], .tup [])

def runOps (C : Tab) (call : Nat → List AV → Option AV) (ops : Array Oper) : List Oper → Fr → (Fr → Option R) → Option R
  | [], fr, K => K fr
  | o :: rest, fr, K => wantedK ops fr o fun fr b => match b with
    | true => step C call o fr fun fr1 => runOps C call ops rest fr1 K
    | false => runOps C call ops rest (fr.put o.dst skip1) K

def memN (n : Nat) : List Nat → Bool
  | [] => false
  | m :: l => m == n || memN n l
def isNone1 : AV × Md → Bool
  | (.undef, .unk) => true
  | _ => false
/-- The operation yields a new block. -/
def isAlloc : Op → Bool
  | .alloc _ => true
  | .buildSlice _ _ _ => true
  | .makeSlice _ _ _ => true
  | _ => false
def dstDead (fr : Fr) (o : Oper) : Bool := match o.dst with
  | some d => isNone1 (fr.getS d) && Nat.blt d fr.slots.length
  | none => false
/-- A new block could be made now. -/
def preOk (C : Tab) (fr : Fr) (o : Oper) : Bool := match o.op with
  | .alloc T => match C.info T with
    | some _ => true
    | none => false
  | .buildSlice T n ps => match C.ty T with
    | some (.slice e) => inOrder 0 ps.toList && Nat.beq ps.toList.length n && hasCells C e && smallRow C e n && ps.toList.all (fun p => elemOk C e (ev C fr e p.2).1 && (C.flat e || cellM (ev C fr e p.2).2))
    | _ => false
  | .makeSlice T n m => match C.ty T with
    | some (.slice e) => match castI .i64 (ev C fr 0 n).1 (fun a => castI .i64 (ev C fr 0 m).1 fun b => match C.info e, zeroA C e with
        | some (_, _, bytes), some _ => if Nat.blt 0 bytes then some (decide (a = b ∧ 0 ≤ a ∧ a.toNat * bytes ≤ maxBytes)) else none
        | _, _ => none) with
      | some b => b
      | none => false
    | _ => false
  | _ => false
def runPlan (C : Tab) (call : Nat → List AV → Option AV) (ops : Array Oper) : List (Nat × PK) → Fr → (Fr → Option R) → Option R
  | [], fr, K => K fr
  | (i, k) :: rest, fr, K => match ops[i]? with
    | none => none
    | some o => match k with
      | .pre => if dstDead fr o then wantedK ops fr o (fun fr b => match b with
          | true => if preOk C fr o then runPlan C call ops rest fr K else none
          | false => runPlan C call ops rest fr K) else none
      | _ => wantedK ops fr o fun fr b => match b with
          | true => if loadOk C fr o then step C call o fr (fun fr1 => runPlan C call ops rest fr1 K) else none
          | false => runPlan C call ops rest (fr.put o.dst none1) K

def bnd (o : Oper) : List Nat := (o.after.toList.filter (Region.binds .any)).map (·.on)
def isStore : Op → Bool
  | .store _ _ _ => true
  | .mapUpdate _ _ _ _ => true
  | _ => false
def isLoad : Op → Bool
  | .load _ _ => true
  | .lookup _ _ _ _ => true
  | _ => false
/-- Of the rest, what waits for one of B. -/
def waits (ops : Array Oper) : List Nat → List (Nat × PK) → List Nat
  | B, [] => B
  | B, (j, k) :: rest => match ops[j]? with
    | none => waits ops B rest
    | some o => if !k.isPre && (bnd o).any (fun e => memN e B) then waits ops (j :: B) rest else waits ops B rest
def stores (ops : Array Oper) : List (Nat × PK) → List Nat
  | [] => []
  | (j, _) :: rest => match ops[j]? with
    | none => stores ops rest
    | some o => if isStore o.op then j :: stores ops rest else stores ops rest
def hasNorm (e : Nat) : List (Nat × PK) → Bool
  | [] => false
  | (j, k) :: rest => (match k with
    | .norm => j == e
    | _ => false) || hasNorm e rest
/-- No operation of the rest may come up before i, but new blocks whose time has begun. -/
def blocked (ops : Array Oper) (i : Nat) (all : List (Nat × PK)) : List (Nat × PK) → Bool
  | [] => true
  | (j, k) :: rest => (match k with
    | .late => true
    | _ => match ops[j]? with
      | none => false
      | some o => (bnd o).any fun e => e == i || hasNorm e all) && blocked ops i all rest
def apartAll (ops : Array Oper) (i : Nat) (oi : Oper) : List (Nat × PK) → Bool
  | [] => true
  | (j, k) :: rest => (k.isPre || j == i || (match ops[j]? with
    | none => false
    | some o => memN i (bnd o) || oi.apart ops o)) && apartAll ops i oi rest
def selfOk (ops : Array Oper) (o : Oper) : Bool := match o.dst with
  | some d => !((o.looksAt ops).contains d)
  | none => false
def hasLate (i : Nat) : List (Nat × PK) → Bool
  | [] => false
  | (j, k) :: rest => (match k with
    | .late => j == i
    | _ => false) || hasLate i rest
def planGo (ops : Array Oper) : List Nat → List Nat → List (Nat × PK) → Bool
  | _, _, [] => true
  | done, pres, (i, k) :: rest => match ops[i]? with
    | none => false
    | some o => (bnd o).all (fun e => memN e done) && !memN i done && (match k with
      | .norm => !memN i pres && (if quietOp o.op then apartAll ops i o rest && (!isLoad o.op || (stores ops rest).all (fun j => memN j (waits ops [i] rest))) else blocked ops i rest rest) && planGo ops (i :: done) pres rest
      | .pre => isAlloc o.op && !memN i pres && hasLate i rest && apartAll ops i o rest && selfOk ops o && planGo ops done (i :: pres) rest
      | .late => isAlloc o.op && memN i pres && blocked ops i rest rest && planGo ops (i :: done) pres rest)
/-- Each operation has its turn. -/
def covers (l : List (Nat × PK)) : Nat → Bool
  | 0 => true
  | n + 1 => (hasNorm n l || hasLate n l) && covers l n
def turns : List (Nat × PK) → Nat
  | [] => 0
  | (_, k) :: rest => (match k with
    | .pre => 0
    | _ => 1) + turns rest
def planOk (ops : Array Oper) (l : List (Nat × PK)) : Bool := Region.noSelect ops && covers l ops.size && Nat.beq (turns l) ops.size && planGo ops [] [] l

def firstRegion : Code → Nat
  | .region id _ _ => id
  | .seq a _ => firstRegion a
  | .block _ b => firstRegion b
  | .loop b => firstRegion b
  | _ => 0
def Md.inside (keep : List Nat) : Md → Bool
  | .loc d _ => memN d keep
  | .fn _ caps => caps.all fun c => memN c.1 keep
  | .mapAt d => memN d keep
  | _ => true
def keepSlots (keep : List Nat) : Nat → List (AV × Md) → List (AV × Md)
  | _, [] => []
  | n, s :: l => (if memN n keep && s.2.inside keep then s else none1) :: keepSlots keep (n + 1) l
def Fr.forget (fr : Fr) (keep : List Nat) : Fr := { slots := keepSlots keep 0 fr.slots, boxes := fr.boxes.filter fun b => memN b.1 keep }
def Fr.restrict (fr : Fr) (keep : List Nat) : Fr := (fr.nix fun p => !memN p.n keep).forget keep
def Fr.cut (fr : Fr) (keep : Option (List Nat)) : Fr := match keep with
  | some l => fr.restrict l
  | none => fr

def loopN (body : Fr → (Fr → Option R) → Option R) (keep : Option (List Nat)) : Nat → Fr → Option R
  | 0, _ => none
  | k + 1, fr => body fr fun fr1 => loopN body keep k (fr1.cut keep)

def plainCell : AV × Own → Bool
  | (.sc (.int .i64 _), .ro) => true
  | _ => false
def isLoc (d : Nat) : Md → Bool
  | .loc d' 0 => Nat.beq d' d
  | _ => false
def killSlots (fr : Fr) : List Nat → Fr
  | [] => fr
  | d :: l => killSlots (fr.put (some d) none1) l
def copyK (c : CopyR) (fr : Fr) (K : Fr → Option R) : Option R :=
  match fr.box? c.x, fr.box? c.y with
  | some bx, some bY => if (!(isMapB bx) && !(isMapB bY)) && Nat.beq fr.slots.length c.m && (isLoc c.x (fr.getS c.x).2 && (isLoc c.y (fr.getS c.y).2 && (!(Nat.beq c.x c.y) && (Nat.ble (c.off + c.n) bx.length && (Nat.ble (c.off + c.n) bY.length && (((bx.drop c.off).take c.n).all plainCell && ((bY.drop c.off).take c.n).all plainCell)))))) then
      K (killSlots (fr.setBox c.y (putNth bY c.off ((bx.drop c.off).take c.n))) c.dsts) else none
  | _, _ => none
def exec (C : Tab) (call : Nat → List AV → Option AV) (f k : Nat) : Code → Fr → (Fr → Option R) → (Nat → Fr → Option R) → (Fr → Option R) → Option R
  | .skip, fr, Kn, _, _ => Kn fr
  | .label _, fr, Kn, _, _ => Kn fr
  | .region id ops d, fr, Kn, _, _ => match d with
    | true => match C.copy f id with
      | some c => copyK c fr Kn
      | none => match C.plan f id with
        | some l => runPlan C call ops l fr Kn
        | none => none
    | false => runOps C call ops ops.toList fr Kn
  | .seq a b, fr, Kn, Kx, Kr => exec C call f k a fr (fun fr1 => exec C call f k b fr1 Kn Kx Kr) Kx Kr
  | .cond c x y, fr, Kn, Kx, Kr => castB (ev C fr 0 c).1 fun t => match t with
    | true => exec C call f k x fr Kn Kx Kr
    | false => exec C call f k y fr Kn Kx Kr
  | .block id b, fr, Kn, Kx, Kr => exec C call f k b fr Kn (fun i fr1 => if i = id then Kn fr1 else Kx i fr1) Kr
  | .loop b, fr, _, Kx, Kr => loopN (fun fr1 K => exec C call f k b fr1 K Kx Kr) (C.keep f (firstRegion b)) k (fr.cut (C.keep f (firstRegion b)))
  | .exit id, fr, _, Kx, _ => Kx id fr
  | .ret, fr, _, _, Kr => Kr fr
  | _, _, _, _, _ => none

def hasLoop (id : Nat) : Code → Bool
  | .seq a b => hasLoop id a || hasLoop id b
  | .cond _ x y => hasLoop id x || hasLoop id y
  | .block _ b => hasLoop id b
  | .loop b => firstRegion b == id || hasLoop id b
  | _ => false
/-- The round of the loop that begins with region id, out of the code around it; outs: what follows a round of a loop around it. -/
def atLoop (C : Tab) (call : Nat → List AV → Option AV) (f k id : Nat) (outs : Nat → Fr → Option R) : Code → (Fr → Option R) → (Nat → Fr → Option R) → (Fr → Option R) → Fr → (Fr → Option R) → Option R
  | .seq a b, Kn, Kx, Kr => if hasLoop id a then atLoop C call f k id outs a (fun fr1 => exec C call f k b fr1 Kn Kx Kr) Kx Kr else atLoop C call f k id outs b Kn Kx Kr
  | .cond _ x y, Kn, Kx, Kr => if hasLoop id x then atLoop C call f k id outs x Kn Kx Kr else atLoop C call f k id outs y Kn Kx Kr
  | .block bid b, Kn, Kx, Kr => atLoop C call f k id outs b Kn (fun i fr1 => if i = bid then Kn fr1 else Kx i fr1) Kr
  | .loop b, _, Kx, Kr => if firstRegion b = id then (fun fr1 K => exec C call f k b fr1 K Kx Kr) else atLoop C call f k id outs b (fun fr1 => outs (firstRegion b) (fr1.cut (C.keep f (firstRegion b)))) Kx Kr
  | _, _, _, _ => fun _ _ => none
end

/-- A variable whose address is handed back: its rows are frozen, and it is written no more. -/
def sealOk (cs : List (AV × Own)) : Bool := cs.all fun x => match x with
  | (.mp _ _, _) => false
  | (_, .own) => true
  | (_, .ro) => true
  | _ => false
def Fr.freezeN (fr : Fr) (d : Nat) : Nat → Fr
  | 0 => fr
  | j + 1 => (fr.freezeN d j).freeze ⟨true, d, 0, j⟩
def butN (d : Nat) : Nat → List Nat
  | 0 => []
  | n + 1 => if Nat.beq n d then butN d n else n :: butN d n
def Fr.sealS (fr : Fr) (t : Nat) : Fr := match (fr.getS t).2 with
  | .loc d 0 => match fr.box? d with
    | some cs => match sealOk cs && Nat.blt t fr.slots.length with
      | true => ((fr.freezeN d cs.length).restrict (butN d fr.slots.length)).setS t (.ref (cs.map (·.1)), .uni .ro)
      | false => fr
    | none => fr
  | _ => fr
def Fr.sealRs (fr : Fr) : List ResultVar → Fr
  | [] => fr
  | r :: rs => match r with
    | .tmp t => (fr.sealS t).sealRs rs
    | _ => fr.sealRs rs
/-- The results, and their marks. -/
def resultsK {R : Type} (C : Tab) (fr : Fr) (K : List (AV × Md) → Fr → Option R) : List ResultVar → Option R
  | [] => K [] fr
  | r :: rs => match r with
    | .tmp t => resultsK C fr (fun l fr1 => K ((ev C fr 0 (.tmp t)) :: l) fr1) rs
    | .cell t T => loadK C fr T (ev C fr 0 (.tmp t)) fun y => resultsK C fr (fun l fr1 => K (y :: l) fr1) rs
/-- Each slice that is handed back is a row of its own. -/
def fitsOwn (C : Tab) (ro : Bool) : List Nat → List Md → Bool
  | t :: ts, m :: ms => (C.flat t || ro || (match C.info t with
      | some (z, _, _) => (List.range z.length).all fun j => match z.getD j .undef with | .sl _ _ => (m.at j).owns | _ => true
      | none => false)) && fitsOwn C ro ts ms
  | [], [] => true
  | _, _ => false

def castRes {R : Type} (C : Tab) : List (AV × Md) → List Nat → (List AV → Option R) → Option R
  | x :: xs, t :: ts, K => castE C t x.1 fun a => castRes C xs ts fun l => K (a :: l)
  | [], [], K => K []
  | _, _, _ => none
def doneK (C : Tab) (ro : Bool) (fn : Func) (fr : Fr) : Option AV :=
  resultsK C (fr.sealRs fn.results.toList) (fun rs fr1 => castRes C rs fn.resultTypes.toList fun as => match givs (!ro) fr1 ((rs.zip fn.resultTypes.toList).map fun r => normM C r.2 r.1.2) with
    | some (ms, _) => if fitsOwn C ro fn.resultTypes.toList ms then some (match as with | [a] => a | l => .tup l) else none
    | none => none) fn.results.toList
def bodyOf (fn : Func) : Code := match fn.body with
  | some c => c
  | none => .refuse ""

def argO : List Bool → Own
  | true :: _ => .ro
  | _ => .lent
/-- The arguments, told by the parameters' types; behind them what the function has captured. -/
def entryK {R : Type} (C : Tab) : List Bool → List Nat → List AV → (List (AV × Md) → Option R) → Option R
  | bs, t :: ts, a :: as, K => match C.info t with
    | some _ => castE C t a fun x => entryK C bs.tail ts as fun l => K ((x, normM C t (.uni (argO bs))) :: l)
    | none => entryK C bs.tail ts as fun l => K ((a, .uni .lent) :: l)
  | _, [], as, K => K (as.map fun a => (a, .uni .lent))
  | _, _, [], _ => none

def run (C : Tab) : Nat → Nat → List AV → Option AV
  | 0, _, _ => none
  | k + 1, f, args => match C.ext f with
    | some g => g args
    | none => match C.fn f with
      | none => none
      | some fn => entryK C (C.share f) fn.params.toList args fun l =>
        exec C (run C k) f k (bodyOf fn) { slots := l ++ List.replicate (fn.ntmps - l.length) none1, boxes := [] } (doneK C (C.roF f) fn) (fun _ _ => none) (doneK C (C.roF f) fn)

end Go.Dam
