
/-
  The evaluator: what an operation, a region, a body and a call yield over values with block numbers of their own. Closures are made once for each operation.
-/
import Derived.Test.YtlficnfkekggjaaGreatDoorEvA
namespace Go.Ev
section
variable {R : Type}
/-! words -/
def kindN : IntKind → Nat
  | .i8 => 0 | .i16 => 1 | .i32 => 2 | .i64 => 3 | .u8 => 4 | .u16 => 5 | .u32 => 6 | .u64 => 7
def kindK : Nat → IntKind
  | 0 => .i8 | 1 => .i16 | 2 => .i32 | 3 => .i64 | 4 => .u8 | 5 => .u16 | 6 => .u32 | _ => .u64
def maxN : IntKind → Nat
  | .i8 => 127 | .i16 => 32767 | .i32 => 2147483647 | .i64 => 9223372036854775807
  | .u8 => 255 | .u16 => 65535 | .u32 => 4294967295 | .u64 => 18446744073709551615
/-- what an unsigned kind is taken modulo; 0: a signed one -/
def modN : IntKind → Nat
  | .u8 => 256 | .u16 => 65536 | .u32 => 4294967296 | .u64 => 18446744073709551616 | _ => 0
noncomputable def onI (v : V) (k : Nat → Nat → Option R) : Option R :=
  @V.rec (fun _ => Option R) (fun _ => Option R) k (fun _ _ => none) (fun _ => none) (fun _ _ => none) (fun _ _ => none) none (fun _ _ _ _ => none) (fun _ _ _ => none) none (fun _ => none) none (fun _ _ _ => none) none none (fun _ _ => none) (fun _ _ => none) none none (fun _ _ _ _ => none) v
noncomputable def onP (v : V) (k : Nat → Nat → Option R) : Option R :=
  @V.rec (fun _ => Option R) (fun _ => Option R) (fun _ _ => none) k (fun _ => none) (fun _ _ => none) (fun _ _ => none) none (fun _ _ _ _ => none) (fun _ _ _ => none) none (fun _ => none) none (fun _ _ _ => none) none none (fun _ _ => none) (fun _ _ => none) none none (fun _ _ _ _ => none) v
noncomputable def onB (v : V) (k : Bool → Option R) : Option R :=
  @V.rec (fun _ => Option R) (fun _ => Option R) (fun _ _ => none) (fun _ _ => none) k (fun _ _ => none) (fun _ _ => none) none (fun _ _ _ _ => none) (fun _ _ _ => none) none (fun _ => none) none (fun _ _ _ => none) none none (fun _ _ => none) (fun _ _ => none) none none (fun _ _ _ _ => none) v
noncomputable def onIG (v : V) (k l : Nat → Nat → Option R) : Option R :=
  @V.rec (fun _ => Option R) (fun _ => Option R) k (fun _ _ => none) (fun _ => none) (fun _ _ => none) l none (fun _ _ _ _ => none) (fun _ _ _ => none) none (fun _ => none) none (fun _ _ _ => none) none none (fun _ _ => none) (fun _ _ => none) none none (fun _ _ _ _ => none) v
noncomputable def onS (v : V) (k : Nat → List Nat → Option R) : Option R :=
  @V.rec (fun _ => Option R) (fun _ => Option R) (fun _ _ => none) (fun _ _ => none) (fun _ => none) k (fun _ _ => none) none (fun _ _ _ _ => none) (fun _ _ _ => none) none (fun _ => none) none (fun _ _ _ => none) none none (fun _ _ => none) (fun _ _ => none) none none (fun _ _ _ _ => none) v
/-- slices: of a known capacity, of an open one, nil -/
noncomputable def onL (v : V) (ksl : Nat → Nat → Nat → Nat → Option R) (kso : Nat → Nat → Nat → Option R) (ksn : Option R) : Option R :=
  @V.rec (fun _ => Option R) (fun _ => Option R) (fun _ _ => none) (fun _ _ => none) (fun _ => none) (fun _ _ => none) (fun _ _ => none) none ksl kso ksn (fun _ => none) none (fun _ _ _ => none) none none (fun _ _ => none) (fun _ _ => none) none none (fun _ _ _ _ => none) v
/-- does a slot hold the wanted Bool -/
noncomputable def onG (v : V) (want : Bool) (yes no : Option R) : Option R :=
  @V.rec (fun _ => Option R) (fun _ => Option R) (fun _ _ => no) (fun _ _ => no) (fun x => @Bool.rec (fun _ => Option R) (@Bool.rec (fun _ => Option R) yes no want) (@Bool.rec (fun _ => Option R) no yes want) x) (fun _ _ => no) (fun _ _ => no) no (fun _ _ _ _ => no) (fun _ _ _ => no) no (fun _ => no) no (fun _ _ _ => no) no no (fun _ _ => no) (fun _ _ => no) none none (fun _ _ _ _ => none) v
def toI : V → Option Int
  | .vi _ n => some (Int.ofNat n)
  | .vg _ n => some (Int.negSucc n)
  | _ => none
def ofI (k : IntKind) (n : Int) : V := match k.wrap n with
  | .ofNat n => .vi (kindN k) n
  | .negSucc n => .vg (kindN k) n
/-- the slow road: any two numbers -/
def slowI (op : BinOp) (k : IntKind) (a b : Int) : Option V :=
  match op with
  | .add => some (ofI k (a + b))
  | .sub => some (ofI k (a - b))
  | .mul => some (ofI k (a * b))
  | .eql => some (.vb (a == b))
  | .neq => some (.vb (a != b))
  | .lss => some (.vb (decide (a < b)))
  | .leq => some (.vb (decide (a ≤ b)))
  | .gtr => some (.vb (decide (a > b)))
  | .geq => some (.vb (decide (a ≥ b)))
  | _ => none
noncomputable def bF (b : Bool) (k : V → Option R) : Option R := @Bool.rec (fun _ => Option R) (k (.vb false)) (k (.vb true)) b
noncomputable def outV (v : Option V) (k : V → Option R) : Option R := match v with
  | some (.vi kd n) => natF kd fun kd => natF n fun n => k (.vi kd n)
  | some (.vg kd n) => natF kd fun kd => natF n fun n => k (.vg kd n)
  | some (.vb x) => bF x k
  | _ => none
noncomputable def slowB (op : BinOp) (kd : IntKind) (x y : V) (k : V → Option R) : Option R :=
  match toI x, toI y with
  | some a, some b => outV (slowI op kd a b) k
  | _, _ => none
/-- two numbers of the kind K that are not negative: fast; else slowly -/
noncomputable def two (op : BinOp) (kd : IntKind) (K : Nat) (fast : Nat → Nat → Option R) (x y : V) (k : V → Option R) : Option R :=
  onIG x (fun ka a => iff (Nat.beq ka K) (onIG y (fun kb b => iff (Nat.beq kb K) (fast a b) none) (fun kb _ => iff (Nat.beq kb K) (slowB op kd x y k) none)) none)
    (fun ka _ => iff (Nat.beq ka K) (onIG y (fun kb _ => iff (Nat.beq kb K) (slowB op kd x y k) none) (fun kb _ => iff (Nat.beq kb K) (slowB op kd x y k) none)) none)
/-! strings -/
noncomputable def leqL (a : List Nat) : List Nat → Bool := @List.rec _ (fun _ => List Nat → Bool) (fun b => @List.rec _ (fun _ => Bool) true (fun _ _ _ => false) b) (fun x _ ih b => @List.rec _ (fun _ => Bool) false (fun y r _ => @Bool.rec (fun _ => Bool) false (ih r) (Nat.beq x y)) b) a
noncomputable def lltL (a : List Nat) : List Nat → Bool := @List.rec _ (fun _ => List Nat → Bool) (fun b => @List.rec _ (fun _ => Bool) false (fun _ _ _ => true) b) (fun x _ ih b => @List.rec _ (fun _ => Bool) false (fun y r _ => @Bool.rec (fun _ => Bool) (Nat.blt x y) (ih r) (Nat.beq x y)) b) a
noncomputable def eqS (n : Nat) (a : List Nat) (m : Nat) (b : List Nat) : Bool := @Bool.rec (fun _ => Bool) false (leqL a b) (Nat.beq n m)
noncomputable def appL (a b : List Nat) (k : List Nat → Option R) : Option R := @List.rec _ (fun _ => (List Nat → Option R) → Option R) (fun k => k b) (fun x _ ih k => ih fun r => k (x :: r)) a k
noncomputable def atL (l : List Nat) (i : Nat) (k : Nat → Option R) : Option R := @List.rec _ (fun _ => Nat → Option R) (fun _ => none) (fun x _ ih i => @Nat.rec (fun _ => Option R) (k x) (fun j _ => ih j) i) l i
/-- how two values of a type are compared or joined -/
structure BinC (R : Type) where
  run : V → V → (V → Option R) → Option R
noncomputable def strC (op : BinOp) : BinC R :=
  match op with
  | .add => ⟨fun x y k => onS x fun n a => onS y fun m b => natF (Nat.add n m) fun nm => iff (Nat.ble nm 1000000) (appL a b fun l => k (.vs nm l)) none⟩
  | .eql => ⟨fun x y k => onS x fun n a => onS y fun m b => bF (eqS n a m b) k⟩
  | .neq => ⟨fun x y k => onS x fun n a => onS y fun m b => bF (not (eqS n a m b)) k⟩
  | .lss => ⟨fun x y k => onS x fun _ a => onS y fun _ b => bF (lltL a b) k⟩
  | _ => ⟨fun _ _ _ => none⟩
/-- the kinds of a struct's parts that are followed -/
inductive FK where
  | int | str | bool
/-- equality of structs whose parts are numbers, strings and Bools -/
noncomputable def eqs : List FK → List V → List V → (Bool → Option R) → Option R
  | [], [], [], k => k true
  | .str :: z, .vs n a :: r, .vs m b :: t, k => iff (eqS n a m b) (eqs z r t k) (k false)
  | .bool :: z, .vb a :: r, .vb b :: t, k => iff (a == b) (eqs z r t k) (k false)
  | .int :: z, .vi kd a :: r, .vi kd' b :: t, k => iff (Nat.beq kd kd') (iff (Nat.beq a b) (eqs z r t k) (k false)) none
  | _, _, _, _ => none
/-- equality of Bools, pointers, slices and maps -/
noncomputable def eqB (x y : V) (k : Bool → Option R) : Option R := onB x fun a => onB y fun b => k (a == b)
noncomputable def eqP (x y : V) (k : Bool → Option R) : Option R := match x, y with
  | .pn, .pn => k true
  | .pn, .vp _ _ => k false
  | .vp _ _, .pn => k false
  | .vp a o, .vp b q => iff (Nat.beq a b) (k (Nat.beq o q)) none
  | _, _ => none
noncomputable def eqL (x y : V) (k : Bool → Option R) : Option R := match y with
  | .sn => onL x (fun _ _ _ _ => k false) (fun _ _ _ => k false) (k true)
  | _ => none
noncomputable def eqM (x y : V) (k : Bool → Option R) : Option R := match x, y with
  | .mn, .mn => k true
  | .vm _, .mn => k false
  | _, _ => none
structure EqC (R : Type) where
  run : V → V → (Bool → Option R) → Option R
noncomputable def eqT (P : Program) (d : TypeDesc) : EqC R := match d with
  | .bool => ⟨eqB⟩
  | .pointer e => match P.cellsOf e with | 0 => ⟨fun _ _ _ => none⟩ | _ => ⟨eqP⟩
  | .slice _ => ⟨eqL⟩
  | .map _ _ => ⟨eqM⟩
  | _ => ⟨fun _ _ _ => none⟩
noncomputable def intC (op : BinOp) (kd : IntKind) : BinC R := natC (kindN kd) fun K => natC (maxN kd) fun M => natC (modN kd) fun W =>
  match op with
  | .add => ⟨fun x y k => two .add kd K (fun a b => natF (Nat.add a b) fun c => iff (Nat.ble c M) (k (.vi K c)) (iff (Nat.beq W 0) none (natF (Nat.mod c W) fun c => k (.vi K c)))) x y k⟩
  | .sub => ⟨fun x y k => two .sub kd K (fun a b => iff (Nat.ble b a) (natF (Nat.sub a b) fun n => iff (Nat.ble n M) (k (.vi K n)) none) (slowB .sub kd x y k)) x y k⟩
  | .mul => ⟨fun x y k => two .mul kd K (fun a b => natF (Nat.mul a b) fun c => iff (Nat.ble c M) (k (.vi K c)) (iff (Nat.beq W 0) none (natF (Nat.mod c W) fun c => k (.vi K c)))) x y k⟩
  | .quo => ⟨fun x y k => onI x fun ka a => onI y fun kb b => iff (Nat.beq ka K) (iff (Nat.beq kb K) (iff (Nat.beq b 0) none (natF (Nat.div a b) fun n => iff (Nat.ble n M) (k (.vi K n)) none)) none) none⟩
  | .rem => ⟨fun x y k => onI x fun ka a => onI y fun kb b => iff (Nat.beq ka K) (iff (Nat.beq kb K) (iff (Nat.beq b 0) none (natF (Nat.mod a b) fun n => k (.vi K n))) none) none⟩
  | .xor => ⟨fun x y k => onI x fun ka a => onI y fun kb b => iff (Nat.beq ka K) (iff (Nat.beq kb K) (iff (Nat.ble a M) (iff (Nat.ble b M) (natF (Nat.xor a b) fun n => iff (Nat.ble n M) (k (.vi K n)) none) none) none) none) none⟩
  | .shr => ⟨fun x y k => onI x fun ka a => onI y fun _ b => iff (Nat.beq ka K) (iff (Nat.ble b kd.bits) (natF (Nat.shiftRight a b) fun n => k (.vi K n)) none) none⟩
  | .eql => ⟨fun x y k => two .eql kd K (fun a b => bF (Nat.beq a b) k) x y k⟩
  | .neq => ⟨fun x y k => two .neq kd K (fun a b => bF (not (Nat.beq a b)) k) x y k⟩
  | .lss => ⟨fun x y k => two .lss kd K (fun a b => bF (Nat.blt a b) k) x y k⟩
  | .leq => ⟨fun x y k => two .leq kd K (fun a b => bF (Nat.ble a b) k) x y k⟩
  | .gtr => ⟨fun x y k => two .gtr kd K (fun a b => bF (Nat.blt b a) k) x y k⟩
  | .geq => ⟨fun x y k => two .geq kd K (fun a b => bF (Nat.ble b a) k) x y k⟩
  | _ => ⟨fun _ _ _ => none⟩
noncomputable def eqOp (op : BinOp) (E : EqC R) : BinC R := match op with
  | .eql => @EqC.rec R (fun _ => BinC R) (fun run => ⟨fun x y k => run x y fun b => bF b k⟩) E
  | .neq => @EqC.rec R (fun _ => BinC R) (fun run => ⟨fun x y k => run x y fun b => bF (not b) k⟩) E
  | _ => ⟨fun _ _ _ => none⟩
/-- a struct type whose fields are numbers, strings and Bools, one cell each -/
def flatF (P : Program) : List Field → Nat → Option (List FK)
  | [], _ => some []
  | f :: r, i => if (f.offset == i && f.name != "_") = true then (match (match P.underlying f.type with | some (.int _) => some FK.int | some .string => some FK.str | some .bool => some FK.bool | _ => none), flatF P r (i + 1) with
    | some k, some l => some (k :: l)
    | _, _ => none) else none
def flatT (P : Program) (t : Nat) : Option (List FK) := match P.underlying t with
  | some (.struct fs) => if (P.stoodInHeld t || P.eqGuardType P.depth t) = true then none else flatF P fs.toList 0
  | _ => none
noncomputable def flatOp (o : Option (List FK)) (op : BinOp) : BinC R := match o, op with
  | some ks, .eql => ⟨fun x y k => match x, y with | .va xs, .va ys => eqs ks xs ys fun b => bF b k | _, _ => none⟩
  | _, _ => ⟨fun _ _ _ => none⟩
noncomputable def binT (P : Program) (op : BinOp) (t : Nat) : BinC R := match P.underlying t with
  | some (.int kd) => intC op kd
  | some .string => strC op
  | some (.struct _) => flatOp (flatT P t) op
  | some d => eqOp op (eqT P d)
  | none => ⟨fun _ _ _ => none⟩
/-! constants and operands -/
/-- what fills one cell -/
def scal : V → Bool
  | .va _ | .vt _ | .unk => false
  | _ => true
mutual
def ofV : Value → V
  | .bool x => .vb x
  | .int k (.ofNat n) => .vi (kindN k) n
  | .int k (.negSucc n) => .vg (kindN k) n
  | .string bs => .vs bs.data.toList.length (bs.data.toList.map UInt8.toNat)
  | .pointer none => .pn
  | .slice none 0 0 => .sn
  | .map none => .mn
  | .nilFunc => .fn
  | .nilIface => .ni
  | .agg ⟨cs⟩ => if (ofVs cs).all scal = true then .va (ofVs cs) else .unk
  | .tuple ⟨cs⟩ => .vt (ofVs cs)
  | _ => .unk
def ofVs : List Value → List V
  | [] => []
  | v :: r => ofV v :: ofVs r
end
structure OpdC where
  get : E4 → V
noncomputable def opd : Operand → OpdC
  | .tmp t => @EA.rec Unit (fun _ => OpdC) (fun get _ => ⟨get⟩) (ea Unit t)
  | .const v => match ofV v with
    | .vi k n => natC k fun k => natC n fun n => ⟨fun _ => .vi k n⟩
    | .vs n l => natC n fun n => ⟨fun _ => .vs n l⟩
    | .vb true => ⟨fun _ => .vb true⟩
    | .vb false => ⟨fun _ => .vb false⟩
    | v => ⟨fun _ => v⟩
  | .global g => match g with | 0 => ⟨fun _ => .vp 0 0⟩ | _ => ⟨fun _ => .unk⟩
  | .func f => ⟨fun _ => .vf f []⟩
structure OpsC where
  get : E4 → List V
noncomputable def opds : List Operand → OpsC
  | [] => ⟨fun _ => []⟩
  | x :: r => @OpdC.rec (fun _ => OpsC) (fun g => @OpsC.rec (fun _ => OpsC) (fun h => ⟨fun e => g e :: h e⟩) (opds r)) (opd x)
structure DC (R : Type) where
  set : E4 → V → (E4 → Option R) → Option R
noncomputable def dst (R : Type) (nt : Nat) : Option Nat → DC R
  | none => ⟨fun e _ k => k e⟩
  | some d => @Bool.rec (fun _ => DC R) ⟨fun _ _ _ => none⟩ (@EA.rec R (fun _ => DC R) (fun _ set => ⟨set⟩) (ea R d)) (Nat.blt d nt)
abbrev Rec (R : Type) := Nat → List V → S → (V → S → Option R) → Option R
/-- an operation: what it yields, and the state behind it -/
structure BOp (R : Type) where
  run : Rec R → E4 → S → (V → S → Option R) → Option R
def failOp : BOp R := ⟨fun _ _ _ _ => none⟩
def isAggD : TypeDesc → Bool | .struct _ | .array _ _ => true | _ => false
def aggT (P : Program) (t : Nat) : Option Bool := (P.underlying t).map isAggD
noncomputable def onC (b : Blk) (k : Nat → Nat → Nat → Pg → Option R) : Option R := @Blk.rec (fun _ => Option R) none k (fun _ _ => none) b
noncomputable def onM (b : Blk) (k : List (V × V × Nat) → Nat → Option R) : Option R := @Blk.rec (fun _ => Option R) none (fun _ _ _ _ => none) k b
noncomputable def memB (b : Nat) (w : List Nat) : Bool := @List.rec _ (fun _ => Bool) false (fun x _ ih => @Bool.rec (fun _ => Bool) ih true (Nat.beq x b)) w
noncomputable def wr (base b : Nat) (w : List Nat) : List Nat := @Bool.rec (fun _ => List Nat) (@Bool.rec (fun _ => List Nat) (b :: w) w (memB b w)) w (Nat.ble base b)
/-- the state behind a write of block b -/
noncomputable def wrote (s : S) (b : Nat) (bl : Blk) (k : S → Option R) : Option R := setH s.h b bl fun h => k ⟨h, s.n, wr s.base b s.w, s.base⟩
noncomputable def fresh (s : S) (bl : Blk) (k : Nat → S → Option R) : Option R := setH s.h s.n bl fun h => natF (Nat.succ s.n) fun n => k s.n ⟨h, n, s.w, s.base⟩
noncomputable def row (s : S) (ty n : Nat) (cs : List V) (k : Nat → S → Option R) : Option R := mkP cs fun pg => fresh s (.cel ty n 0 pg) k
/-- the cells of a value that can be stored -/
noncomputable def onCs (v : V) (k : List V → Option R) : Option R :=
  @V.rec (fun _ => Option R) (fun _ => Option R) (fun a b => k [.vi a b]) (fun a b => k [.vp a b]) (fun a => k [.vb a]) (fun a b => k [.vs a b]) (fun a b => k [.vg a b]) (k [.pn]) (fun a b c d => k [.sl a b c d]) (fun a b c => k [.so a b c]) (k [.sn])
    (fun a => k [.vm a]) (k [.mn]) (fun a b _ => k [.vf a b]) (k [.fn]) (k [.ni]) (fun cs _ => k cs) (fun _ _ => none) none none (fun _ _ _ _ => none) v
structure LdC (R : Type) where
  run : S → Nat → Nat → (V → Option R) → Option R
noncomputable def loadC (P : Program) (t : Nat) : LdC R :=
  match aggT P t with
  | some true => natC (P.cellsOf t) fun sz => @Bool.rec (fun _ => LdC R) ⟨fun s b o k => getH s.h b fun bl => onC bl fun _ n _ pg => iff (Nat.ble (Nat.add o sz) n) (getsP pg sz o fun l => k (.va l)) none⟩ ⟨fun _ _ _ _ => none⟩ (Nat.beq sz 0)
  | some false => ⟨fun s b o k => getH s.h b fun bl => onC bl fun _ n _ pg => iff (Nat.blt o n) (getP pg o k) none⟩
  | none => ⟨fun _ _ _ _ => none⟩
noncomputable def storeC (s : S) (b o : Nat) (vs : List V) (k : S → Option R) : Option R :=
  getH s.h b fun bl => onC bl fun ty n fz pg => iff (Nat.ble (Nat.add o (lenN vs)) n) (iff (Nat.ble fz o) (setsP vs pg o fun pg => wrote s b (.cel ty n fz pg) k) none) none
/-- the cells of a type's zero value -/
def zeroL (P : Program) (t : Nat) : Option (List V) := match (P.info? t).bind (·.zero) with
  | some z => match ofV z with
    | .va cs => some cs
    | v => if scal v = true then some [v] else none
  | none => none
def zeroV (P : Program) (t : Nat) : Option V := match (P.info? t).bind (·.zero) with | some z => some (ofV z) | none => none
def repL (l : List V) : Nat → List V | 0 => [] | n + 1 => l ++ repL l n
def fieldAt (P : Program) (s : Nat) (j : Nat) : Option (Nat × Nat) := match P.underlying s with
  | some (.struct fs) => match fs[j]? with | some f => some (f.offset, P.cellsOf f.type) | none => none
  | _ => none
/-- where the parts of a struct or of an array lie -/
def placesOf (P : Program) (t : Nat) : Option (Nat → Option (Nat × Nat)) := match P.underlying t with
  | some (.struct fs) => match fs.toList.mapM (fun f => (P.info? f.type).map fun i => (f.offset, i.size)) with
    | some places => some fun i => places.toArray[i]?
    | none => none
  | some (.array _ e) => match P.info? e with
    | some ie => some fun i => some (i * ie.size, ie.size)
    | none => none
  | _ => none
/-- parts laid into a list of cells -/
def spliceL (l : List V) (off : Nat) (new : List V) : List V := l.take off ++ new ++ l.drop (off + new.length)
noncomputable def fillL (place : Nat → Option (Nat × Nat)) (e : E4) : List (Nat × Operand) → List V → (List V → Option R) → Option R
  | [], c, k => k c
  | (i, x) :: r, c, k => match place i with
    | some (off, size) => onCs ((opd x).get e) fun v => iff (Nat.beq (lenN v) size) (iff (Nat.ble (off + size) (lenN c)) (fillL place e r (spliceL c off v) k) none) none
    | none => none
/-- the cells of a slice, and how many elements -/
noncomputable def cellsC (s : S) (es b o n : Nat) (k : List V → Option R) : Option R :=
  getH s.h b fun bl => onC bl fun _ m _ pg => natF (Nat.mul n es) fun c => iff (Nat.ble (Nat.add o c) m) (getsP pg c o k) none
noncomputable def srcC (s : S) (es : Nat) (v : V) (k : Nat → List V → Option R) : Option R :=
  @V.rec (fun _ => Option R) (fun _ => Option R) (fun _ _ => none) (fun _ _ => none) (fun _ => none) (fun n l => iff (Nat.beq es 1) (iff (Nat.beq (lenN l) n) (k n (l.map fun c => .vi 4 c)) none) none) (fun _ _ => none) none
    (fun b o n _ => cellsC s es b o n (k n)) (fun b o n => cellsC s es b o n (k n)) (k 0 [])
    (fun _ => none) none (fun _ _ _ => none) none none (fun _ _ => none) (fun _ _ => none) none none (fun _ _ _ _ => none) v
noncomputable def appendC (s : S) (e es : Nat) (x : V) (c : Nat) (new : List V) (k : V → S → Option R) : Option R :=
  onL x
    (fun b o n cp => iff (Nat.ble n cp) (iff (Nat.beq c 0) (k (.sl b o n cp) s) (natF (Nat.add n c) fun nc => iff (Nat.ble nc cp)
      (natF (Nat.add o (Nat.mul n es)) fun at_ => storeC s b at_ new fun s => k (.sl b o nc cp) s)
      (iff (Nat.ble nc 1048576) (cellsC s es b o n fun old => natF (Nat.mul nc es) fun sz => row s e sz (old ++ new) fun b s => k (.so b 0 nc) s) none))) none)
    (fun b o n => iff (Nat.beq c 0) (k (.so b o n) s) (iff (Nat.beq o 0) (getH s.h b fun bl => onC bl fun ty m fz pg => iff (Nat.beq ty e) (natF (Nat.mul n es) fun at_ => iff (Nat.ble at_ m) (iff (Nat.ble fz at_)
      (setsP new pg at_ fun pg => natF (Nat.add n c) fun nc => iff (Nat.ble nc 1048576) (natF (Nat.mul nc es) fun sz =>
        setH s.h b .gone fun h => fresh ⟨h, s.n, wr s.base b s.w, s.base⟩ (.cel ty sz fz pg) fun b' s => k (.so b' 0 nc) s) none) none) none) none) none))
    (iff (Nat.beq c 0) (k .sn s) (iff (Nat.ble c 1048576) (natF (Nat.mul c es) fun sz => row s e sz new fun b s => k (.so b 0 c) s) none))
noncomputable def u8L (l : List V) (k : List Nat → Option R) : Option R :=
  @List.rec _ (fun _ => (List Nat → Option R) → Option R) (fun k => k []) (fun x _ ih k => onI x fun kd n => iff (Nat.beq kd 4) (iff (Nat.ble n 255) (ih fun l => k (n :: l)) none) none) l k
/-! maps -/
/-- the kinds of keys that are followed -/
inductive KK where
  | int | str | flat (ks : List FK)
def keyT (P : Program) (t : Nat) : Option KK := match P.underlying t with
  | some (.map kt _) => (match P.underlying kt with | some (.int _) => some .int | some .string => some .str | some (.struct _) => (match flatT P kt with | some ks => some (.flat ks) | none => none) | _ => none)
  | _ => none
noncomputable def eqKey (K : KK) (x y : V) (k : Bool → Option R) : Option R := match K, x, y with
  | .str, .vs n a, .vs m b => k (eqS n a m b)
  | .int, .vi kd a, .vi kd' b => iff (Nat.beq kd kd') (k (Nat.beq a b)) none
  | .flat ks, .va xs, .va ys => eqs ks xs ys k
  | _, _, _ => none
noncomputable def findC (K : KK) (x : V) (es : List (V × V × Nat)) (no : Option R) (yes : Nat → V → Nat → Option R) : Option R :=
  @List.rec _ (fun _ => Nat → Option R) (fun _ => no) (fun e _ ih i => eqKey K x e.1 fun b => iff b (yes i e.2.1 e.2.2) (ih (Nat.succ i))) es 0
/-- a key whose kind is known -/
noncomputable def onKey (K : KK) (x : V) (k : Option R) : Option R := match K, x with
  | .str, .vs .. => k
  | .int, .vi .. => k
  | .flat ks, .va xs => iff (Nat.beq (lenN ks) (lenN xs)) k none
  | _, _ => none
noncomputable def updC (K : KK) (s : S) (m key x : V) (k : S → Option R) : Option R := match m with
  | .vm b => getH s.h b fun bl => onM bl fun es clock => onKey K key (findC K key es
      (natF (Nat.succ clock) fun c => wrote s b (.mp (es ++ [(key, x, clock)]) c) k)
      (fun i _ born => wrote s b (.mp (es.set i (key, x, born)) clock) k))
  | _ => none
/-! slices -/
noncomputable def optI (e : E4) (o : Option Operand) (no : Option R) (k : Nat → Option R) : Option R := match o with
  | none => no
  | some x => onI ((opd x).get e) fun _ n => k n
def subL (l : List Nat) (lo hi : Nat) : List Nat := (l.take hi).drop lo
/-- s[l:h:m] of a slice of capacity c -/
noncomputable def cutC (es b o l h m c : Nat) (k : V → Option R) : Option R := iff (Nat.ble l h) (iff (Nat.ble h m) (iff (Nat.ble m c)
    (natF (Nat.sub h l) fun n' => natF (Nat.sub m l) fun c' => iff (Nat.beq c' 0) (k (.sl b o n' c')) (natF (Nat.add o (Nat.mul l es)) fun o' => k (.sl b o' n' c'))) none) none) none
noncomputable def cutS (l h n : Nat) (s : List Nat) (k : V → Option R) : Option R := iff (Nat.ble l h) (iff (Nat.ble h n) (natF (Nat.sub h l) fun m => k (.vs m (subL s l h))) none) none
noncomputable def cutO (P : Program) (s : S) (es b o l h n : Nat) (k : V → Option R) : Option R := iff (Nat.ble l h) (iff (Nat.ble h n)
    (iff (Nat.beq l 0) (k (.so b o h)) (iff (Nat.blt l n) (getH s.h b fun bl => onC bl fun ty _ _ _ => iff (Nat.beq (P.cellsOf ty) es) (natF (Nat.sub h l) fun n' => natF (Nat.add o (Nat.mul l es)) fun o' => k (.so b o' n')) none) (k .unk))) none) none
noncomputable def sliceTo (P : Program) (e : E4) (mx : Option Operand) (k : V → Option R) (el b o l c h : Nat) : Option R := optI e mx (cutC (P.cellsOf el) b o l h c c k) fun m => cutC (P.cellsOf el) b o l h m c k
noncomputable def sliceOpen (P : Program) (s : S) (e : E4) (mx : Option Operand) (k : V → Option R) (el b o l n h : Nat) : Option R := match mx with
    | none => cutO P s (P.cellsOf el) b o l h n k
    | some x => onI ((opd x).get e) fun _ m => cutC (P.cellsOf el) b o l h m n k
noncomputable def sliceNil (e : E4) (mx : Option Operand) (k : V → Option R) (l h : Nat) : Option R := iff (Nat.beq l 0) (iff (Nat.beq h 0) (optI e mx (k .sn) fun m => iff (Nat.beq m 0) (k .sn) none) none) none
noncomputable def sliceFrom (P : Program) (t : Nat) (hi mx : Option Operand) (s : S) (e : E4) (x : V) (k : V → Option R) (l : Nat) : Option R := match P.underlying t with
    | some .string => (match mx with
      | none => onS x fun n cs => optI e hi (cutS l n n cs k) fun h => cutS l h n cs k
      | some _ => none)
    | some (.slice el) => iff (not (Nat.beq (P.cellsOf el) 0)) (onL x (fun b o n c => optI e hi (sliceTo P e mx k el b o l c n) fun h => sliceTo P e mx k el b o l c h)
        (fun b o n => optI e hi (sliceOpen P s e mx k el b o l n n) fun h => sliceOpen P s e mx k el b o l n h)
        (optI e hi (sliceNil e mx k l 0) fun h => sliceNil e mx k l h)) none
    | some (.array n el) => iff (not (Nat.beq (P.cellsOf el) 0)) (onP x fun b o => optI e hi (sliceTo P e mx k el b o l n n) fun h => sliceTo P e mx k el b o l n h) none
    | _ => none
noncomputable def sliceC (P : Program) (t : Nat) (lo hi mx : Option Operand) (s : S) (e : E4) (x : V) (k : V → Option R) : Option R := match hi, mx with
  | none, some _ => none
  | _, _ => optI e lo (sliceFrom P t hi mx s e x k 0) fun l => sliceFrom P t hi mx s e x k l
noncomputable def idxC (b o i n es : Nat) (k : V → Option R) : Option R := iff (Nat.blt i n) (natF (Nat.add o (Nat.mul i es)) fun o => k (.vp b o)) none
structure CvC (R : Type) where
  run : V → (V → Option R) → Option R
noncomputable def convC (P : Program) (src dst : Nat) : CvC R :=
  match P.underlying src, P.underlying dst with
  | some (.int _), some (.int kd) => natC (kindN kd) fun K => natC (maxN kd) fun M => ⟨fun x k => onIG x (fun _ n => iff (Nat.ble n M) (k (.vi K n)) (outV (some (ofI kd (Int.ofNat n))) k)) (fun _ n => outV (some (ofI kd (Int.negSucc n))) k)⟩
  | _, _ => ⟨fun _ _ => none⟩
/-! builtins -/
structure BuC (R : Type) where
  run : List V → S → (V → S → Option R) → Option R
def noBu : BuC R := ⟨fun _ _ _ => none⟩
/-- the element type of a slice, and its cells, where its bytes are few -/
def elemT (P : Program) (t : Nat) : Option (Nat × Nat) := match P.underlying t with
  | some (.slice e) => if P.bytesOf e ≤ 1048576 ∧ 0 < P.bytesOf e then some (e, P.cellsOf e) else none
  | _ => none
/-- does the element type's zero value fill its cells -/
def zeroFits (P : Program) (e : Nat) : Bool := match zeroL P e with | some z => z.length == P.cellsOf e && decide (0 < z.length) | none => false
/-- a slice or a string: what can be appended from -/
def isSeq (P : Program) (t : Nat) : Bool := match P.underlying t with | some (.slice _) => true | some .string => true | _ => false
noncomputable def builtinC (P : Program) (b : Builtin) (ts : List Nat) : BuC R :=
  match b, ts with
  | .len, t :: _ => match P.underlying t with
    | some .string => ⟨fun args s k => onS (hd args 0) fun n _ => k (.vi 3 n) s⟩
    | some (.slice _) => ⟨fun args s k => onL (hd args 0) (fun _ _ n _ => k (.vi 3 n) s) (fun _ _ n => k (.vi 3 n) s) (k (.vi 3 0) s)⟩
    | some (.map _ _) => ⟨fun args s k => match hd args 0 with | .vm b => getH s.h b fun bl => onM bl fun es _ => natF (lenN es) fun n => k (.vi 3 n) s | .mn => k (.vi 3 0) s | _ => none⟩
    | _ => noBu
  | .append, t :: u :: _ => match elemT P t, isSeq P u with
    | some (e, es), true => @Bool.rec (fun _ => BuC R) noBu (natC es fun es => ⟨fun args s k => srcC s es (hd args 1) fun c l => appendC s e es (hd args 0) c l k⟩) (zeroFits P e)
    | _, _ => noBu
  | .max, _ => ⟨fun args s k => onIG (hd args 0) (fun ka a => onI (hd args 1) fun kb b => iff (Nat.beq (lenN args) 2) (iff (Nat.beq ka kb) (iff (Nat.blt a b) (k (.vi ka b) s) (k (.vi ka a) s)) none) none)
      (fun ka _ => onI (hd args 1) fun kb b => iff (Nat.beq (lenN args) 2) (iff (Nat.beq ka kb) (k (.vi ka b) s) none) none)⟩
  | .min, _ => ⟨fun args s k => onI (hd args 0) fun ka a => onI (hd args 1) fun kb b => iff (Nat.beq (lenN args) 2) (iff (Nat.beq ka kb) (iff (Nat.blt b a) (k (.vi ka b) s) (k (.vi ka a) s)) none) none⟩
  | .delete, t :: _ => match keyT P t with
    | some K => ⟨fun args s k => match hd args 0 with
      | .vm b => getH s.h b fun bl => onM bl fun es clock => onKey K (hd args 1) (findC K (hd args 1) es (wrote s b (.mp es clock) fun s => k (.vt []) s) (fun i _ _ => wrote s b (.mp (es.eraseIdx i) clock) fun s => k (.vt []) s))
      | _ => none⟩
    | none => noBu
  | .clear, t :: _ => match P.underlying t with
    | some (.slice e) => match (if zeroFits P e then zeroL P e else none) with
      | some z => ⟨fun args s k => onL (hd args 0)
          (fun b o n _ => iff (Nat.beq n 0) (k (.vt []) s) (storeC s b o (repL z n) fun s => k (.vt []) s))
          (fun b o n => iff (Nat.beq n 0) (k (.vt []) s) (storeC s b o (repL z n) fun s => k (.vt []) s)) (k (.vt []) s)⟩
      | none => noBu
    | _ => noBu
  | .unsafeSliceData, _ => ⟨fun args s k => iff (Nat.beq (lenN args) 1) (onL (hd args 0) (fun b o _ c => iff (Nat.beq c 0) none (k (.vp b o) s)) (fun b o n => iff (Nat.beq n 0) none (k (.vp b o) s)) (k .pn s)) none⟩
  | .unsafeString, [t, _] => match P.underlying t with
    | some (.pointer u) => match P.underlying u with
      | some (.int .u8) => ⟨fun args s k => iff (Nat.beq (lenN args) 2) (onI (hd args 1) fun kd n => iff (and (Nat.beq kd 3) (and (Nat.beq (P.cellsOf u) 1) (Nat.ble n 1048576))) (iff (Nat.beq n 0) none (onP (hd args 0) fun b o => iff (Nat.beq o 0) (getH s.h b fun bl => onC bl fun ty m fz pg => iff (Nat.beq ty u) (iff (Nat.ble n m) (getsP pg n 0 fun l => u8L l fun l =>
          natF (Nat.max fz n) fun fz => wrote s b (.cel ty m fz pg) fun s => k (.vs n l) s) none) none) none)) none) none⟩
      | _ => noBu
    | _ => noBu
  | _, _ => noBu
/-! one operation -/
noncomputable def wO (x : Operand) (f : (E4 → V) → BOp R) : BOp R := @OpdC.rec (fun _ => BOp R) f (opd x)
noncomputable def wOs (x : List Operand) (f : (E4 → List V) → BOp R) : BOp R := @OpsC.rec (fun _ => BOp R) f (opds x)
/-- a slice without elements -/
def emptyB : Nat → List (Nat × Operand) → Bool
  | 0, [] => true
  | _, _ => false
noncomputable def cOp0 (P : Program) (o : Op) : BOp R :=
  match o with
  | .move x => wO x fun gx => ⟨fun _ e s k => k (gx e) s⟩
  | .assign x => wO x fun gx => ⟨fun _ e s k => k (gx e) s⟩
  | .pick c a b => wO c fun gc => wO a fun ga => wO b fun gb => ⟨fun _ e s k => onB (gc e) fun c => iff c (k (ga e) s) (k (gb e) s)⟩
  | .alloc t => match zeroL P t with
    | some z => natC (lenN z) fun n => ⟨fun _ _ s k => row s t n z fun b s => k (.vp b 0) s⟩
    | none => failOp
  | .box t x => wO x fun gx => ⟨fun _ e s k => onCs (gx e) fun cs => natF (lenN cs) fun n => row s t n cs fun b s => k (.vp b 0) s⟩
  | .build t parts => match zeroL P t, placesOf P t with
    | some z, some pl => ⟨fun _ e s k => fillL pl e parts.toList z fun l => k (.va l) s⟩
    | _, _ => failOp
  | .buildSlice t len parts => match P.underlying t with
    | some (.slice el) => match emptyB len parts.toList with
      | true => match P.info? el with
        | some _ => ⟨fun _ _ s k => row s el 0 [] fun b s => k (.sl b 0 0 0) s⟩
        | none => failOp
      | false => match zeroL P el with
        | some z => natC (lenN z) fun zn => natC (Nat.mul len zn) fun sz => natC len fun len => @Bool.rec (fun _ => BOp R) failOp
            ⟨fun _ e s k => fillL (fun i => some (Nat.mul i zn, zn)) e parts.toList (repL z len) fun l => row s el sz l fun b s => k (.sl b 0 len len) s⟩ (and (Nat.ble sz 65536) (and (Nat.ble 1 sz) (Nat.beq zn (P.cellsOf el))))
        | none => failOp
    | _ => failOp
  | .load t a => wO a fun ga => @LdC.rec R (fun _ => BOp R) (fun ld => ⟨fun _ e s k => onP (ga e) fun b of => ld s b of fun v => k v s⟩) (loadC P t)
  | .store t a x => wO a fun ga => wO x fun gx => natC (P.cellsOf t) fun sz => @Bool.rec (fun _ => BOp R) ⟨fun _ e s k => onP (ga e) fun b of => onCs (gx e) fun cs => iff (Nat.beq (lenN cs) sz) (storeC s b of cs fun s => k (.vt []) s) none⟩ failOp (Nat.beq sz 0)
  | .nilCheck x => wO x fun gx => ⟨fun _ e s k => onP (gx e) fun b of => k (.vp b of) s⟩
  | .binOp op t x y _ => wO x fun gx => wO y fun gy => @BinC.rec R (fun _ => BOp R) (fun run => ⟨fun _ e s k => run (gx e) (gy e) fun v => k v s⟩) (binT P op t)
  | .unOp .not _ x => wO x fun gx => ⟨fun _ e s k => onB (gx e) fun b => bF (not b) fun v => k v s⟩
  | .convert a b x => wO x fun gx => @CvC.rec R (fun _ => BOp R) (fun run => ⟨fun _ e s k => run (gx e) fun v => k v s⟩) (convC P a b)
  | .makeFunc (.func g) ⟨[]⟩ ⟨cs⟩ => wOs cs fun gs => ⟨fun _ e s k => k (.vf g (gs e)) s⟩
  | .makeMap _ none => ⟨fun _ _ s k => fresh s (.mp [] 0) fun b s => k (.vm b) s⟩
  | .makeSlice t l c => match P.underlying t with
    | some (.slice el) => match zeroL P el, elemT P t with
      | some z, some _ => natC (lenN z) fun zn => wO l fun gl => wO c fun gc => ⟨fun _ e s k => onI (gl e) fun _ l => onI (gc e) fun _ c => iff (Nat.ble l c) (iff (Nat.ble c 65536) (iff (Nat.ble 1 zn) (iff (Nat.beq zn (P.cellsOf el)) (natF (Nat.mul c zn) fun sz => row s el sz (repL z c) fun b s => k (.sl b 0 l c) s) none) none) none) none⟩
      | _, _ => failOp
    | _ => failOp
  | .slice t x lo hi mx => wO x fun gx => ⟨fun _ e s k => sliceC P t lo hi mx s e (gx e) fun v => k v s⟩
  | .fieldAddr st x j => match fieldAt P st j with
    | some (off, sz) => natC off fun off => wO x fun gx => @Bool.rec (fun _ => BOp R) ⟨fun _ e s k => onP (gx e) fun b of => natF (Nat.add of off) fun of => k (.vp b of) s⟩ failOp (Nat.beq sz 0)
    | none => failOp
  | .indexAddr t x ix => match P.underlying t with
    | some (.slice el) => natC (P.cellsOf el) fun es => wO ix fun gix => wO x fun gx => @Bool.rec (fun _ => BOp R) ⟨fun _ e s k => onI (gix e) fun _ i => onL (gx e) (fun b o' n _ => idxC b o' i n es fun v => k v s) (fun b o' n => idxC b o' i n es fun v => k v s) none⟩ failOp (Nat.beq es 0)
    | some (.array n el) => natC (P.cellsOf el) fun es => natC n fun n => wO ix fun gix => wO x fun gx => @Bool.rec (fun _ => BOp R) ⟨fun _ e s k => onI (gix e) fun _ i => onP (gx e) fun b o' => idxC b o' i n es fun v => k v s⟩ failOp (Nat.beq es 0)
    | _ => failOp
  | .index t x ix => match P.underlying t with
    | some .string => wO ix fun gix => wO x fun gx => ⟨fun _ e s k => onI (gix e) fun _ i => onS (gx e) fun _ l => atL l i fun c => k (.vi 4 c) s⟩
    | _ => failOp
  | .lookup t x key ok => match P.underlying t, keyT P t with
    | some (.map _ el), some K => match zeroV P el with
      | some z => wO x fun gx => wO key fun gk => ⟨fun _ e s k => match gx e with
          | .vm b => getH s.h b fun bl => onM bl fun es _ => onKey K (gk e) (findC K (gk e) es
            (k (@Bool.rec (fun _ => V) z (.vt [z, .vb false]) ok) s) (fun _ v _ => k (@Bool.rec (fun _ => V) v (.vt [v, .vb true]) ok) s))
          | _ => none⟩
      | none => failOp
    | _, _ => failOp
  | .mapUpdate t m key x => match keyT P t with
    | some K => wO m fun gm => wO key fun gkey => wO x fun gx => ⟨fun _ e s k => updC K s (gm e) (gkey e) (gx e) fun s => k (.vt []) s⟩
    | none => failOp
  | .insert t m key x => match keyT P t with
    | some K => wO m fun gm => wO key fun gkey => wO x fun gx => ⟨fun _ e s k => updC K s (gm e) (gkey e) (gx e) fun s => k (.vt []) s⟩
    | none => failOp
  | .extract t ix => wO t fun gt => ⟨fun _ e s k => match gt e with | .vt vs => (match vs[ix]? with | some v => k v s | none => none) | _ => none⟩
  | .call c => match c.callee with
    | .builtin b => wOs c.args.toList fun gs => @BuC.rec R (fun _ => BOp R) (fun run => ⟨fun _ e s k => run (gs e) s k⟩) (builtinC P b c.argTypes.toList)
    | .value (.func g) => wOs c.args.toList fun gs => ⟨fun rec e s k => rec g (gs e) s k⟩
    | .value f => wO f fun gf => wOs c.args.toList fun gs => ⟨fun rec e s k => match gf e with | .vf g cs => rec g (gs e ++ cs) s k | _ => none⟩
    | .invoke .. => failOp
  | _ => failOp
/-- an operation of a region, with its guard and its slot -/
structure ROp (R : Type) where
  run : Rec R → E4 → S → (E4 → S → Option R) → Option R
noncomputable def cOp (P : Program) (nt : Nat) (ops : List Oper) (o : Oper) : ROp R :=
  @BOp.rec R (fun _ => ROp R) (fun run => @DC.rec R (fun _ => ROp R) (fun st => match o.guard with
    | none => ⟨fun rec e s k => run rec e s fun v s => st e v fun e => k e s⟩
    | some (j, want) => match (ops[j]?).bind (·.dst) with
      | some d => @EA.rec R (fun _ => ROp R) (fun get _ => ⟨fun rec e s k => onG (get e) want (run rec e s fun v s => st e v fun e => k e s) (st e (.vt []) fun e => k e s)⟩) (ea R d)
      | none => ⟨fun _ _ _ _ => none⟩) (dst R nt o.dst)) (cOp0 P o.op)
noncomputable def cOps (P : Program) (nt : Nat) (ops : List Oper) : List Oper → List (ROp R)
  | [] => []
  | o :: r => cOp P nt ops o :: cOps P nt ops r
noncomputable def runOps (rec : Rec R) (k : E4 → S → Option R) (l : List (ROp R)) : E4 → S → Option R :=
  @List.rec _ (fun _ => E4 → S → Option R) k (fun o _ ih e s => o.run rec e s ih) l
end
end Go.Ev
