/-
  THE MODEL's CODE AS A HEAP-LEVEL WEAKEST PRECONDITION ('dn'): slots are known or unknown; sound for the kit's 'Code.wpIn Fence.wide' (file C).
-/
import Derived.Test.YtabidhoaginokaaVcA
namespace Go.Proofs.Ytabidhoaginokaa.Vc
open Go

/-! ### Frames: what is known of the slots -/
abbrev Fr := List (Option Value)
def nth {α : Type} : List α → Nat → Option α
  | [], _ => none
  | x :: _, 0 => some x
  | _ :: r, n + 1 => nth r n
def nthF (fr : Fr) (t : Nat) : Option Value := match nth fr t with
  | some x => x
  | none => none
def getF (fr : Fr) : Operand → Option Value
  | .tmp t => nthF fr t
  | .const v => some v
  | .global g => some (.pointer (some ⟨g, 0, none⟩))
  | .func f => some (.func (.func f) #[] #[])
def rhoF (fr : Fr) (x : Operand) : Value := match getF fr x with
  | some v => v
  | none => undef
def availF (fr : Fr) : List Operand → Bool
  | [] => true
  | x :: r => match getF fr x with
    | some _ => availF fr r
    | none => false
def putF (fr : Fr) (dst : Option Nat) (v : Value) : Fr := match dst with
  | some d => fr.set d (some v)
  | none => fr
def maskF : Nat → Fr → Fr
  | _, [] => []
  | m, v :: r => (match m % 2 with | 0 => none | _ => v) :: maskF (m / 2) r
def clearF (fr : Fr) : Operand → Fr
  | .tmp t => fr.set t none
  | _ => fr

/-! ### A value whose type is known shows its form -/
def flatP (P : Program) : Nat → TypeId → List TypeDesc
  | 0, _ => []
  | d + 1, t => match P.underlying t with
    | some (.struct fs) => fs.toList.flatMap fun f => flatP P d f.type
    | some (.array n e) => (List.replicate n (flatP P d e)).flatten
    | some x => [x]
    | none => []
def shape1 (d : TypeDesc) (v : Value) (K : Value → Prop) : Prop :=
  match d with
  | .int k => ∃ n, v = .int k n ∧ K (.int k n)
  | .bool => ∃ b, v = .bool b ∧ K (.bool b)
  | .string => ∃ s, v = .string s ∧ K (.string s)
  | .pointer _ => ∃ p, v = .pointer p ∧ K (.pointer p)
  | .slice _ => ∃ p n c, v = .slice p n c ∧ K (.slice p n c)
  | .map _ _ => ∃ r, v = .map r ∧ K (.map r)
  | _ => K v
/-- The cells of a value of a struct type, one by one. -/
def shapeL : List TypeDesc → List Value → List Value → (List Value → Prop) → Prop
  | [], [], acc, K => K acc.reverse
  | d :: ds, v :: vs, acc, K => shape1 d v fun v => shapeL ds vs (v :: acc) K
  | _, _, _, _ => False
/-- Nothing is known of the value: there are such cells. -/
def shapeE : List TypeDesc → List Value → (List Value → Prop) → Prop
  | [], acc, K => K acc.reverse
  | .int k :: ds, acc, K => ∃ n, shapeE ds (.int k n :: acc) K
  | .bool :: ds, acc, K => ∃ b, shapeE ds (.bool b :: acc) K
  | .string :: ds, acc, K => ∃ s, shapeE ds (.string s :: acc) K
  | .pointer _ :: ds, acc, K => ∃ p, shapeE ds (.pointer p :: acc) K
  | .slice _ :: ds, acc, K => ∃ p n c, shapeE ds (.slice p n c :: acc) K
  | .map _ _ :: ds, acc, K => ∃ r, shapeE ds (.map r :: acc) K
  | _ :: ds, acc, K => ∃ v, shapeE ds (v :: acc) K
def addO (o : Nat) : Nat → Nat
  | 0 => o
  | n + 1 => o + (n + 1)
/-- The cells at a place, read one by one, by their types. -/
def loadL (h : Heap) (b o : Nat) : List TypeDesc → Nat → List Value → (List Value → Prop) → Prop
  | [], _, acc, K => K acc.reverse
  | .int k :: ds, i, acc, K => ∃ n, cellH h ⟨b, addO o i, none⟩ = some (.int k n) ∧ loadL h b o ds (i + 1) (.int k n :: acc) K
  | .bool :: ds, i, acc, K => ∃ x, cellH h ⟨b, addO o i, none⟩ = some (.bool x) ∧ loadL h b o ds (i + 1) (.bool x :: acc) K
  | .string :: ds, i, acc, K => ∃ s, cellH h ⟨b, addO o i, none⟩ = some (.string s) ∧ loadL h b o ds (i + 1) (.string s :: acc) K
  | .pointer _ :: ds, i, acc, K => ∃ p, cellH h ⟨b, addO o i, none⟩ = some (.pointer p) ∧ loadL h b o ds (i + 1) (.pointer p :: acc) K
  | .slice _ :: ds, i, acc, K => ∃ p n c, cellH h ⟨b, addO o i, none⟩ = some (.slice p n c) ∧ loadL h b o ds (i + 1) (.slice p n c :: acc) K
  | .map _ _ :: ds, i, acc, K => ∃ r, cellH h ⟨b, addO o i, none⟩ = some (.map r) ∧ loadL h b o ds (i + 1) (.map r :: acc) K
  | _ :: ds, i, acc, K => ∃ v, cellH h ⟨b, addO o i, none⟩ = some v ∧ loadL h b o ds (i + 1) (v :: acc) K
def shapeP1 (P : Program) (t : TypeId) (v : Value) (K : Value → Prop) : Prop :=
  match P.underlying t with
  | some (.struct _) | some (.array _ _) => (match v with
    | .agg cs => shapeL (flatP P 20 t) cs.toList [] fun l => K (.agg l.toArray)
    | v => shapeE (flatP P 20 t) [] fun l => v = .agg l.toArray ∧ K (.agg l.toArray))
  | some d => shape1 d v K
  | none => K v
/-- There is a value of the type. -/
def someT (P : Program) (t : TypeId) (K : Value → Prop) : Prop :=
  match P.underlying t with
  | some (.int k) => ∃ n, K (.int k n)
  | some .bool => ∃ b, K (.bool b)
  | some .string => ∃ s, K (.string s)
  | some (.pointer _) => ∃ p, K (.pointer p)
  | some (.slice _) => ∃ p n c, K (.slice p n c)
  | some (.map _ _) => ∃ r, K (.map r)
  | some (.struct _) | some (.array _ _) => shapeE (flatP P 20 t) [] fun l => K (.agg l.toArray)
  | _ => ∃ x, K x
def someL (P : Program) : List TypeId → List Value → (List Value → Prop) → Prop
  | [], acc, K => K acc.reverse
  | t :: ts, acc, K => someT P t fun v => someL P ts (v :: acc) K
def shapeP (P : Program) (t : TypeId) (v : Value) (K : Value → Prop) : Prop :=
  match P.underlying t with
  | some (.tuple ts) => (match ts.toList with
    | [] => K v
    | l => someL P l [] fun vs => v = .tuple vs.toArray ∧ K (.tuple vs.toArray))
  | _ => shapeP1 P t v K
/-- Cells stored one by one. -/
def storeL (b o : Nat) : List Value → Nat → Heap → (Heap → Prop) → Prop
  | [], _, h, K => K h
  | v :: r, i, h, K => (∃ u, cellH h ⟨b, addO o i, none⟩ = some u) ∧ frozenH h ⟨b, addO o i, none⟩ = false ∧ Guard (cellV v) (∀ h', h' = setCellH h ⟨b, addO o i, none⟩ v → storeL b o r (i + 1) h' K)
/-- A new block. -/
def newH (h : Heap) (o : Obj) (K : Heap → Prop) : Prop := ∀ h', h' = h.push o → K h'
def overlay {α : Type} : List α → List α → List α
  | [], cs => cs
  | v :: vs, _ :: cs => v :: overlay vs cs
  | _ :: _, [] => []
def setSeg {α : Type} : Nat → List α → List α → List α
  | 0, vs, cs => overlay vs cs
  | n + 1, vs, c :: cs => c :: setSeg n vs cs
  | _ + 1, _, [] => []
def segOf {α : Type} : Nat → Nat → List α → List α
  | 0, 0, _ => []
  | 0, n + 1, c :: cs => c :: segOf 0 n cs
  | k + 1, n, _ :: cs => segOf k n cs
  | _, _, [] => []

/-! ### One operation -/
def BIf (b : Bool) (X Y : Prop) : Prop := match b with
  | true => X
  | false => Y
theorem BIf.intro {b : Bool} {X Y : Prop} (h : b = true → X) (h' : b = false → Y) : BIf b X Y := by cases b; exact h' rfl; exact h rfl
theorem BIf.pos {b : Bool} {X Y : Prop} (h : b = true) (x : X) : BIf b X Y := by subst h; exact x
theorem BIf.neg {b : Bool} {X Y : Prop} (h : b = false) (y : Y) : BIf b X Y := by subst h; exact y

def semN (P : Program) (s : Sem Next) (h : Heap) (K : Value → Heap → Prop) (D : Deferred → Heap → Prop) : Prop :=
  semH P s h fun n h => match n with
    | .value v => K v h
    | .skip => K undef h
    | .defer d => D d h
    | _ => False
def binOpG (op : BinOp) (t : TypeId) (x y : Operand) (a b : Value) : Sem Value := do eqGuard op t x y a b; binOp op t a b
/-- An equality that is asked of the model. -/
def eqLeaf (P : Program) (op : BinOp) (t : TypeId) : Bool := match op with
  | .eql | .neq => (match P.underlying t with
    | some (.int _) | some .bool | some .string => false
    | _ => true)
  | _ => false
/-- A call through an interface value. -/
def InvokeH (P : Program) (recv : Value) (name : String) (args : List Value) (h : Heap) (Q : Value → Heap → Prop) : Prop :=
  match recv with
  | .iface t v => semH P (method (P.types.size + Made.depth) t v name) h fun r h' => CallH P r.1 (r.2 :: args).toArray h' Q
  | _ => False
def builtinG (b : Builtin) (argTypes : Array TypeId) (type : TypeId) (args : Array Value) : Sem Value :=
  match b with
  | .append => Builtin.append_ argTypes type args
  | .copy => Builtin.copy_ argTypes type args
  | .clear => Builtin.clear_ argTypes type args
  | .delete => Builtin.delete_ argTypes type args
  | .len => Builtin.len_ argTypes type args
  | .cap => Builtin.cap_ argTypes type args
  | .max => Builtin.max_ argTypes type args
  | .min => Builtin.min_ argTypes type args
  | _ => stuck "not here"

/-- The cells of a value of a type. -/
def cellsG (P : Program) (t : TypeId) (v : Value) (K : List Value → Prop) : Prop :=
  match P.underlying t with
  | some (.struct _) | some (.array _ _) => (match v with
    | .agg c => K c.toList
    | _ => False)
  | _ => Guard (cellV v) (K [v])
/-- Where the parts of a struct or array lie: offset, type. -/
def placeOf (P : Program) (t : TypeId) (i : Nat) : Option (Nat × TypeId) :=
  match P.underlying t with
  | some (.struct fs) => (match fs[i]? with
    | some f => some (f.offset, f.type)
    | none => none)
  | some (.array _ e) => some (i * P.cellsOf e, e)
  | some (.slice e) => some (i * P.cellsOf e, e)
  | _ => none
def fillG (P : Program) (t : TypeId) : List (Nat × Value) → List Value → (List Value → Prop) → Prop
  | [], cs, K => K cs
  | (i, v) :: r, cs, K => (match placeOf P t i with
    | some (off, e) => cellsG P e v fun vs => Guard (vs.length == P.cellsOf e && decide (off + vs.length ≤ cs.length)) (fillG P t r (setSeg off vs cs) K)
    | none => False)
def zeroL (P : Program) (t : TypeId) : Option (List Value) :=
  match P.info? t with
  | some i => (match i.zero with
    | some (.agg c) => some c.toList
    | some v => some [v]
    | none => none)
  | none => none
def repL : Nat → List Value → List Value
  | 0, _ => []
  | n + 1, l => l ++ repL n l
def partG (P : Program) (t : TypeId) (cs : List Value) (off : Nat) (K : Value → Prop) : Prop :=
  match P.underlying t with
  | some (.struct _) | some (.array _ _) => K (.agg (segOf off (P.cellsOf t) cs).toArray)
  | some _ => (match nth cs off with
    | some v => K v
    | none => False)
  | none => False

def lenT (P : Program) (ts : Array TypeId) : Option TypeDesc := match ts.toList with
  | t :: _ => P.underlying t
  | [] => none
/-- What a type assertion with its 'ok' hands back. -/
def okShape (P : Program) (ok : Bool) (t : TypeId) (v : Value) (K : Value → Prop) : Prop := match ok with
  | false => K v
  | true => (match P.underlying t with
    | some (.tuple ts) => (match ts.toList with
      | [] => ∃ x b, v = .tuple #[x, .bool b] ∧ K (.tuple #[x, .bool b])
      | _ => K v)
    | _ => ∃ x b, v = .tuple #[x, .bool b] ∧ K (.tuple #[x, .bool b]))
theorem okShape_out {P : Program} {ok : Bool} {t : TypeId} {v : Value} {K : Value → Prop} (x : okShape P ok t v K) : K v := by
  unfold okShape at x
  split at x
  · exact x
  · split at x
    · split at x
      · obtain ⟨_, _, rfl, x⟩ := x; exact x
      · exact x
    · obtain ⟨_, _, rfl, x⟩ := x; exact x
theorem okShape_mono {P : Program} {ok : Bool} {t : TypeId} {v : Value} {K K' : Value → Prop} (x : okShape P ok t v K) (y : ∀ v, K v → K' v) : okShape P ok t v K' := by
  unfold okShape at x ⊢
  split at x
  · exact y _ x
  · split at x
    · split at x
      · obtain ⟨u, b, e, x⟩ := x; exact ⟨u, b, e, y _ x⟩
      · exact y _ x
    · obtain ⟨u, b, e, x⟩ := x; exact ⟨u, b, e, y _ x⟩
def opH (P : Program) (ρ : Operand → Value) (o : Oper) (h : Heap) (K : Value → Heap → Prop) (D : Deferred → Heap → Prop) : Prop :=
  let leaf (s : Sem Value) : Prop := semH P s h fun v h => shapeP P o.type v fun v => K v h
  match o.op with
  | .nilCheck x => (match ρ x with
    | .pointer p => ∃ b o, p = some ⟨b, o, none⟩ ∧ K (.pointer (some ⟨b, o, none⟩)) h
    | .func (.func f) a b => K (.func (.func f) a b) h
    | .iface t v => K (.iface t v) h
    | _ => False)
  | .indexAddr t x i => (match P.underlying t, ρ x, ρ i with
    | some (.slice e), .slice p n _, .int _ j => Guard (P.info? e).isSome (∃ b o, p = some ⟨b, o, none⟩ ∧ 0 ≤ j ∧ j < n ∧ K (.pointer (some ⟨b, o + j.toNat * P.cellsOf e, none⟩)) h)
    | _, _, _ => semN P (execOp ρ o) h K D)
  | .fieldAddr t x f => (match P.underlying t, ρ x with
    | some (.struct fs), .pointer (some a) => (match fs[f]? with
      | some fl => Guard (a.spot.isNone && (P.cellsOf fl.type != 0) && (P.info? fl.type).isSome) (K (.pointer (some ⟨a.block, addO a.off fl.offset, none⟩)) h)
      | none => False)
    | _, _ => False)
  | .index t x i => (match P.underlying t, ρ x, ρ i with
    | some .string, .string s, .int _ j => 0 ≤ j ∧ ∃ b, s[j.toNat]? = some b ∧ K (.int .u8 b.toNat) h
    | _, _, _ => leaf (Instr.index t (ρ x) (ρ i)))
  | .load t a => (match ρ a, P.underlying t with
    | .pointer (some a), some (.struct _) | .pointer (some a), some (.array _ _) => Guard (a.spot.isNone && decide ((flatP P 20 t).length = P.cellsOf t)) (loadL h a.block a.off (flatP P 20 t) 0 [] fun l => K (.agg l.toArray) h)
    | .pointer (some a), some d => Guard a.spot.isNone (loadL h a.block a.off [d] 0 [] fun l => (match l with
      | [v] => K v h
      | _ => False))
    | _, _ => False)
  | .store t a x => (match ρ a with
    | .pointer (some a) => Guard (a.spot.isNone && (P.info? t).isSome) (cellsG P t (ρ x) fun cs => Guard (cs.length == P.cellsOf t) (storeL a.block a.off cs 0 h fun h => K undef h))
    | _ => False)
  | .pick c a b => (match ρ c with
    | .bool t => BIf t (K (ρ a) h) (K (ρ b) h)
    | _ => False)
  | .build t parts => (match zeroL P t, P.underlying t with
    | some z, some (.struct fs) => Guard (fs.toList.all fun f => (P.info? f.type).isSome) (fillG P t (parts.toList.map fun q => (q.1, ρ q.2)) z fun cs => K (.agg cs.toArray) h)
    | some z, some (.array _ e) => Guard ((P.info? e).isSome) (fillG P t (parts.toList.map fun q => (q.1, ρ q.2)) z fun cs => K (.agg cs.toArray) h)
    | _, _ => False)
  | .buildSlice t len parts => (match P.underlying t with
    | some (.slice e) => (match zeroL P e with
      | some z => Guard (decide (len * P.cellsOf e ≤ 2 ^ 24) && z.length == P.cellsOf e && (P.info? e).isSome && P.cellsOf e != 0) (fillG P t (parts.toList.map fun q => (q.1, ρ q.2)) (repL len z) fun cs => newH h (.cells cs.toArray e) fun h' => K (.slice (some ⟨h.size, 0, none⟩) len len) h')
      | none => False)
    | _ => False)
  | .box t x => cellsG P t (ρ x) fun cs => newH h (.cells cs.toArray t) fun h' => K (.pointer (some ⟨h.size, 0, none⟩)) h'
  | .alloc t => (match zeroL P t with
    | some z => newH h (.cells z.toArray t) fun h' => K (.pointer (some ⟨h.size, 0, none⟩)) h'
    | none => False)
  | .makeMap _ none => newH h (.map #[] 0) fun h' => K (.map (some h.size)) h'
  | .makeFunc fn first cap => K (.func fn (first.toList.map ρ).toArray (cap.toList.map ρ).toArray) h
  | .extract t ix => (match ρ t with
    | .tuple vs => (match nth vs.toList ix with
      | some v => K v h
      | none => False)
    | _ => False)
  | .field t x f => (match P.underlying t, ρ x with
    | some (.struct fs), .agg cs => (match fs[f]? with
      | some fl => Guard (P.info? fl.type).isSome (partG P fl.type cs.toList fl.offset fun v => K v h)
      | none => False)
    | _, _ => False)
  | .lookup t x i ok => leaf (Instr.lookup t (ρ x) (ρ i) ok)
  | .mapUpdate t m k x | .insert t m k x => semH P (Instr.mapUpdate t (ρ m) (ρ k) (ρ x)) h fun _ h => K undef h
  | .range t x => leaf (Instr.range t (ρ x))
  | .next it s => leaf (Instr.next (ρ it) s o.type)
  | .typeAssert x t a ok => semH P (Instr.typeAssert (ρ x) t a ok) h fun v h => shapeP P o.type v fun v => okShape P ok o.type v fun v => K v h
  | .slice t x lo hi mx => leaf (Instr.sliceAt t (ρ x) (lo.map ρ) (hi.map ρ) (mx.map ρ))
  | .makeSlice t l c => leaf (Instr.makeSlice t (ρ l) (ρ c))
  | .convert s d x => (match P.underlying s, P.underlying d, ρ x with
    | some (.int _), some (.int k), .int _ n => K (.int k (k.wrap n)) h
    | _, _, _ => leaf (convert s d (ρ x)))
  | .binOp op t x y _ => (match eqLeaf P op t with
    | true => leaf (binOpG op t x y (ρ x) (ρ y))
    | false => (match ρ x, ρ y with
      | .int k a, .int k' b => (match op with
        | .quo => Guard (k == k') (b ≠ 0 ∧ K (.int k (k.wrap (a.tdiv b))) h)
        | .rem => Guard (k == k') (b ≠ 0 ∧ K (.int k (a.tmod b)) h)
        | .shl => 0 ≤ b ∧ K (.int k (k.wrap (a * 2 ^ (min b.toNat k.bits)))) h
        | .shr => 0 ≤ b ∧ K (.int k (a.fdiv (2 ^ (min b.toNat k.bits)))) h
        | _ => semN P (execOp ρ o) h K D)
      | .bool _, .bool _ | .string _, .string _ => (match op with
        | .add => leaf (binOp .add t (ρ x) (ρ y))
        | _ => semN P (execOp ρ o) h K D)
      | _, _ => (match op with
        | .eql | .neq => leaf (binOpG op t x y (ρ x) (ρ y))
        | _ => False)))
  | .call c => (match c.callee with
    | .value f => CallV P (ρ f) (c.args.toList.map ρ) h fun v h => shapeP P o.type v fun v => K v h
    | .invoke r name => InvokeH P (ρ r) name (c.args.toList.map ρ) h fun v h => shapeP P o.type v fun v => K v h
    | .builtin .append | .builtin .copy | .builtin .clear | .builtin .delete => (match c.callee with
      | .builtin b => leaf (builtinG b c.argTypes o.type (c.args.toList.map ρ).toArray)
      | _ => False)
    | .builtin .len => (match c.args.toList.map ρ, lenT P c.argTypes with
      | [.map r], _ => leaf (builtinG .len c.argTypes o.type #[.map r])
      | [.slice _ n _], some (.slice _) => K (.int .i64 n) h
      | [.string s], some .string => K (.int .i64 s.size) h
      | _, _ => semN P (execOp ρ o) h K D)
    | .builtin _ => semN P (execOp ρ o) h K D)
  | _ => semN P (execOp ρ o) h K D

/-! ### A region -/
def slotF (ops : List Oper) (j : Nat) : Option Nat :=
  match nth ops j with
  | some o => o.dst
  | none => none
def opRun (P : Program) (o : Oper) (fr : Fr) (ds : List Deferred) (h : Heap) (K : Fr → List Deferred → Heap → Prop) : Prop :=
  Guard (availF fr o.op.operands.toList) (opH P (rhoF fr) o h (fun v h => K (putF fr o.dst v) ds h) (fun d h => K (putF fr o.dst undef) (d :: ds) h))
def opSkip (o : Oper) (fr : Fr) (ds : List Deferred) (h : Heap) (K : Fr → List Deferred → Heap → Prop) : Prop := K (putF fr o.dst undef) ds h
def opStep (P : Program) (ops : List Oper) (o : Oper) (fr : Fr) (ds : List Deferred) (h : Heap) (K : Fr → List Deferred → Heap → Prop) : Prop :=
  match o.guard with
  | none => opRun P o fr ds h K
  | some (j, want) => (match slotF ops j with
    | some d => (match nthF fr d with
      | some (.bool b) => (match want with
        | true => BIf b (opRun P o (fr.set d (some (.bool true))) ds h K) (opSkip o (fr.set d (some (.bool false))) ds h K)
        | false => BIf b (opSkip o (fr.set d (some (.bool true))) ds h K) (opRun P o (fr.set d (some (.bool false))) ds h K))
      | some (.tuple _) => opSkip o fr ds h K
      | _ => False)
    | none => False)
/-- In the text's order. -/
def opsT (P : Program) (ops : List Oper) : List Oper → Fr → List Deferred → Heap → (Fr → List Deferred → Heap → Prop) → Prop
  | [], fr, ds, h, K => K fr ds h
  | o :: r, fr, ds, h, K => opStep P ops o fr ds h fun fr ds h => opsT P ops r fr ds h K
/-- In the order of a list of places. -/
def opsI (P : Program) (ops : List Oper) : List Nat → Fr → List Deferred → Heap → (Fr → List Deferred → Heap → Prop) → Prop
  | [], fr, ds, h, K => K fr ds h
  | i :: r, fr, ds, h, K => (match nth ops i with
    | some o => opStep P ops o fr ds h fun fr ds h => opsI P ops r fr ds h K
    | none => False)

/-! ### A region that draws its order: every order, as few ways as can be -/
/-- Of each operation the set (bits) of all that must stand ahead of it. -/
def predsB (m : List Nat) : List Edge → Nat
  | [] => 0
  | e :: r => if Region.binds .any e then (m.getD e.on 0 ||| (1 <<< e.on)) ||| predsB m r else predsB m r
def predsL : List Oper → List Nat → List Nat
  | [], acc => acc
  | o :: r, acc => predsL r (acc ++ [predsB acc o.after.toList])
/-- It asks nothing of the heap and leaves it alone, at such operands. -/
def pureNow (P : Program) (ρ : Operand → Value) (o : Oper) : Bool :=
  match o.op with
  | .move _ | .assign _ | .pick _ _ _ | .extract _ _ | .makeFunc _ _ _ | .field _ _ _ | .makeInterface _ _ | .build _ _ => true
  | .unOp op _ x => (match op, ρ x with | .not, .bool _ => true | _, _ => false)
  | .index t x i => (match P.underlying t, ρ x, ρ i with
    | some .string, .string _, .int _ _ => true
    | _, _, _ => false)
  | .indexAddr t x i => (match P.underlying t, ρ x, ρ i with
    | some (.slice _), .slice _ _ _, .int _ _ => true
    | _, _, _ => false)
  | .fieldAddr _ _ _ => true
  | .nilCheck x => (match ρ x with | .pointer _ => true | _ => false)
  | .binOp op t x y _ => (match eqLeaf P op t with
    | true => false
    | false => (match ρ x, ρ y with
      | .int _ _, .int _ _ => (match op with
        | .quo | .rem | .shl | .shr => false
        | _ => true)
      | _, _ => false))
  | .call c => (match c.callee with
    | .builtin .len => (match c.args.toList.map ρ, lenT P c.argTypes with
      | [.slice _ _ _], some (.slice _) => true
      | [.string _], some .string => true
      | _, _ => false)
    | _ => false)
  | _ => false
def isLoad (o : Oper) : Bool := match o.op with
  | .load _ _ => true
  | _ => false
/-- Whatever its operands: it turns nothing that is there. -/
def growKind (o : Oper) : Bool :=
  match o.op with
  | .move _ | .assign _ | .pick _ _ _ | .extract _ _ | .makeFunc _ _ _ | .field _ _ _ | .makeInterface _ _ | .build _ _ | .unOp _ _ _ | .index _ _ _ | .indexAddr _ _ _ | .slice _ _ _ _ _
  | .fieldAddr _ _ _ | .nilCheck _ | .load _ _ | .alloc _ | .box _ _ | .makeMap _ none | .buildSlice _ _ _ => true
  | .binOp op _ _ _ _ => (match op with | .eql | .neq => false | _ => true)
  | .call c => (match c.callee with
    | .builtin .len => true
    | _ => false)
  | _ => false
def remove1 (x : Nat) : List Nat → List Nat
  | [] => []
  | y :: r => if x == y then r else y :: remove1 x r
/-- The slots that an operation reads. -/
def readsSlot (ops : List Oper) (o : Oper) (d : Nat) : Bool :=
  o.op.operands.toList.any (fun x => match x with | .tmp t => t == d | _ => false) ||
  (match o.guard with | some (j, _) => (match nth ops j with | some g => g.dst == some d | none => true) | none => false)
def apartSlots (ops : List Oper) (x y : Oper) : Bool :=
  (match x.dst with | some d => !readsSlot ops y d && y.dst != some d | none => true) && (match y.dst with | some d => !readsSlot ops x d | none => true)
/-- The guard's say: wanted, not wanted, not known. -/
def wantF (ops : List Oper) (o : Oper) (fr : Fr) : Option Bool :=
  match o.guard with
  | none => some true
  | some (j, want) => (match slotF ops j with
    | some d => (match nthF fr d with
      | some (.bool b) => some (b == want)
      | some (.tuple _) => some false
      | _ => none)
    | none => none)
def skipNow (ops : List Oper) (o : Oper) (fr : Fr) : Bool := match wantF ops o fr with
  | some b => !b
  | none => false
/-- May x come ahead of all that could stand before it? -/
def first? (P : Program) (ops : List Oper) (pm : List Nat) (rem : List Nat) (fr : Fr) (x : Nat) : Bool :=
  match nth ops x with
  | none => false
  | some o => rem.all fun y => y == x || (pm.getD y 0).testBit x ||
      (match nth ops y with
       | none => false
       | some oy => apartSlots ops o oy && (pureNow P (rhoF fr) o || (isLoad o && growKind oy) || skipNow ops o fr))
def ready? (pm : List Nat) (rem : List Nat) (x : Nat) : Bool := rem.all fun y => y == x || !(pm.getD x 0).testBit y
/-- Each edge that binds leads back; and the order is drawn by the edges. -/
def edgesOK : List Oper → Nat → Bool
  | [], _ => true
  | o :: r, i => o.after.toList.all (fun e => !Region.binds .any e || Nat.blt e.on i) && edgesOK r (i + 1)
def drawOK (P : Program) (ops : Array Oper) : Bool := edgesOK ops.toList 0 && (P.follows .mixedOrders || !Region.departs ops)
def explore (P : Program) (ops : List Oper) (pm : List Nat) : Nat → List Nat → Fr → List Deferred → Heap → (Fr → List Deferred → Heap → Prop) → Prop
  | 0, _, fr, ds, h, K => K fr ds h
  | n + 1, rem, fr, ds, h, K =>
    let rs := rem.filter (ready? pm rem)
    match rs.find? (first? P ops pm rem fr) with
    | some x => (match nth ops x with
      | some o => opStep P ops o fr ds h fun fr ds h => explore P ops pm n (remove1 x rem) fr ds h K
      | none => False)
    | none => rs.foldr (fun x (acc : Prop) => (match nth ops x with
      | some o => opStep P ops o fr ds h fun fr ds h => explore P ops pm n (remove1 x rem) fr ds h K
      | none => False) ∧ acc) True

/-! ### Code -/
def LoopN (body : Fr → List Deferred → Heap → (Exit → Fr → List Deferred → Heap → Prop) → Prop) : Nat → Fr → List Deferred → Heap → (Exit → Fr → List Deferred → Heap → Prop) → Prop
  | 0, _, _, _, _ => False
  | n + 1, fr, ds, h, K => body fr ds h fun e fr ds h => match e with
    | .normal => LoopN body n fr ds h K
    | e => K e fr ds h
def LoopH (body : Fr → List Deferred → Heap → (Exit → Fr → List Deferred → Heap → Prop) → Prop) (fr : Fr) (ds : List Deferred) (h : Heap) (K : Exit → Fr → List Deferred → Heap → Prop) : Prop :=
  ∃ n, LoopN body n fr ds h K

/-- At the end of a block. -/
def blockK (id : Nat) (K : Exit → Fr → List Deferred → Heap → Prop) (e : Exit) (fr : Fr) (ds : List Deferred) (h : Heap) : Prop :=
  match e with
  | .exit i => (match i == id with
    | true => K .normal fr ds h
    | false => K (.exit i) fr ds h)
  | e => K e fr ds h
/-- Behind a first part: on with the second. -/
def seqK (Y : Fr → List Deferred → Heap → (Exit → Fr → List Deferred → Heap → Prop) → Prop) (K : Exit → Fr → List Deferred → Heap → Prop) (e : Exit) (fr : Fr) (ds : List Deferred) (h : Heap) : Prop :=
  match e with
  | .normal => Y fr ds h K
  | e => K e fr ds h
/-- It enters a function of the program. -/
def entersB (P : Program) (f : FuncId) : Bool := match P.funcs[f]? with
  | some fn => fn.body.isSome && !(fn.name == "runtime.NumGoroutine")
  | none => false
def Fits (fr : Fr) (t : Array Value) : Prop := fr.length = t.size ∧ ∀ i v, nth fr i = some (some v) → t[i]? = some v
/-- The record of a range over a function, as it is laid. -/
structure LoopIs (r : Loop) (fr : Fr) (ps : Array Tmp) (assign body : Code) (D : Nat) : Prop where
  state : r.state = .ready
  pending : r.pending = none
  tmps : Fits fr r.tmps
  params : r.params = ps
  assign : r.assign = assign
  body : r.body = body
  defers : r.defers = D
def jumpK (c : Code) (K : Exit → Prop) : Prop := match c with
  | .ret => K .ret
  | .exit i => K (.exit i)
  | .goto l => K (.goto l)
  | _ => False
/-- The function that was ranged over has come back. -/
def endK (l : Nat) (fr : Fr) (ds : List Deferred) (K : Exit → Fr → List Deferred → Heap → Prop) (h : Heap) : Prop :=
  ∃ r, h[l]? = some (.loop r) ∧ r.state ≠ .busy ∧ (match r.pending with
    | none => K .normal fr ds (h.setIfInBounds l (.loop { r with state := .exhausted }))
    | some c => jumpK c fun e => K e fr ds (h.setIfInBounds l (.loop { r with state := .exhausted })))
def rangeG (P : Program) (R : Option Nat) (g : Value) (ps : Array Tmp) (assign body : Code) (fr : Fr) (ds : List Deferred) (h : Heap) (K : Exit → Fr → List Deferred → Heap → Prop) : Prop :=
  match g with
  | .func (.func f) first cap => Guard (entersB P f) (match R with
    | none => ∀ r : Loop, LoopIs r fr ps assign body h.size → CallH P f (first.toList ++ [Value.func (.yield (h.size + 1)) #[] #[]] ++ cap.toList).toArray ((h.push (.deferred (some []))).push (.loop r)) fun _ h' => endK (h.size + 1) fr ({ target := .collected h.size, args := #[] } :: ds) K h'
    | some l₀ => ∃ r₀, h[l₀]? = some (.loop r₀) ∧ ∀ r : Loop, LoopIs r fr ps assign body r₀.defers → CallH P f (first.toList ++ [Value.func (.yield h.size) #[] #[]] ++ cap.toList).toArray (h.push (.loop r)) fun _ h' => endK h.size fr ds K h')
  | _ => False
def dn (P : Program) (M : Nat → Nat) (R : Option Nat) : Code → Fr → List Deferred → Heap → (Exit → Fr → List Deferred → Heap → Prop) → Prop
  | .skip, fr, ds, h, K => K .normal fr ds h
  | .label _, fr, ds, h, K => K .normal fr ds h
  | .exit id, fr, ds, h, K => K (.exit id) fr ds h
  | .goto l, fr, ds, h, K => K (.goto l) fr ds h
  | .ret, fr, ds, h, K => K .ret fr ds h
  | .seq x y, fr, ds, h, K => dn P M R x fr ds h (seqK (dn P M R y) K)
  | .cond c x y, fr, ds, h, K => (match getF fr c with
    | some (.bool b) => BIf b (dn P M R x (clearF fr c) ds h K) (dn P M R y (clearF fr c) ds h K)
    | _ => False)
  | .block id c, fr, ds, h, K => dn P M R c fr ds h (blockK id K)
  | .loop c, fr, ds, h, K => LoopH (dn P M R c) fr ds h K
  | .region id ops draw, fr, ds, h, K => (match draw with
    | false => opsT P ops.toList ops.toList fr ds h fun fr ds h => K .normal (maskF (M id) fr) ds h
    | true => Guard (drawOK P ops) (explore P ops.toList (predsL ops.toList []) ops.size (List.range ops.size) fr ds h fun fr ds h => K .normal (maskF (M id) fr) ds h))
  | .rangeFunc g ps assign body, fr, ds, h, K => (match getF fr g with
    | some v => rangeG P R v ps assign body fr ds h K
    | none => False)
  | .scope _, _, _, _, _ => False
  | .refuse _, _, _, _, _ => False

/-! ### A function -/
def mkFr : Nat → Nat → List (Nat × Value) → Fr
  | 0, _, _ => []
  | n + 1, i, (j, v) :: r => (match i == j with
    | true => some v :: mkFr n (i + 1) r
    | false => none :: mkFr n (i + 1) ((j, v) :: r))
  | n + 1, i, [] => none :: mkFr n (i + 1) []
/-- 'n' slots, of which these are known (rising). -/
abbrev FrL (n : Nat) (l : List (Nat × Value)) : Fr := mkFr n 0 l
def initF : Nat → List Value → Fr
  | n, [] => List.replicate n (some undef)
  | 0, _ :: _ => []
  | n + 1, v :: r => some v :: initF n r
/-- A call of a function as a deferred one. -/
def DefH (P : Program) (f : FuncId) (args : Array Value) (h : Heap) (Q : Value → Heap → Prop) : Prop :=
  ∀ w : World, w.heap = h → (callFunc f args).run P w = .ok (.enter f args) w ∧
    CallsDIn Wd 0 P f args .returning w fun e u w' => ∃ v, e = .returned v ∧ u = .returning ∧ Q v w'.heap ∧ Outer w w'
def leaveH (P : Program) : List Deferred → Heap → (Heap → Prop) → Prop
  | [], h, K => K h
  | d :: ds, h, K => (match d.target with
    | .fn (.func f) cap => DefH P f (d.args ++ cap) h fun _ h => leaveH P ds h K
    | .collected r => h[r]? = some (.deferred (some [])) ∧ leaveH P ds (h.setIfInBounds r (.deferred none)) K
    | _ => False)
def resultsH (P : Program) : List ResultVar → Fr → List Value → Heap → (List Value → Heap → Prop) → Prop
  | [], _, acc, h, K => K acc.reverse h
  | .tmp t :: r, fr, acc, h, K => (match nthF fr t with
    | some v => resultsH P r fr (v :: acc) h K
    | none => False)
  | .cell a t :: r, fr, acc, h, K => (match nthF fr a with
    | some _ => opH P (rhoF fr) { dst := none, op := .load t (.tmp a), type := t, pos := "", after := #[], guard := none } h (fun v h => resultsH P r fr (v :: acc) h K) (fun _ _ => False)
    | none => False)
def resultV : List Value → Value
  | [v] => v
  | l => .tuple l.toArray
def exitH (P : Program) (fn : Func) (Q : Value → Heap → Prop) (e : Exit) (fr : Fr) (ds : List Deferred) (h : Heap) : Prop :=
  match e with
  | .normal | .ret => leaveH P ds h fun h => resultsH P fn.results.toList fr [] h fun vs h => Q (resultV vs) h
  | _ => False
def fnH (P : Program) (M : Nat → Nat) (fn : Func) (args : List Value) (h : Heap) (Q : Value → Heap → Prop) : Prop :=
  match fn.body with
  | some c => dn P M none c (initF fn.ntmps args) [] h (exitH P fn Q)
  | none => False
/-- A piece of a function's code, by the way to it. -/
def codeAt : Code → List Nat → Code
  | c, [] => c
  | .seq x y, i :: r => (match i with | 0 => codeAt x r | _ => codeAt y r)
  | .cond _ x y, i :: r => (match i with | 0 => codeAt x r | _ => codeAt y r)
  | .block _ c, _ :: r => codeAt c r
  | .loop c, _ :: r => codeAt c r
  | .rangeFunc _ _ x y, i :: r => (match i with | 0 => codeAt x r | _ => codeAt y r)
  | .scope c, _ :: r => codeAt c r
  | c, _ => c
def bodyC (fn : Func) : Code := fn.body.getD .skip

end Go.Proofs.Ytabidhoaginokaa.Vc
