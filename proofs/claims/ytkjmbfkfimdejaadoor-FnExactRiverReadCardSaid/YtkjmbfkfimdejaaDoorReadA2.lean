/- The reading runs by itself: one step of code, reckoned. -/
import Derived.Test.YtkjmbfkfimdejaaDoorReadA1
import Derived.Test.YtkjmbfkfimdejaaDoorProg
import Derived.Test.YtkjmbfkfimdejaaDoorChecked
import Derived.KernelRfl
import Derived.Still
import Derived.Sort.Grow
import Derived.Deep.Draws
import Derived.Shelf.Strings.Builder1
import Derived.Shelf.Strings.BuilderF
import Derived.Shelf.Strings.BuilderK
import Derived.Shelf.Utf8.RuneCount
import Derived.Shelf.Strconv.Itoa0
import Derived.Shelf.Strconv.Itoa1
import Derived.Shelf.LaysM
import Derived.Shelf.Strconv.Itoa2
import Derived.Shelf.Strconv.Itoa3
import Derived.Shelf.Strings.Search1
import Derived.Shelf.Strings.Search2
import Derived.Shelf.Strings.Search3
import Derived.Shelf.Strings.Count
import Derived.Shelf.Strings.Shaped
import Derived.Shelf.Strings.Split
import Derived.Shelf.Strings.SplitShaped
import Derived.Shelf.Unicode.Decode
import Derived.Shelf.Strings.RuneCount
import Derived.Shelf.Strings.Explode
import Derived.Shelf.Unicode.DecodeSlow
import Derived.Shelf.Unicode.DecodeAny
import Derived.Shelf.Strings.BuilderCap
namespace Go.PM
open Go.RowKit

section look
variable {α : Type}
def Env.lookK : Env → Nat → (PV → α) → α
  | [], _, k => k .any
  | (i, v) :: e, n, k => match Nat.beq i n with
    | true => k v
    | false => Env.lookK e n k

theorem Env.lookK_eq : ∀ (e : Env) (n : Nat) (k : PV → α), Env.lookK e n k = k (e.get n)
  | [], _, _ => rfl
  | (i, v) :: e, n, k => by
    simp only [Env.lookK, Env.get]
    split
    · rename_i h; rw [if_pos (Nat.eq_of_beq_eq_true h)]
    · rename_i h; rw [if_neg (Nat.ne_of_beq_eq_false h)]; exact Env.lookK_eq e n k

def constK (v : Value) (k : PV → α) : α :=
  match v with
  | .int i n => k (.int i n)
  | .bool b => k (.bool b)
  | .string ⟨⟨l⟩⟩ => k (.str l)
  | v => k (constPV v)

theorem constK_eq (v : Value) (k : PV → α) : constK v k = k (constPV v) := by
  unfold constK; split <;> rfl

def Env.opK (e : Env) (x : Operand) (k : PV → α) : α :=
  match x with
  | .tmp t => e.lookK t k
  | .const v => constK v k
  | _ => k .any

theorem Env.opK_eq (e : Env) (x : Operand) (k : PV → α) : e.opK x k = k (e.ev x) := by
  unfold Env.opK
  split
  · exact Env.lookK_eq e _ k
  · exact constK_eq _ k
  · rename_i h1 h2; cases x <;> first | rfl | (exact absurd rfl (h1 _)) | (exact absurd rfl (h2 _))

def Heap.lookK : Heap → Nat → (Option Blk → α) → α
  | [], _, k => k none
  | (i, v) :: e, n, k => match Nat.beq i n with
    | true => k (some v)
    | false => Heap.lookK e n k

theorem Heap.lookK_eq : ∀ (e : Heap) (n : Nat) (k : Option Blk → α), Heap.lookK e n k = k (e.get n)
  | [], _, _ => rfl
  | (i, v) :: e, n, k => by
    simp only [Heap.lookK, Heap.get]
    split
    · rename_i h; rw [if_pos (Nat.eq_of_beq_eq_true h)]
    · rename_i h; rw [if_neg (Nat.ne_of_beq_eq_false h)]; exact Heap.lookK_eq e n k

def nthO {β : Type} : List β → Nat → Option β
  | [], _ => none
  | x :: _, 0 => some x
  | _ :: xs, n + 1 => nthO xs n

theorem nthO_eq {β : Type} : ∀ (l : List β) (n : Nat), nthO l n = l[n]?
  | [], _ => rfl
  | _ :: _, 0 => rfl
  | _ :: xs, n + 1 => by simpa [nthO] using nthO_eq xs n

/-- The first cells, if there are so many. -/
def takeK : Nat → List PV → (List PV → Option α) → Option α
  | 0, _, k => k []
  | _ + 1, [], _ => none
  | n + 1, x :: xs, k => takeK n xs fun l => k (x :: l)

theorem takeK_eq : ∀ (n : Nat) (xs : List PV) (k : List PV → Option α) (r : α), takeK n xs k = some r → k (xs.take n) = some r ∧ n ≤ xs.length
  | 0, xs, k, r, h => ⟨by simpa [takeK] using h, by simp⟩
  | _ + 1, [], _, _, h => by simp [takeK] at h
  | n + 1, x :: xs, k, r, h => by
    obtain ⟨h1, h2⟩ := takeK_eq n xs (fun l => k (x :: l)) r (by simpa [takeK] using h)
    exact ⟨by simpa using h1, by simpa using h2⟩

def appK : List PV → List PV → (List PV → α) → α
  | [], ys, k => k ys
  | x :: xs, ys, k => appK xs ys fun l => k (x :: l)

theorem appK_eq : ∀ (xs ys : List PV) (k : List PV → α), appK xs ys k = k (xs ++ ys)
  | [], _, _ => rfl
  | x :: xs, ys, k => by simpa [appK] using appK_eq xs ys fun l => k (x :: l)

def setK : List PV → Nat → PV → (List PV → α) → α
  | [], _, _, k => k []
  | _ :: xs, 0, v, k => k (v :: xs)
  | x :: xs, n + 1, v, k => setK xs n v fun l => k (x :: l)

theorem setK_eq : ∀ (xs : List PV) (n : Nat) (v : PV) (k : List PV → α), setK xs n v k = k (xs.set n v)
  | [], _, _, _ => rfl
  | _ :: _, 0, _, _ => rfl
  | x :: xs, n + 1, v, k => by simpa [setK] using setK_eq xs n v fun l => k (x :: l)

def lenIs : List PV → Nat → Bool
  | [], 0 => true
  | _ :: xs, n + 1 => lenIs xs n
  | _, _ => false

theorem lenIs_eq : ∀ {xs : List PV} {n : Nat}, lenIs xs n = true → xs.length = n
  | [], 0, _ => rfl
  | _ :: xs, n + 1, h => by simp [lenIs_eq (xs := xs) (n := n) (by simpa [lenIs] using h)]
  | [], _ + 1, h => by simp [lenIs] at h
  | _ :: _, 0, h => by simp [lenIs] at h
end look

abbrev TyT := List (Option TyE)
def tyO (T : TyT) (t : Nat) : Option TyE := match nthO T t with | some (some e) => some e | _ => none

theorem tyO_eq {T : TyT} {t : Nat} {e : TyE} (h : tyO T t = some e) : T[t]? = some (some e) := by
  unfold tyO at h
  rw [nthO_eq] at h
  split at h
  · rename_i x hx; rw [hx]; simpa using h
  · cases h

def loadK (e : TyE) (y : PV) (off : Nat) : Option PV :=
  match y with
  | .agg cs => (match e.isAgg with
    | true => match e.size with
      | 0 => none
      | n + 1 => takeK (n + 1) (cs.drop off) fun l => some (.agg l)
    | false => match nthO cs off with
      | some p => if p.scal then some p else none
      | none => none)
  | p => match e.isAgg, off, p.scal with
    | false, 0, true => some p
    | _, _, _ => none

theorem loadK_eq {e : TyE} {y p : PV} {off : Nat} (h : loadK e y off = some p) : subP e y.cells off = some p := by
  unfold loadK at h
  unfold subP
  split at h
  · split at h
    · rename_i ha
      split at h
      · cases h
      · rename_i n hn
        obtain ⟨h1, h2⟩ := takeK_eq _ _ _ _ h
        simp only [List.length_drop] at h2
        rw [if_pos ha, hn]
        rw [if_pos (by simp only [PV.cells]; omega)]
        exact h1
    · rename_i ha
      rw [if_neg (by simp [ha])]
      rw [nthO_eq] at h
      exact h
  · rename_i hne
    split at h
    · rename_i ha hs
      rw [if_neg (by simp [ha])]
      have : y.cells = [y] := by cases y <;> first | rfl | (exact absurd rfl (hne _))
      rw [this]
      simp only [List.getElem?_cons_zero, hs, if_true]
      exact h
    · cases h

def PV.whole (p : PV) : Bool := p.scal || match p with | .agg _ | .any => true | _ => false

theorem PV.whole_or {p : PV} (h : p.whole = true) : p.scal = true ∨ (∃ cs, p = .agg cs) ∨ p = .any := by
  cases p <;> simp_all [PV.whole, PV.scal]

def intZero : Int → Bool
  | .ofNat 0 => true
  | _ => false

/-- What an operation that only computes yields, where that can be reckoned. -/
def evPure (T : TyT) (env : Env) (H : Heap) (o : Op) : Option PV :=
  match o with
  | .move x => env.opK x some
  | .assign x => env.opK x some
  | .pick c x y => env.opK c fun c => match c with
    | .bool true => env.opK x some
    | .bool false => env.opK y some
    | _ => none
  | .unOp op _ x => env.opK x fun p => match op, p with
    | .not, .bool b => some (.bool !b)
    | .neg, .int k n => some (.int k (k.wrap (0 - n)))
    | _, _ => none
  | .binOp op t x y _ => env.opK x fun p => env.opK y fun q => match p, q with
    | .int k m, .int k' n => (match k == k' with
      | true => (match op, n with
        | .quo, .ofNat (_ + 1) => some (.int k (k.wrap (m.tdiv n)))
        | .rem, .ofNat (_ + 1) => some (.int k (m.tmod n))
        | _, _ => binInt op k m n)
      | false => none)
    | .str m, .str n => binStr op m n
    | .bool m, .bool n => (match tyO T t with
      | some e => (match e.kind, op with
        | .bool, .eql => some (.bool (m == n))
        | .bool, .neq => some (.bool (!(m == n)))
        | _, _ => none)
      | none => none)
    | _, _ => none
  | .convert t t' x => env.opK x fun p => match p with
    | .int _ n => (match tyO T t, tyO T t' with
      | some _, some e' => (match e'.kind with
        | .int k' => some (.int k' (k'.wrap n))
        | _ => none)
      | _, _ => none)
    | _ => none
  | .nilCheck x => env.opK x fun p => match p with
    | .sp e off => some (.sp e off)
    | .ptr id l0 i off => H.lookK id fun b => (match b with
      | some b => (match lenIs b.elems l0 with
        | true => some (.ptr id l0 i off)
        | false => none)
      | none => none)
    | _ => none
  | .extract x i => env.opK x fun p => match p with
    | .tup fs => (match nthO fs i with
      | some p => if p.whole then some p else none
      | none => none)
    | _ => none
  | .load t x => env.opK x fun p => match p with
    | .sp y off => (match tyO T t with
      | some e => loadK e y off
      | none => none)
    | .ptr id l0 i off => H.lookK id fun b => (match b, tyO T t with
      | some b, some e => (match lenIs b.elems l0, nthO b.elems i with
        | true, some y => loadK e y off
        | _, _ => none)
      | _, _ => none)
    | _ => none
  | .fieldAddr t x f => (match tyO T t with
    | some e => (match e.kind with
      | .struct fs => (match nthO fs f with
        | some (fo, ft) => (match tyO T ft with
          | some fe => (match fe.size with
            | 0 => none
            | _ + 1 => env.opK x fun p => match p with
              | .sp y off => some (.sp y (off + fo))
              | .ptr id l0 i off => H.lookK id fun b => (match b with
                | some b => (match lenIs b.elems l0 with
                  | true => some (.ptr id l0 i (off + fo))
                  | false => none)
                | none => none)
              | _ => none)
          | none => none)
        | none => none)
      | _ => none)
    | none => none)
  | .indexAddr t x y => (match tyO T t with
    | some e => (match e.kind with
      | .slice et => (match tyO T et with
        | some ee => env.opK x fun p => env.opK y fun q => (match p, q with
          | .snap z xs, .int _ (.ofNat n) => (match Nat.beq ee.size z, nthO xs n with
            | true, some p => some (.sp p 0)
            | _, _ => none)
          | .sref id l0 off len, .int _ (.ofNat n) => H.lookK id fun b => (match b with
            | some b => (match lenIs b.elems l0, Nat.beq ee.size b.z, Nat.blt n len with
              | true, true, true => some (.ptr id l0 (off + n) 0)
              | _, _, _ => none)
            | none => none)
          | _, _ => none)
        | none => none)
      | _ => none)
    | none => none)
  | .index t x y => (match tyO T t with
    | some e => (match e.kind with
      | .str => env.opK x fun p => env.opK y fun q => (match p, q with
        | .str l, .int _ (.ofNat n) => (match nthO l n with
          | some b => some (.int .u8 b.toNat)
          | none => none)
        | _, _ => none)
      | _ => none)
    | none => none)
  | .call { callee := .builtin .len, args := ⟨[x]⟩, argTypes := ⟨[t]⟩ } => (match tyO T t with
    | some e => env.opK x fun p => (match e.kind, p with
      | .slice _, .snap _ xs => some (.int .i64 (xs.length : Nat))
      | .slice _, .nils => some (.int .i64 0)
      | .str, .str l => some (.int .i64 (l.length : Nat))
      | .slice _, .sref id l0 _ len => H.lookK id fun b => (match b with
        | some b => (match lenIs b.elems l0 with
          | true => some (.int .i64 (len : Nat))
          | false => none)
        | none => none)
      | _, _ => none)
    | none => none)
  | _ => none

def keyOf (p : PV) : List Nat :=
  match p with
  | .ptr id .. => [id]
  | .sref id .. => [id]
  | _ => []

/-- The blocks that an operation which only computes looks at. -/
def evRd (env : Env) (o : Op) : List Nat :=
  match o with
  | .nilCheck x => env.opK x keyOf
  | .load _ x => env.opK x keyOf
  | .fieldAddr _ x _ => env.opK x keyOf
  | .indexAddr _ x _ => env.opK x keyOf
  | .call { callee := .builtin .len, args := ⟨[x]⟩, argTypes := ⟨[_]⟩ } => env.opK x keyOf
  | _ => []

def keyK {α : Type} (p : PV) (k : List Nat → α) : α :=
  match p with
  | .ptr id .. => k [id]
  | .sref id .. => k [id]
  | _ => k []

theorem keyK_eq {α : Type} (p : PV) (k : List Nat → α) : keyK p k = k (keyOf p) := by cases p <;> rfl

def evRdK {α : Type} (env : Env) (o : Op) (k : List Nat → α) : α :=
  match o with
  | .nilCheck x => env.opK x fun p => keyK p k
  | .load _ x => env.opK x fun p => keyK p k
  | .fieldAddr _ x _ => env.opK x fun p => keyK p k
  | .indexAddr _ x _ => env.opK x fun p => keyK p k
  | .call { callee := .builtin .len, args := ⟨[x]⟩, argTypes := ⟨[_]⟩ } => env.opK x fun p => keyK p k
  | _ => k []

theorem evRdK_eq {α : Type} (env : Env) (o : Op) (k : List Nat → α) : evRdK env o k = k (evRd env o) := by
  unfold evRdK evRd
  split <;> simp only [Env.opK_eq, keyK_eq]

theorem OpD.more {B : Base} {o : Oper} {env : Env} {rd rd' : List Nat} {H : Heap} {p : PV} {δ : Heap} (hs : ∀ k ∈ rd, k ∈ rd') (h : OpD B o env rd H p δ) : OpD B o env rd' H p δ :=
  fun env2 H2 h1 h2 => h env2 H2 h1 fun k hk => h2 k (hs k hk)

theorem evPure_sound {B : Base} (hT : B.good) {d : Option Nat} {ty : TypeId} {ps : String} {af : Array Edge} {g : Option (Nat × Bool)} {env : Env} {H : Heap} {o : Op} {p : PV} (h : evPure B.T env H o = some p) : OpD B ⟨d, o, ty, ps, af, g⟩ env (evRd env o) H p [] := by
  unfold evPure at h
  simp only [Env.opK_eq, Heap.lookK_eq, nthO_eq] at h
  split at h
  · exact (od_move (by simpa using h)).more (by simp [evRd, *])
  · exact (od_assign (by simpa using h)).more (by simp [evRd, *])
  · split at h
    · rename_i hc; exact (od_pick_true hc (by simpa using h)).more (by simp [evRd, *])
    · rename_i hc; exact (od_pick_false hc (by simpa using h)).more (by simp [evRd, *])
    · cases h
  · split at h
    · rename_i hx; obtain rfl : _ = p := by simpa using h
      exact (od_not hx).more (by simp [evRd, *])
    · rename_i hx; obtain rfl : _ = p := Option.some.inj h
      exact (od_neg hx).more (by simp [evRd, *])
    · cases h
  · split at h
    · rename_i hx hy
      split at h
      · rename_i hk
        have hk := eq_of_beq hk
        subst hk
        split at h
        · obtain rfl : _ = p := Option.some.inj h
          exact (od_quo hx hy (by rw [Int.ofNat_eq_natCast]; omega)).more (by simp [evRd, *])
        · obtain rfl : _ = p := Option.some.inj h
          exact (od_rem hx hy (by rw [Int.ofNat_eq_natCast]; omega)).more (by simp [evRd, *])
        exact (od_bin hx hy h).more (by simp [evRd, *])
      · cases h
    · rename_i hx hy; exact (od_strs hx hy h).more (by simp [evRd, *])
    · rename_i hx hy
      split at h
      · rename_i e he
        split at h
        · rename_i hk; obtain rfl : _ = p := by simpa using h
          exact (od_eqb hT (tyO_eq he) hk hx hy).more (by simp [evRd, *])
        · rename_i hk; obtain rfl : _ = p := by simpa using h
          exact (od_neb hT (tyO_eq he) hk hx hy).more (by simp [evRd, *])
        · cases h
      · cases h
    · cases h
  · split at h
    · rename_i hx
      split at h
      · rename_i e e' h1 h2
        split at h
        · rename_i hk; obtain rfl : _ = p := by simpa using h
          exact (od_conv hT (tyO_eq h1) (tyO_eq h2) hk hx).more (by simp [evRd, *])
        · cases h
      · cases h
    · cases h
  · split at h
    · rename_i hx; obtain rfl : _ = p := by simpa using h
      exact (od_nilCheck_sp hx).more (by simp [evRd, Env.opK_eq, keyOf, *])
    · rename_i hx
      split at h
      · rename_i b hb
        split at h
        · rename_i hl; obtain rfl : _ = p := by simpa using h
          exact (od_nilCheck_ptr hx hb (lenIs_eq hl)).more (by simp [evRd, Env.opK_eq, keyOf, *])
        · cases h
      · cases h
    · cases h
  · split at h
    · rename_i hx
      split at h
      · rename_i q hq
        split at h
        · rename_i hw; obtain rfl : q = p := by simpa using h
          exact (od_extract hx hq (PV.whole_or hw)).more (by simp [evRd, *])
        · cases h
      · cases h
    · cases h
  · split at h
    · rename_i hx
      split at h
      · rename_i e he; exact (od_load_sp hT (tyO_eq he) hx (loadK_eq h)).more (by simp [evRd, Env.opK_eq, keyOf, *])
      · cases h
    · rename_i hx
      split at h
      · rename_i b e hb he
        split at h
        · rename_i y hl hy; exact (od_load hT (tyO_eq he) hx hb (lenIs_eq hl) hy (loadK_eq h)).more (by simp [evRd, Env.opK_eq, keyOf, *])
        · cases h
      · cases h
    · cases h
  · split at h
    · rename_i e he
      split at h
      · rename_i fs hk
        split at h
        · rename_i fo ft hf
          split at h
          · rename_i fe hfe
            split at h
            · cases h
            · rename_i n hz
              split at h
              · rename_i hx; obtain rfl : _ = p := by simpa using h
                exact (od_fieldAddr_sp hT (tyO_eq he) hk hf (tyO_eq hfe) (by omega) hx).more (by simp [evRd, Env.opK_eq, keyOf, *])
              · rename_i hx
                split at h
                · rename_i b hb
                  split at h
                  · rename_i hl; obtain rfl : _ = p := by simpa using h
                    exact (od_fieldAddr hT (tyO_eq he) hk hf (tyO_eq hfe) (by omega) hx hb (lenIs_eq hl)).more (by simp [evRd, Env.opK_eq, keyOf, *])
                  · cases h
                · cases h
              · cases h
          · cases h
        · cases h
      · cases h
    · cases h
  · split at h
    · rename_i e he
      split at h
      · rename_i et hk
        split at h
        · rename_i ee hee
          split at h
          · rename_i hx hy
            split at h
            · rename_i hz hp
              obtain rfl : _ = p := by simpa using h
              exact (od_indexAddr hT (tyO_eq he) hk (tyO_eq hee) (Nat.eq_of_beq_eq_true hz) hx hy (Int.natCast_nonneg _) hp).more (by simp [evRd, Env.opK_eq, keyOf, *])
            · cases h
          · rename_i hx hy
            split at h
            · rename_i b hb
              split at h
              · rename_i hl hz hlt
                obtain rfl : _ = p := by simpa using h
                exact (od_indexAddr_ref hT (tyO_eq he) hk (tyO_eq hee) hx hy hb (lenIs_eq hl) (Nat.eq_of_beq_eq_true hz) (Int.natCast_nonneg _) (by simp only [Nat.blt_eq] at hlt; exact Int.ofNat_lt.2 hlt)).more (by simp [evRd, Env.opK_eq, keyOf, *])
              · cases h
            · cases h
          · cases h
        · cases h
      · cases h
    · cases h
  · split at h
    · rename_i e he
      split at h
      · rename_i hk
        split at h
        · rename_i hx hy
          split at h
          · rename_i b hb
            obtain rfl : _ = p := by simpa using h
            exact (od_index_str hT (tyO_eq he) hk hx hy (Int.natCast_nonneg _) hb).more (by simp [evRd, *])
          · cases h
        · cases h
      · cases h
    · cases h
  · split at h
    · rename_i e he
      split at h
      · rename_i hk hx; obtain rfl : _ = p := by simpa using h
        exact (od_len_snap hT (tyO_eq he) hk hx).more (by simp [evRd, Env.opK_eq, keyOf, *])
      · rename_i hk hx; obtain rfl : _ = p := by simpa using h
        exact (od_len_nils hT (tyO_eq he) hk hx).more (by simp [evRd, Env.opK_eq, keyOf, *])
      · rename_i hk hx; obtain rfl : _ = p := by simpa using h
        exact (od_len_str hT (tyO_eq he) hk hx).more (by simp [evRd, Env.opK_eq, keyOf, *])
      · rename_i hk hx
        split at h
        · rename_i b hb
          split at h
          · rename_i hl; obtain rfl : _ = p := by simpa using h
            exact (od_len_ref hT (tyO_eq he) hk hx hb (lenIs_eq hl)).more (by simp [evRd, Env.opK_eq, keyOf, *])
          · cases h
        · cases h
      · cases h
    · cases h
  · cases h

end Go.PM
/- The reading runs by itself: operations that write, and control. -/
namespace Go.PM
open Go.RowKit

theorem prun_has {F : Frm} {k : List It} {env : Env} {H H' : Heap} (e : ∀ i, H'.get i = H.get i) (h : Prun F k env H') : Prun F k env H := fun s a hr =>
  h s a ⟨hr.ok, fun i => by rw [hr.has i, e i], hr.ext, hr.dfr, hr.env, hr.s0h⟩

def dstB (N : Nat) : Option Nat → Bool
  | some d => Nat.blt d N
  | none => true

theorem dstB_ok {N : Nat} {d : Option Nat} (h : dstB N d = true) : dstOk N d = true := by
  cases d with
  | none => rfl
  | some d => simpa [dstB, dstOk, Nat.blt_eq] using h

def putK (env : Env) (d : Option Nat) (p : PV) : Env :=
  match d with
  | some d => (d, p) :: env
  | none => env

theorem putK_eq (env : Env) (d : Option Nat) (p : PV) : putK env d p = env.put d p := by cases d <;> rfl

/-- A block's new look, in its place. -/
def updK : Heap → Nat → Blk → Heap
  | [], _, _ => []
  | (i, b) :: H, n, c => match Nat.beq i n with
    | true => (i, c) :: H
    | false => (i, b) :: updK H n c

def updKK {α : Type} : Heap → Nat → Blk → (Heap → α) → α
  | [], _, _, k => k []
  | (i, b) :: H, n, c, k => match Nat.beq i n with
    | true => k ((i, c) :: H)
    | false => updKK H n c fun H' => k ((i, b) :: H')

theorem updKK_eq {α : Type} : ∀ (H : Heap) (n : Nat) (c : Blk) (k : Heap → α), updKK H n c k = k (updK H n c)
  | [], _, _, _ => rfl
  | (i, b) :: H, n, c, k => by
    simp only [updKK, updK]
    split
    · rfl
    · exact updKK_eq H n c _

theorem updK_get : ∀ (H : Heap) (n : Nat) (c : Blk) (b0 : Blk), H.get n = some b0 → ∀ i, (updK H n c).get i = Heap.get ((n, c) :: H) i
  | [], _, _, _, h, _ => by simp [Heap.get] at h
  | (j, b) :: H, n, c, b0, h, i => by
    simp only [updK]
    split
    · rename_i e
      have e := Nat.eq_of_beq_eq_true e
      subst e
      rw [Heap.get_cons, Heap.get_cons, Heap.get_cons]
      by_cases h1 : j = i
      · rw [if_pos h1, if_pos h1]
      · rw [if_neg h1, if_neg h1, if_neg h1]
    · rename_i e
      have e := Nat.ne_of_beq_eq_false e
      rw [Heap.get_cons, if_neg e] at h
      rw [Heap.get_cons, updK_get H n c b0 h i, Heap.get_cons, Heap.get_cons, Heap.get_cons]
      by_cases h1 : n = i
      · rw [if_pos h1, if_pos h1]
        by_cases h2 : j = i
        · exact absurd (h2.trans h1.symm) e
        · rw [if_neg h2]
      · rw [if_neg h1, if_neg h1]

def lenLe : List PV → List PV → Bool
  | [], _ => true
  | _ :: xs, _ :: ys => lenLe xs ys
  | _, _ => false

theorem lenLe_le : ∀ {xs ys : List PV}, lenLe xs ys = true → xs.length ≤ ys.length
  | [], _, _ => by simp
  | _ :: xs, _ :: ys, h => by simpa using lenLe_le (xs := xs) (ys := ys) (by simpa [lenLe] using h)
  | _ :: _, [], h => by simp [lenLe] at h

/-- The first cells, however many there are. -/
def frontK {α : Type} : Nat → List PV → (List PV → α) → α
  | 0, _, k => k []
  | _ + 1, [], k => k []
  | n + 1, x :: xs, k => frontK n xs fun l => k (x :: l)

theorem frontK_eq {α : Type} : ∀ (n : Nat) (xs : List PV) (k : List PV → α), frontK n xs k = k (xs.take n)
  | 0, _, _ => by simp [frontK]
  | _ + 1, [], _ => by simp [frontK]
  | n + 1, x :: xs, k => by simpa [frontK] using frontK_eq n xs fun l => k (x :: l)

/-- The last cells, rebuilt. -/
def backK {α : Type} : Nat → List PV → (List PV → α) → α
  | 0, xs, k => k xs
  | _ + 1, [], k => k []
  | n + 1, _ :: xs, k => backK n xs k

theorem backK_eq {α : Type} : ∀ (n : Nat) (xs : List PV) (k : List PV → α), backK n xs k = k (xs.drop n)
  | 0, _, _ => by simp [backK]
  | _ + 1, [], _ => by simp [backK]
  | n + 1, x :: xs, k => by simpa [backK] using backK_eq n xs k

def spliceLK {α : Type} (cs : List PV) (off : Nat) (p : PV) (k : List PV → α) : α :=
  match p with
  | .agg c => frontK off cs fun a => backK (off + c.length) cs fun z => appK c z fun cz => appK a cz k
  | p => setK cs off p k

theorem spliceLK_eq {α : Type} (cs : List PV) (off : Nat) (p : PV) (k : List PV → α) : spliceLK cs off p k = k (spliceL cs off p) := by
  unfold spliceLK spliceL
  split
  · rw [frontK_eq, backK_eq, appK_eq, appK_eq]
    simp only [List.append_assoc]
  · rename_i hne
    rw [setK_eq]
    cases p <;> first | rfl | exact absurd rfl (hne _)

def spliceK {α : Type} (y : PV) (off : Nat) (p : PV) (k : PV → α) : α :=
  match y with
  | .agg fs => spliceLK fs off p fun l => k (.agg l)
  | _ => k p

theorem spliceK_eq {α : Type} (y : PV) (off : Nat) (p : PV) (k : PV → α) : spliceK y off p k = k (spliceP y off p) := by
  unfold spliceK spliceP
  split
  · rw [spliceLK_eq]
    unfold spliceL
    cases p <;> rfl
  · rename_i hne
    cases y <;> first | rfl | exact absurd rfl (hne _)

/-- A store's effect. -/
def evStore (T : TyT) (env : Env) (H : Heap) (t : TypeId) (x y : Operand) : Option Heap :=
  match tyO T t with
  | some e => env.opK x fun px => (match px with
    | .ptr id l0 i off => H.lookK id fun b => (match b with
      | some ⟨z, live, data, elems⟩ => (match live, lenIs elems l0, nthO elems i with
        | true, true, some q => env.opK y fun p => (match p.ok1, q.ok1, p.cells, lenIs p.cells e.size, lenLe p.cells (q.cells.drop off), (!data || p.isD) with
          | true, true, _ :: _, true, true, true => spliceK q off p fun q' => setK elems i q' fun es => updKK H id ⟨z, live, data, es⟩ some
          | _, _, _, _, _, _ => none)
        | _, _, _ => none)
      | none => none)
    | _ => none)
  | none => none

theorem evStore_rd {F : Frm} (hT : F.B.good) {d : Option Nat} {ty : TypeId} {ps : String} {af : Array Edge} {env : Env} {H H' : Heap} {t : TypeId} {x y : Operand} {g : Option (Nat × Bool)}
    (h : evStore F.B.T env H t x y = some H') : ∃ id b, env.opK x keyOf = [id] ∧ OpD F.B ⟨d, .store t x y, ty, ps, af, g⟩ env [id] H .any [(id, b)] ∧ ∀ i, H'.get i = Heap.get ([(id, b)] ++ H) i := by
  unfold evStore at h
  simp only [Env.opK_eq, Heap.lookK_eq, nthO_eq, spliceK_eq, setK_eq, updKK_eq] at h
  split at h
  · rename_i e he
    split at h
    · rename_i id l0 i off hx
      split at h
      · rename_i z live data elems hb
        split at h
        · rename_i q hl hq
          split at h
          · rename_i c cs h1 h2 h3 h4 h5 h6
            obtain rfl : _ = H' := by simpa using h
            have hlen := lenIs_eq h4
            have hle := lenLe_le h5
            rw [h3] at hle
            simp only [List.length_cons, List.length_drop] at hle
            refine ⟨id, _, by rw [Env.opK_eq, hx]; rfl, od_store (p := env.ev y) hT (tyO_eq he) hx rfl hb rfl (lenIs_eq hl) hq h1 h2 (by rw [h3]; simp) hlen ?_ ?_, fun i => ?_⟩
            · rw [h3]; simp only [List.length_cons]; omega
            · intro hd; simp only at hd; subst hd; simpa using h6
            · rw [updK_get H id _ _ hb i]; rfl
          · cases h
        · cases h
      · cases h
    · cases h
  · cases h

theorem evStore_sound {F : Frm} (hT : F.B.good) {d : Option Nat} {ty : TypeId} {ps : String} {af : Array Edge} {env : Env} {H H' : Heap} {t : TypeId} {x y : Operand} {g : Option (Nat × Bool)}
    (h : evStore F.B.T env H t x y = some H') : ∃ id δ, OpD F.B ⟨d, .store t x y, ty, ps, af, g⟩ env [id] H .any δ ∧ ∀ i, H'.get i = Heap.get (δ ++ H) i :=
  let ⟨id, b, _, h2, h3⟩ := evStore_rd hT h
  ⟨id, [(id, b)], h2, h3⟩

/-- All fields' types are known. -/
def allT (T : TyT) : List (Nat × Nat) → Bool
  | [] => true
  | (_, t) :: fs => match tyO T t with
    | some _ => allT T fs
    | none => false

theorem allT_eq {T : TyT} : ∀ {fs : List (Nat × Nat)}, allT T fs = true → fs.all (fun f => match T[f.2]? with | some (some _) => true | _ => false) = true
  | [], _ => rfl
  | (_, t) :: fs, h => by
    simp only [allT] at h
    split at h
    · rename_i e he
      rw [List.all_cons, allT_eq h, Bool.and_true]
      simp only [tyO_eq he]
    · cases h

/-- An aggregate laid together. -/
def buildK {α : Type} (T : TyT) (env : Env) (fs : List (Nat × Nat)) : List PV → List (Nat × Operand) → (List PV → Option α) → Option α
  | cs, [], k => k cs
  | cs, (i, x) :: r, k => match nthO fs i with
    | some (off, ft) => (match tyO T ft with
      | some fe => env.opK x fun p => (match p.ok1, p.cells, lenIs p.cells fe.size, lenLe p.cells (cs.drop off) with
        | true, _ :: _, true, true => spliceLK cs off p fun cs' => buildK T env fs cs' r k
        | _, _, _, _ => none)
      | none => none)
    | none => none

theorem buildK_eq {α : Type} {B : Base} {env : Env} {fs : List (Nat × Nat)} : ∀ {parts : List (Nat × Operand)} {cs : List PV} {k : List PV → Option α} {r : α}, buildK B.T env fs cs parts k = some r →
    ∃ cs', fillP (placeP B fs) cs (parts.map fun x => (x.1, env.ev x.2)) = some cs' ∧ k cs' = some r
  | [], cs, k, r, h => ⟨cs, rfl, h⟩
  | (i, x) :: parts, cs, k, r, h => by
    simp only [buildK, Env.opK_eq, nthO_eq, spliceLK_eq] at h
    split at h
    · rename_i off ft hf
      split at h
      · rename_i fe he
        split at h
        · rename_i c l h1 h2 h3 h4
          obtain ⟨cs', k1, k2⟩ := buildK_eq h
          have hlen := lenIs_eq h3
          have hle := lenLe_le h4
          rw [h2] at hle
          simp only [List.length_cons, List.length_drop] at hle
          have hc : (env.ev x).cells.length = l.length + 1 := by rw [h2]; rfl
          refine ⟨cs', ?_, k2⟩
          simp only [List.map_cons, fillP, placeP, hf, tyO_eq he]
          rw [if_pos (by simp only [h1, hlen, beq_self_eq_true, Bool.true_and, decide_eq_true_eq]; omega)]
          exact k1
        · cases h
      · cases h
    · cases h

/-- Elements laid one behind the other. -/
def elemsK {α : Type} (env : Env) (size : Nat) : Nat → List (Nat × Operand) → (List PV → Option α) → Option α
  | _, [], k => k []
  | n, (i, x) :: r, k => match Nat.beq i n with
    | true => env.opK x fun p => (match p.ok1, lenIs p.cells size with
      | true, true => elemsK env size (n + 1) r fun l => k (p :: l)
      | _, _ => none)
    | false => none

theorem elemsK_eq {α : Type} {env : Env} {size : Nat} : ∀ {parts : List (Nat × Operand)} {n : Nat} {k : List PV → Option α} {r : α}, elemsK env size n parts k = some r →
    parts.map (·.1) = (List.range parts.length).map (· + n) ∧ (parts.map fun x => env.ev x.2).all (fun q => q.ok1 && q.cells.length == size) = true ∧ k (parts.map fun x => env.ev x.2) = some r
  | [], _, k, r, h => ⟨rfl, rfl, h⟩
  | (i, x) :: parts, n, k, r, h => by
    simp only [elemsK, Env.opK_eq] at h
    split at h
    · rename_i hi
      split at h
      · rename_i h1 h2
        obtain ⟨k1, k2, k3⟩ := elemsK_eq h
        have e := Nat.eq_of_beq_eq_true hi
        subst e
        refine ⟨?_, ?_, k3⟩
        · rw [List.map_cons, List.length_cons, List.range_succ_eq_map, List.map_cons, k1, List.map_map]
          simp only [Nat.zero_add, List.cons.injEq, true_and]
          apply List.map_congr_left
          intro a _
          simp only [Function.comp]
          omega
        · rw [List.map_cons, List.all_cons, k2, h1, lenIs_eq h2]
          simp
      · cases h
    · cases h

def allD : List PV → Bool
  | [] => true
  | p :: ps => p.isD && allD ps

theorem allD_eq : ∀ {ps : List PV}, allD ps = true → ps.all PV.isD = true
  | [], _ => rfl
  | p :: ps, h => by
    simp only [allD, Bool.and_eq_true] at h
    rw [List.all_cons, h.1, allD_eq h.2]; rfl

/-- An operation that makes something: its value, and the block behind a key. -/
def evMake0 (T : TyT) (env : Env) (id : Nat) (o : Op) : Option (PV × Option Blk) :=
  match o with
  | .alloc t => (match tyO T t with
    | some ⟨kind, size, bytes, zero⟩ => (match zero, lenIs zero size, (TyE.mk kind size bytes zero).isAgg, size with
      | _ :: _, true, true, _ => some (.ptr id 1 0 0, some ⟨size, true, false, [.agg zero]⟩)
      | z :: _, true, false, 1 => some (.ptr id 1 0 0, some ⟨size, true, false, [z]⟩)
      | _, _, _, _ => none)
    | none => none)
  | .box _ x => env.opK x fun p => (match p with
    | .agg cs => some (.ptr id 1 0 0, some ⟨cs.length, true, false, [.agg cs]⟩)
    | p => (match p.scal with
      | true => some (.ptr id 1 0 0, some ⟨1, true, false, [p]⟩)
      | false => none))
  | .build t ⟨parts⟩ => (match tyO T t with
    | some ⟨.struct fs, _, _, zero⟩ => (match zero, allT T fs with
      | _ :: _, true => buildK T env fs zero parts fun cs => some (.agg cs, none)
      | _, _ => none)
    | _ => none)
  | .buildSlice t n ⟨parts⟩ => (match tyO T t with
    | some ⟨.slice et, _, _, _⟩ => (match tyO T et with
      | some ⟨_, size, _, _⟩ => (match Nat.beq n parts.length, Nat.ble (n * size) 16777216 with
        | true, true => elemsK env size 0 parts fun l => (match allD l with
          | true => some (.sref id n 0 n, some ⟨size, true, true, l⟩)
          | false => some (.sref id n 0 n, some ⟨size, true, false, l⟩))
        | _, _ => none)
      | none => none)
    | _ => none)
  | _ => none

/-- Keys of made blocks are small; the great ones bear a type. -/
def evMake (T : TyT) (env : Env) (id : Nat) (o : Op) : Option (PV × Option Blk) :=
  match Nat.blt id 1000000 with
  | true => evMake0 T env id o
  | false => none

theorem evMake0_rd {B : Base} (hT : B.good) {d : Option Nat} {ty : TypeId} {ps : String} {af : Array Edge} {env : Env} {H : Heap} {g : Option (Nat × Bool)} {id : Nat} {o : Op} {p : PV} {b : Option Blk}
    (h : evMake0 B.T env id o = some (p, b)) (hid : H.get id = none) (hk1 : id < 1000000) : OpD B ⟨d, o, ty, ps, af, g⟩ env (match b with | some _ => [id] | none => []) H p (match b with | some b => [(id, b)] | none => []) := by
  unfold evMake0 at h
  simp only [Env.opK_eq] at h
  split at h
  · split at h
    · rename_i kind size bytes zero he
      split at h
      · rename_i z zs hl ha
        obtain ⟨rfl, rfl⟩ : _ = p ∧ _ = b := by simpa using h
        have := od_alloc (d := d) (ty := ty) (ps := ps) (af := af) (g := g) (env := env) (H := H) id hT (tyO_eq he) (by simp) (lenIs_eq hl) (.inl ha) hid
        rw [TyE.zp, if_pos ha] at this
        exact this
      · rename_i z zs hl ha
        obtain ⟨rfl, rfl⟩ : _ = p ∧ _ = b := by simpa using h
        have := od_alloc (d := d) (ty := ty) (ps := ps) (af := af) (g := g) (env := env) (H := H) id hT (tyO_eq he) (by simp) (lenIs_eq hl) (.inr rfl) hid
        rw [TyE.zp, if_neg (by simp [ha])] at this
        exact this
      · cases h
    · cases h
  · split at h
    · rename_i hx
      obtain ⟨rfl, rfl⟩ : _ = p ∧ _ = b := by simpa using h
      exact od_box id hx (.inr ⟨_, rfl⟩) hid
    · rename_i x _ _ hne
      split at h
      · rename_i hs
        obtain ⟨rfl, rfl⟩ : _ = p ∧ _ = b := by simpa using h
        have h1 : (env.ev x).cells.length = 1 := by
          cases hc : env.ev x <;> first | rfl | exact absurd hc (hne _)
        have := od_box (d := d) (ty := ty) (ps := ps) (af := af) (g := g) (env := env) (H := H) (B := B) (t := ‹TypeId›) id (x := x) rfl (.inl hs) hid
        rw [h1] at this
        exact this
      · cases h
  · split at h
    · rename_i fs _ _ zero he
      split at h
      · rename_i z zs ha
        obtain ⟨cs, k1, k2⟩ := buildK_eq h
        obtain ⟨rfl, rfl⟩ : _ = p ∧ _ = b := by simpa using k2
        exact od_build hT (tyO_eq he) rfl (by simp) (allT_eq ha) rfl k1
      · cases h
    · cases h
  · split at h
    · rename_i et _ _ _ he
      split at h
      · rename_i size _ _ he2
        split at h
        · rename_i hn hb
          obtain ⟨k1, k2, k3⟩ := elemsK_eq h
          have hn := Nat.eq_of_beq_eq_true hn
          subst hn
          split at k3
          · rename_i ha
            obtain ⟨rfl, rfl⟩ : _ = p ∧ _ = b := by simpa using k3
            exact od_buildSlice id _ hT (tyO_eq he) rfl (tyO_eq he2) (by simpa using k1) rfl k2 (fun _ => allD_eq ha) (Nat.le_of_ble_eq_true hb) hid
          · obtain ⟨rfl, rfl⟩ : _ = p ∧ _ = b := by simpa using k3
            exact od_buildSlice id _ hT (tyO_eq he) rfl (tyO_eq he2) (by simpa using k1) rfl k2 (fun h => by cases h) (Nat.le_of_ble_eq_true hb) hid
        · cases h
      · cases h
    · cases h
  · cases h

theorem evMake_rd {B : Base} (hT : B.good) {d : Option Nat} {ty : TypeId} {ps : String} {af : Array Edge} {env : Env} {H : Heap} {g : Option (Nat × Bool)} {id : Nat} {o : Op} {p : PV} {b : Option Blk}
    (h : evMake B.T env id o = some (p, b)) (hid : H.get id = none) : OpD B ⟨d, o, ty, ps, af, g⟩ env (match b with | some _ => [id] | none => []) H p (match b with | some b => [(id, b)] | none => []) := by
  unfold evMake at h
  split at h
  · rename_i hlt
    have := evMake0_rd (d := d) (ty := ty) (ps := ps) (af := af) (g := g) hT h hid (by simpa [Nat.blt_eq] using hlt)
    cases b <;> exact this
  · cases h

theorem evMake_sound {B : Base} (hT : B.good) {d : Option Nat} {ty : TypeId} {ps : String} {af : Array Edge} {env : Env} {H : Heap} {g : Option (Nat × Bool)} {id : Nat} {o : Op} {p : PV} {b : Option Blk}
    (h : evMake B.T env id o = some (p, b)) (hid : H.get id = none) : ∃ rd, OpD B ⟨d, o, ty, ps, af, g⟩ env rd H p (match b with | some b => [(id, b)] | none => []) := ⟨_, evMake_rd hT h hid⟩

end Go.PM
/- One step of what is left to do. -/
namespace Go.PM
open Go.RowKit

theorem wanted_at {all : Array Oper} {o x : Oper} {s : St} {N : Nat} {a : Act} {env : Env} {j d : Nat} {want b : Bool} (hE : EnvR s N env a.tmps) (hgd : o.guard = some (j, want)) (hj : all[j]? = some x) (hd : x.dst = some d) (hlt : d < N) (hv : env.get d = .bool b) :
    Region.wanted o (yielded all a.tmps) = (b == want) := by
  unfold Region.wanted
  rw [hgd]
  simp only
  have hv1 := hE.get d
  rw [hv] at hv1
  have hv' := VR_bool.1 hv1
  rw [Array.getD_eq_getD_getElem?] at hv'
  have hlt' : d < a.tmps.size := by rw [hE.size]; exact hlt
  have hsome : a.tmps[d]? = some (.bool b) := by
    rw [Array.getElem?_eq_getElem hlt'] at hv' ⊢
    simpa using hv'
  have : yielded all a.tmps j = some b := by simp [yielded, hj, hd, hsome]
  rw [this]
  cases b <;> cases want <;> rfl

theorem wanted_undef {all : Array Oper} {o x : Oper} {s : St} {N : Nat} {a : Act} {env : Env} {j d : Nat} {want : Bool} (hE : EnvR s N env a.tmps) (hgd : o.guard = some (j, want)) (hj : all[j]? = some x) (hd : x.dst = some d) (hv : env.get d = .tup []) :
    Region.wanted o (yielded all a.tmps) = false := by
  unfold Region.wanted
  rw [hgd]
  simp only
  have hv1 := hE.get d
  rw [hv] at hv1
  obtain ⟨us, h1, h2⟩ := hv1
  obtain rfl : us = [] := h2
  have : yielded all a.tmps j = none := by
    simp only [yielded, hj, Option.bind_some, hd]
    cases h : a.tmps[d]? with
    | none => rfl
    | some v =>
      have : v = .tuple #[] := by
        rw [Array.getD_eq_getD_getElem?, h] at h1
        simpa using h1
      subst this; rfl
  rw [this]; rfl

theorem VR_tup0 (s : St) : VR s (.tup []) undef := ⟨[], rfl, rfl⟩

/-- Whether an operation is wanted, as far as it can be reckoned. -/
def guardK (N : Nat) (all : Array Oper) (env : Env) (g : Option (Nat × Bool)) : Option Bool :=
  match g with
  | none => some true
  | some (j, want) => match all with
    | ⟨l⟩ => (match nthO l j with
      | some x => (match x.dst with
        | some d => (match Nat.blt d N with
          | true => env.lookK d fun p => (match p with
            | .bool true => some want
            | .bool false => some (!want)
            | .tup [] => some false
            | _ => none)
          | false => none)
        | none => none)
      | none => none)

theorem guardK_eq {N : Nat} {all : Array Oper} {o : Oper} {s : St} {a : Act} {env : Env} {b : Bool} (hE : EnvR s N env a.tmps) (h : guardK N all env o.guard = some b) : Region.wanted o (yielded all a.tmps) = b := by
  unfold guardK at h
  split at h
  · rename_i hg
    obtain rfl : true = b := by simpa using h
    unfold Region.wanted
    rw [hg]
  · rename_i j want hg
    split at h
    rename_i l
    simp only [nthO_eq, Env.lookK_eq] at h
    split at h
    · rename_i x hx
      split at h
      · rename_i d hd
        split at h
        · rename_i hlt
          have hlt : d < N := by simpa [Nat.blt_eq] using hlt
          split at h
          · rename_i hv
            obtain rfl : want = b := by simpa using h
            rw [wanted_at hE hg (by simpa using hx) hd hlt hv]; cases want <;> rfl
          · rename_i hv
            obtain rfl : (!want) = b := by simpa using h
            rw [wanted_at hE hg (by simpa using hx) hd hlt hv]; cases want <;> rfl
          · rename_i hv
            obtain rfl : false = b := by simpa using h
            exact wanted_undef hE hg (by simpa using hx) hd hv
          · cases h
        · cases h
      · cases h
    · cases h

section
variable {F : Frm} {k : List It} {env : Env} {H : Heap} {all : Array Oper} {o : Oper} {rest : List Oper}

theorem prun_gd {K : PV → Heap → Prop} (hg : guardK F.N all env o.guard = some true) (hd : dstB F.N o.dst = true) (ho : OpW F.B o env H K) (h : ∀ p H', K p H' → Prun F (.ops all rest :: k) (env.put o.dst p) H') :
    Prun F (.ops all (o :: rest) :: k) env H := by
  intro s a hr
  have hw := guardK_eq (o := o) hr.env hg
  have hd := dstB_ok hd
  unfold itQ
  refine wpList_step fun Kt hKt => ?_
  rw [if_pos hw]
  refine (ho s a F.N hr.ok hr.has hr.env).wp fun v w' ⟨s', p, H', e1, h1, h2, h3, h4, h5⟩ => hKt _ _ ?_
  subst e1
  refine h p H' h5 s' (a.put o.dst v) ⟨h1, h4, hr.ext.trans h2, ?_, ?_, hr.s0h⟩
  · cases o.dst <;> exact hr.dfr
  · refine (hr.env.ext hr.ok h2).put (fun k hk => ?_) h3
    rw [hk] at hd
    simpa [dstOk] using hd

theorem prun_d {rd : List Nat} {p : PV} {δ H' : Heap} (ho : OpD F.B o env rd H p δ) (hg : guardK F.N all env o.guard = some true) (hd : dstB F.N o.dst = true) (hH : ∀ i, H'.get i = Heap.get (δ ++ H) i) (h : Prun F (.ops all rest :: k) (env.put o.dst p) H') :
    Prun F (.ops all (o :: rest) :: k) env H :=
  prun_gd hg hd ho.w fun p' H2 ⟨e1, e2⟩ => by subst e1; subst e2; exact prun_has hH h

theorem prun_not (hg : guardK F.N all env o.guard = some false) (hd : dstB F.N o.dst = true) (h : Prun F (.ops all rest :: k) (env.put o.dst (.tup [])) H) : Prun F (.ops all (o :: rest) :: k) env H := by
  intro s a hr
  have hw := guardK_eq (o := o) hr.env hg
  have hd := dstB_ok hd
  unfold itQ wpList
  rw [if_neg (by rw [hw]; simp)]
  refine h s _ ⟨hr.ok, hr.has, hr.ext, by cases o.dst <;> exact hr.dfr, hr.env.put (fun k hk => ?_) (VR_tup0 _), hr.s0h⟩
  rw [hk] at hd
  simpa [dstOk] using hd
end

/-- One step, where it can be reckoned. -/
def stepIt (T : TyT) (N : Nat) (k : List It) (env : Env) (H : Heap) : Option (List It × Env × Heap) :=
  match k with
  | .code (.seq x y) :: k => some (.code x :: .code y :: k, env, H)
  | .code .skip :: k => some (k, env, H)
  | .code (.block id c) :: k => some (.code c :: .blk id :: k, env, H)
  | .code (.region _ ⟨l⟩ false) :: k => some (.ops ⟨l⟩ l :: k, env, H)
  | .code (.exit id) :: k => dropK id k fun k' => some (k', env, H)
  | .code (.cond c x y) :: k => env.opK c fun p => (match p with
    | .bool true => some (.code x :: k, env, H)
    | .bool false => some (.code y :: k, env, H)
    | _ => none)
  | .blk _ :: k => some (k, env, H)
  | .ops _ [] :: k => some (k, env, H)
  | .ops all (⟨dst, op, _, _, _, guard⟩ :: rest) :: k => (match dstB N dst, guardK N all env guard with
    | true, some false => (match dst with
      | some d => some (.ops all rest :: k, (d, .tup []) :: env, H)
      | none => some (.ops all rest :: k, env, H))
    | true, some true => (match op with
      | .store t x y => (match evStore T env H t x y with
        | some H' => (match dst with
          | some d => some (.ops all rest :: k, (d, .any) :: env, H')
          | none => some (.ops all rest :: k, env, H'))
        | none => none)
      | .alloc t => mk T dst (.alloc t) all rest k env H
      | .box t x => mk T dst (.box t x) all rest k env H
      | .build t l => mk T dst (.build t l) all rest k env H
      | .buildSlice t n l => mk T dst (.buildSlice t n l) all rest k env H
      | op => (match evPure T env H op with
        | some p => (match dst with
          | some d => some (.ops all rest :: k, (d, p) :: env, H)
          | none => some (.ops all rest :: k, env, H))
        | none => none))
    | _, _ => none)
  | _ => none
where
  dropK (id : Nat) : List It → (List It → Option (List It × Env × Heap)) → Option (List It × Env × Heap)
  | [], _ => none
  | .blk id' :: k, r => (match Nat.beq id id' with
    | true => r k
    | false => dropK id k r)
  | _ :: k, r => dropK id k r
  mk (T : TyT) (dst : Option Nat) (o : Op) (all : Array Oper) (rest : List Oper) (k : List It) (env : Env) (H : Heap) : Option (List It × Env × Heap) :=
    match dst with
    | some d => H.lookK d fun b0 => (match b0 with
      | none => (match evMake T env d o with
        | some (p, some b) => some (.ops all rest :: k, (d, p) :: env, (d, b) :: H)
        | some (p, none) => some (.ops all rest :: k, (d, p) :: env, H)
        | none => none)
      | some _ => none)
    | none => none

theorem dropK_eq {id : Nat} : ∀ {k : List It} {r : List It → Option (List It × Env × Heap)} {x : List It × Env × Heap}, stepIt.dropK id k r = some x → ∃ k', dropTo id k = some k' ∧ r k' = some x
  | [], _, _, h => by simp [stepIt.dropK] at h
  | .blk id' :: k, r, x, h => by
    simp only [stepIt.dropK] at h
    split at h
    · rename_i e; exact ⟨k, by rw [dropTo, if_pos (Nat.eq_of_beq_eq_true e)], h⟩
    · rename_i e
      obtain ⟨k', h1, h2⟩ := dropK_eq h
      exact ⟨k', by rw [dropTo, if_neg (Nat.ne_of_beq_eq_false e)]; exact h1, h2⟩
  | .code _ :: k, r, x, h => dropK_eq (k := k) h
  | .ops _ _ :: k, r, x, h => dropK_eq (k := k) h
  | .lp _ :: k, r, x, h => dropK_eq (k := k) h

theorem mk_sound {F : Frm} (hT : F.B.good) {k k' : List It} {env env' : Env} {H H' : Heap} {all : Array Oper} {rest : List Oper} {dst : Option Nat} {op : Op} {ty : TypeId} {ps : String} {af : Array Edge} {guard : Option (Nat × Bool)}
    (hd : dstB F.N dst = true) (hg : guardK F.N all env guard = some true) (h : stepIt.mk F.B.T dst op all rest k env H = some (k', env', H')) (hk : Prun F k' env' H') : Prun F (.ops all (⟨dst, op, ty, ps, af, guard⟩ :: rest) :: k) env H := by
  unfold stepIt.mk at h
  split at h
  · rename_i d
    rw [Heap.lookK_eq] at h
    split at h
    · rename_i hid
      split at h
      · rename_i p b hm
        obtain ⟨rfl, rfl, rfl⟩ : _ = k' ∧ _ = env' ∧ _ = H' := by simpa using h
        obtain ⟨rd, ho⟩ := evMake_sound (d := some d) (ty := ty) (ps := ps) (af := af) (g := guard) hT hm hid
        exact prun_d ho hg hd (fun _ => rfl) hk
      · rename_i p hm
        obtain ⟨rfl, rfl, rfl⟩ : _ = k' ∧ _ = env' ∧ _ = H' := by simpa using h
        obtain ⟨rd, ho⟩ := evMake_sound (d := some d) (ty := ty) (ps := ps) (af := af) (g := guard) hT hm hid
        exact prun_d ho hg hd (fun _ => rfl) hk
      · cases h
    · cases h
  · cases h

theorem prun_step {F : Frm} (hT : F.B.good) {k k' : List It} {env env' : Env} {H H' : Heap} (h : stepIt F.B.T F.N k env H = some (k', env', H')) (hk : Prun F k' env' H') : Prun F k env H := by
  unfold stepIt at h
  split at h
  · obtain ⟨rfl, rfl, rfl⟩ : _ = k' ∧ _ = env' ∧ _ = H' := by simpa using h
    exact prun_seq hk
  · obtain ⟨rfl, rfl, rfl⟩ : _ = k' ∧ _ = env' ∧ _ = H' := by simpa using h
    exact prun_skip hk
  · obtain ⟨rfl, rfl, rfl⟩ : _ = k' ∧ _ = env' ∧ _ = H' := by simpa using h
    exact prun_block hk
  · obtain ⟨rfl, rfl, rfl⟩ : _ = k' ∧ _ = env' ∧ _ = H' := by simpa using h
    exact prun_region hk
  · obtain ⟨k1, h1, h2⟩ := dropK_eq h
    obtain ⟨rfl, rfl, rfl⟩ : _ = k' ∧ _ = env' ∧ _ = H' := by simpa using h2
    exact prun_exit h1 hk
  · rw [Env.opK_eq] at h
    split at h
    · rename_i hc
      obtain ⟨rfl, rfl, rfl⟩ : _ = k' ∧ _ = env' ∧ _ = H' := by simpa using h
      exact prun_cond_true hc hk
    · rename_i hc
      obtain ⟨rfl, rfl, rfl⟩ : _ = k' ∧ _ = env' ∧ _ = H' := by simpa using h
      exact prun_cond_false hc hk
    · cases h
  · obtain ⟨rfl, rfl, rfl⟩ : _ = k' ∧ _ = env' ∧ _ = H' := by simpa using h
    exact prun_blk hk
  · obtain ⟨rfl, rfl, rfl⟩ : _ = k' ∧ _ = env' ∧ _ = H' := by simpa using h
    exact prun_nil hk
  · split at h
    · rename_i hd hg
      split at h
      · obtain ⟨rfl, rfl, rfl⟩ : _ = k' ∧ _ = env' ∧ _ = H' := by simpa using h
        exact prun_not hg hd hk
      · obtain ⟨rfl, rfl, rfl⟩ : _ = k' ∧ _ = env' ∧ _ = H' := by simpa using h
        exact prun_not hg hd hk
    · rename_i hd hg
      split at h
      · split at h
        · rename_i H1 hs
          obtain ⟨id, δ, ho, he⟩ := evStore_sound hT hs
          split at h
          · obtain ⟨rfl, rfl, rfl⟩ : _ = k' ∧ _ = env' ∧ _ = H' := by simpa using h
            exact prun_d ho hg hd he hk
          · obtain ⟨rfl, rfl, rfl⟩ : _ = k' ∧ _ = env' ∧ _ = H' := by simpa using h
            exact prun_d ho hg hd he hk
        · cases h
      · exact mk_sound hT hd hg h hk
      · exact mk_sound hT hd hg h hk
      · exact mk_sound hT hd hg h hk
      · exact mk_sound hT hd hg h hk
      · split at h
        · rename_i p hp
          have ho := evPure_sound (d := ‹Option Nat›) (ty := ‹TypeId›) (ps := ‹String›) (af := ‹Array Edge›) (g := ‹Option (Nat × Bool)›) hT hp
          split at h
          · obtain ⟨rfl, rfl, rfl⟩ : _ = k' ∧ _ = env' ∧ _ = H' := by simpa using h
            exact prun_d ho hg hd (fun _ => rfl) hk
          · obtain ⟨rfl, rfl, rfl⟩ : _ = k' ∧ _ = env' ∧ _ = H' := by simpa using h
            exact prun_d ho hg hd (fun _ => rfl) hk
        · cases h
    · cases h
  · cases h

end Go.PM
/- Names for the functions and types of this seat. Laid by program. -/
namespace Go.PMS
open Go Go.Proofs
noncomputable abbrev PP := Tryd.prog
abbrev n_laws_FnExactRiverWrite : Nat := 3
noncomputable abbrev b_laws_FnExactRiverWrite := Tryd.f3
abbrev n_laws_FnExactRiverRead : Nat := 4
noncomputable abbrev b_laws_FnExactRiverRead := Tryd.f4
abbrev n_laws_szRiverEventS : Nat := 5
noncomputable abbrev b_laws_szRiverEventS := Tryd.f5
abbrev n_spec_RiverWrite : Nat := 6
noncomputable abbrev b_spec_RiverWrite := Tryd.f6
abbrev n_laws_toRiverEventS : Nat := 7
noncomputable abbrev b_laws_toRiverEventS := Tryd.f7
abbrev n_impl_RiverWrite : Nat := 8
noncomputable abbrev b_impl_RiverWrite := Tryd.f8
abbrev n_laws_eqRiverEventS : Nat := 9
noncomputable abbrev b_laws_eqRiverEventS := Tryd.f9
abbrev n_spec_RiverRead : Nat := 10
noncomputable abbrev b_spec_RiverRead := Tryd.f10
abbrev n_impl_RiverRead : Nat := 11
noncomputable abbrev b_impl_RiverRead := Tryd.f11
abbrev n_laws_markRiverEventS : Nat := 12
noncomputable abbrev b_laws_markRiverEventS := Tryd.f12
abbrev n_laws_heldRiverEventS : Nat := 13
noncomputable abbrev b_laws_heldRiverEventS := Tryd.f13
abbrev n_laws_szRiverEvent : Nat := 14
noncomputable abbrev b_laws_szRiverEvent := Tryd.f14
abbrev n_spec_l44Line : Nat := 15
noncomputable abbrev b_spec_l44Line := Tryd.f15
abbrev n_spec_l44Read : Nat := 16
noncomputable abbrev b_spec_l44Read := Tryd.f16
abbrev n_laws_toRiverEvent : Nat := 17
noncomputable abbrev b_laws_toRiverEvent := Tryd.f17
abbrev n_impl_lineKinds : Nat := 18
noncomputable abbrev b_impl_lineKinds := Tryd.f18
abbrev n_impl_lineOf : Nat := 19
noncomputable abbrev b_impl_lineOf := Tryd.f19
abbrev n_strings_Builder_Len : Nat := 20
noncomputable abbrev b_strings_Builder_Len := Tryd.f20
abbrev n_strings_Builder_WriteString : Nat := 21
noncomputable abbrev b_strings_Builder_WriteString := Tryd.f21
abbrev n_strings_Builder_String : Nat := 22
noncomputable abbrev b_strings_Builder_String := Tryd.f22
abbrev n_laws_eqRiverEvent : Nat := 23
noncomputable abbrev b_laws_eqRiverEvent := Tryd.f23
abbrev n_spec_l44Split : Nat := 24
noncomputable abbrev b_spec_l44Split := Tryd.f24
abbrev n_strings_Split : Nat := 25
noncomputable abbrev b_strings_Split := Tryd.f25
abbrev n_impl_eventOf : Nat := 26
noncomputable abbrev b_impl_eventOf := Tryd.f26
abbrev n_impl_copied_impl_RiverEvent : Nat := 27
noncomputable abbrev b_impl_copied_impl_RiverEvent := Tryd.f27
abbrev n_laws_markText : Nat := 28
noncomputable abbrev b_laws_markText := Tryd.f28
abbrev n_spec_l6In : Nat := 29
noncomputable abbrev b_spec_l6In := Tryd.f29
abbrev n_spec_l44Names : Nat := 30
noncomputable abbrev b_spec_l44Names := Tryd.f30
abbrev n_spec_l6Dec : Nat := 31
noncomputable abbrev b_spec_l6Dec := Tryd.f31
abbrev n_spec_l44Own : Nat := 32
noncomputable abbrev b_spec_l44Own := Tryd.f32
abbrev n_spec_l44Nums : Nat := 33
noncomputable abbrev b_spec_l44Nums := Tryd.f33
abbrev n_impl_field : Nat := 34
noncomputable abbrev b_impl_field := Tryd.f34
abbrev n_impl_in : Nat := 35
noncomputable abbrev b_impl_in := Tryd.f35
abbrev n_strconv_Itoa : Nat := 36
noncomputable abbrev b_strconv_Itoa := Tryd.f36
abbrev n_impl_textOk : Nat := 37
noncomputable abbrev b_impl_textOk := Tryd.f37
abbrev n_strings_Builder_copyCheck : Nat := 38
noncomputable abbrev b_strings_Builder_copyCheck := Tryd.f38
abbrev n_strings_genSplit : Nat := 39
noncomputable abbrev b_strings_genSplit := Tryd.f39
abbrev n_strings_SplitN : Nat := 40
noncomputable abbrev b_strings_SplitN := Tryd.f40
abbrev n_impl_naturals : Nat := 41
noncomputable abbrev b_impl_naturals := Tryd.f41
abbrev n_spec_l3Nums : Nat := 42
noncomputable abbrev b_spec_l3Nums := Tryd.f42
abbrev n_spec_l3Dec : Nat := 43
noncomputable abbrev b_spec_l3Dec := Tryd.f43
abbrev n_internal_strconv_Itoa : Nat := 44
noncomputable abbrev b_internal_strconv_Itoa := Tryd.f44
abbrev n_internal_abi_NoEscape : Nat := 45
noncomputable abbrev b_internal_abi_NoEscape := Tryd.f45
abbrev n_strings_explode : Nat := 46
noncomputable abbrev b_strings_explode := Tryd.f46
abbrev n_strings_Count : Nat := 47
noncomputable abbrev b_strings_Count := Tryd.f47
abbrev n_strings_Index : Nat := 48
noncomputable abbrev b_strings_Index := Tryd.f48
abbrev n_impl_natural : Nat := 49
noncomputable abbrev b_impl_natural := Tryd.f49
abbrev n_spec_l3Word : Nat := 50
noncomputable abbrev b_spec_l3Word := Tryd.f50
abbrev n_internal_strconv_FormatInt : Nat := 51
noncomputable abbrev b_internal_strconv_FormatInt := Tryd.f51
abbrev n_unicode_utf8_RuneCountInString : Nat := 52
noncomputable abbrev b_unicode_utf8_RuneCountInString := Tryd.f52
abbrev n_unicode_utf8_DecodeRuneInString : Nat := 53
noncomputable abbrev b_unicode_utf8_DecodeRuneInString := Tryd.f53
abbrev n_internal_bytealg_CountString : Nat := 54
noncomputable abbrev b_internal_bytealg_CountString := Tryd.f54
abbrev n_internal_stringslite_Index : Nat := 55
noncomputable abbrev b_internal_stringslite_Index := Tryd.f55
abbrev n_internal_strconv_small : Nat := 56
noncomputable abbrev b_internal_strconv_small := Tryd.f56
abbrev n_internal_strconv_numDigits : Nat := 57
noncomputable abbrev b_internal_strconv_numDigits := Tryd.f57
abbrev n_internal_strconv_formatBase10 : Nat := 58
noncomputable abbrev b_internal_strconv_formatBase10 := Tryd.f58
abbrev n_internal_strconv_formatBits : Nat := 59
noncomputable abbrev b_internal_strconv_formatBits := Tryd.f59
abbrev n_unicode_utf8_decodeRuneInStringSlow : Nat := 60
noncomputable abbrev b_unicode_utf8_decodeRuneInStringSlow := Tryd.f60
abbrev n_internal_stringslite_IndexByte : Nat := 61
noncomputable abbrev b_internal_stringslite_IndexByte := Tryd.f61
abbrev n_internal_bytealg_IndexString : Nat := 62
noncomputable abbrev b_internal_bytealg_IndexString := Tryd.f62
abbrev n_internal_bytealg_Cutover : Nat := 63
noncomputable abbrev b_internal_bytealg_Cutover := Tryd.f63
abbrev n_internal_bytealg_IndexRabinKarp_string : Nat := 64
noncomputable abbrev b_internal_bytealg_IndexRabinKarp_string := Tryd.f64
abbrev n_internal_strconv_log10Pow2 : Nat := 65
noncomputable abbrev b_internal_strconv_log10Pow2 := Tryd.f65
abbrev n_math_bits_Len64 : Nat := 66
noncomputable abbrev b_math_bits_Len64 := Tryd.f66
abbrev n_internal_strconv_bool2_int : Nat := 67
noncomputable abbrev b_internal_strconv_bool2_int := Tryd.f67
abbrev n_internal_strconv_isPowerOfTwo : Nat := 68
noncomputable abbrev b_internal_strconv_isPowerOfTwo := Tryd.f68
abbrev n_math_bits_TrailingZeros : Nat := 69
noncomputable abbrev b_math_bits_TrailingZeros := Tryd.f69
abbrev n_internal_bytealg_IndexByteString : Nat := 70
noncomputable abbrev b_internal_bytealg_IndexByteString := Tryd.f70
abbrev n_internal_bytealg_hashStr_string : Nat := 71
noncomputable abbrev b_internal_bytealg_hashStr_string := Tryd.f71
abbrev n_math_bits_TrailingZeros32 : Nat := 72
noncomputable abbrev b_math_bits_TrailingZeros32 := Tryd.f72
abbrev n_math_bits_TrailingZeros64 : Nat := 73
noncomputable abbrev b_math_bits_TrailingZeros64 := Tryd.f73
abbrev n_internal_abi_Type_Align : Nat := 86
noncomputable abbrev b_internal_abi_Type_Align := Tryd.f86
abbrev n_strings_Builder_Reset : Nat := 89
noncomputable abbrev b_strings_Builder_Reset := Tryd.f89
abbrev n_internal_abi_Kind_String : Nat := 90
noncomputable abbrev b_internal_abi_Kind_String := Tryd.f90
abbrev t_int64 : Nat := 2
abbrev t_int : Nat := 3
abbrev t_bool : Nat := 4
abbrev t_uint8 : Nat := 5
abbrev t_internal_abi_BoundsErrorCode : Nat := 6
abbrev t_runtime_boundsError : Nat := 8
abbrev t_string : Nat := 9
abbrev t_runtime_errorString : Nat := 10
abbrev t_runtime_plainError : Nat := 11
abbrev t_uintptr : Nat := 12
abbrev t_runtime_errorAddressString : Nat := 14
abbrev t_p_runtime_TypeAssertionError : Nat := 15
abbrev t_p_runtime_PanicNilError : Nat := 16
abbrev t_p_abi_Type : Nat := 17
abbrev t_internal_runtime_maps_unhashableTypeError : Nat := 19
abbrev t_int32 : Nat := 21
abbrev t_sl_laws_RiverEvent : Nat := 22
abbrev t_sl_impl_RiverEvent : Nat := 25
abbrev t_laws_RiverEvent : Nat := 35
abbrev t_impl_RiverEvent : Nat := 37
abbrev t_p_strings_Builder : Nat := 41
abbrev t_sl_uint8 : Nat := 42
abbrev t_strings_Builder : Nat := 44
abbrev t_sl_impl_lineKind : Nat := 45
abbrev t_impl_lineKind : Nat := 48
abbrev t_error : Nat := 53
abbrev t_sl_string : Nat := 58
abbrev t_sl_int : Nat := 65
abbrev t_p_int : Nat := 68
abbrev t_p_impl_RiverEvent : Nat := 70
abbrev t_p_uint8 : Nat := 71
abbrev t_unsafe_Pointer : Nat := 77
abbrev t__24_uint8 : Nat := 89
abbrev t_uint64 : Nat := 90
abbrev t_uint : Nat := 96
abbrev t__20_uint64 : Nat := 98
abbrev t_uint32 : Nat := 99
abbrev t__65_uint8 : Nat := 100
abbrev t__256_uint8 : Nat := 103
abbrev t_unicode_utf8_acceptRange : Nat := 105
abbrev t__16_utf8_acceptRange : Nat := 106
abbrev t__32_uint8 : Nat := 110
abbrev t__64_uint8 : Nat := 111
abbrev t_runtime_TypeAssertionError : Nat := 113
abbrev t__0_p_runtime_PanicNilError : Nat := 114
abbrev t_runtime_PanicNilError : Nat := 116
abbrev t_internal_abi_TFlag : Nat := 117
abbrev t_internal_abi_Kind : Nat := 118
abbrev t_internal_abi_NameOff : Nat := 120
abbrev t_internal_abi_TypeOff : Nat := 121
abbrev t_internal_abi_Type : Nat := 123
end Go.PMS
/- The seat's types, as far as the reading looks at them. Laid by program. -/
namespace Go.PMS
open Go Go.PM Go.Proofs
noncomputable def seatT : TyT := [
  none,
  none,
  some ⟨.int .i64, 1, 8, [.int .i64 0]⟩,
  some ⟨.int .i64, 1, 8, [.int .i64 0]⟩,
  some ⟨.bool, 1, 1, [.bool false]⟩,
  some ⟨.int .u8, 1, 1, [.int .u8 0]⟩,
  some ⟨.int .u8, 1, 1, [.int .u8 0]⟩,
  some ⟨.struct [(0, 2), (1, 3), (2, 4), (3, 6)], 4, 24, [.int .i64 0, .int .i64 0, .bool false, .int .u8 0]⟩,
  some ⟨.struct [(0, 2), (1, 3), (2, 4), (3, 6)], 4, 24, [.int .i64 0, .int .i64 0, .bool false, .int .u8 0]⟩,
  some ⟨.str, 1, 16, [.str []]⟩,
  some ⟨.str, 1, 16, [.str []]⟩,
  some ⟨.str, 1, 16, [.str []]⟩,
  some ⟨.int .u64, 1, 8, [.int .u64 0]⟩,
  some ⟨.struct [(0, 9), (1, 12)], 2, 24, [.str [], .int .u64 0]⟩,
  some ⟨.struct [(0, 9), (1, 12)], 2, 24, [.str [], .int .u64 0]⟩,
  some ⟨.ptr 113, 1, 8, [.nilp]⟩,
  some ⟨.ptr 116, 1, 8, [.nilp]⟩,
  some ⟨.ptr 123, 1, 8, [.nilp]⟩,
  some ⟨.struct [(0, 17)], 1, 8, [.nilp]⟩,
  some ⟨.struct [(0, 17)], 1, 8, [.nilp]⟩,
  none,
  some ⟨.int .i32, 1, 4, [.int .i32 0]⟩,
  some ⟨.slice 35, 1, 24, [.nils]⟩,
  none,
  none,
  some ⟨.slice 37, 1, 24, [.nils]⟩,
  none,
  none,
  none,
  none,
  none,
  none,
  none,
  none,
  some ⟨.struct [(0, 3), (1, 3), (2, 3), (3, 3), (4, 3), (5, 3), (6, 3), (7, 3), (8, 3), (9, 9)], 10, 88, [.int .i64 0, .int .i64 0, .int .i64 0, .int .i64 0, .int .i64 0, .int .i64 0, .int .i64 0, .int .i64 0, .int .i64 0, .str []]⟩,
  some ⟨.struct [(0, 3), (1, 3), (2, 3), (3, 3), (4, 3), (5, 3), (6, 3), (7, 3), (8, 3), (9, 9)], 10, 88, [.int .i64 0, .int .i64 0, .int .i64 0, .int .i64 0, .int .i64 0, .int .i64 0, .int .i64 0, .int .i64 0, .int .i64 0, .str []]⟩,
  none,
  some ⟨.struct [(0, 3), (1, 3), (2, 3), (3, 3), (4, 3), (5, 3), (6, 3), (7, 3), (8, 3), (9, 9)], 10, 88, [.int .i64 0, .int .i64 0, .int .i64 0, .int .i64 0, .int .i64 0, .int .i64 0, .int .i64 0, .int .i64 0, .int .i64 0, .str []]⟩,
  none,
  none,
  none,
  some ⟨.ptr 44, 1, 8, [.nilp]⟩,
  some ⟨.slice 5, 1, 24, [.nils]⟩,
  some ⟨.struct [(0, 41), (1, 42)], 2, 32, [.nilp, .nils]⟩,
  some ⟨.struct [(0, 41), (1, 42)], 2, 32, [.nilp, .nils]⟩,
  some ⟨.slice 48, 1, 24, [.nils]⟩,
  none,
  some ⟨.struct [(0, 9), (1, 3), (2, 9)], 3, 40, [.str [], .int .i64 0, .str []]⟩,
  some ⟨.struct [(0, 9), (1, 3), (2, 9)], 3, 40, [.str [], .int .i64 0, .str []]⟩,
  none,
  none,
  none,
  none,
  none,
  none,
  none,
  none,
  none,
  some ⟨.slice 9, 1, 24, [.nils]⟩,
  none,
  none,
  none,
  none,
  none,
  none,
  some ⟨.slice 3, 1, 24, [.nils]⟩,
  none,
  none,
  some ⟨.ptr 3, 1, 8, [.nilp]⟩,
  none,
  some ⟨.ptr 37, 1, 8, [.nilp]⟩,
  some ⟨.ptr 5, 1, 8, [.nilp]⟩,
  none,
  none,
  none,
  none,
  none,
  none,
  none,
  none,
  none,
  none,
  none,
  none,
  none,
  none,
  none,
  none,
  none,
  some ⟨.array 24 5, 24, 24, [.int .u8 0, .int .u8 0, .int .u8 0, .int .u8 0, .int .u8 0, .int .u8 0, .int .u8 0, .int .u8 0, .int .u8 0, .int .u8 0, .int .u8 0, .int .u8 0, .int .u8 0, .int .u8 0, .int .u8 0, .int .u8 0, .int .u8 0, .int .u8 0, .int .u8 0, .int .u8 0, .int .u8 0, .int .u8 0, .int .u8 0, .int .u8 0]⟩,
  some ⟨.int .u64, 1, 8, [.int .u64 0]⟩,
  none,
  none,
  none,
  none,
  none,
  some ⟨.int .u64, 1, 8, [.int .u64 0]⟩,
  none,
  some ⟨.array 20 90, 20, 160, [.int .u64 0, .int .u64 0, .int .u64 0, .int .u64 0, .int .u64 0, .int .u64 0, .int .u64 0, .int .u64 0, .int .u64 0, .int .u64 0, .int .u64 0, .int .u64 0, .int .u64 0, .int .u64 0, .int .u64 0, .int .u64 0, .int .u64 0, .int .u64 0, .int .u64 0, .int .u64 0]⟩,
  some ⟨.int .u32, 1, 4, [.int .u32 0]⟩,
  some ⟨.array 65 5, 65, 65, []⟩,
  none,
  none,
  some ⟨.array 256 5, 256, 256, []⟩,
  some ⟨.struct [(0, 5), (1, 5)], 2, 2, [.int .u8 0, .int .u8 0]⟩,
  some ⟨.struct [(0, 5), (1, 5)], 2, 2, [.int .u8 0, .int .u8 0]⟩,
  some ⟨.array 16 105, 32, 32, [.int .u8 0, .int .u8 0, .int .u8 0, .int .u8 0, .int .u8 0, .int .u8 0, .int .u8 0, .int .u8 0, .int .u8 0, .int .u8 0, .int .u8 0, .int .u8 0, .int .u8 0, .int .u8 0, .int .u8 0, .int .u8 0, .int .u8 0, .int .u8 0, .int .u8 0, .int .u8 0, .int .u8 0, .int .u8 0, .int .u8 0, .int .u8 0, .int .u8 0, .int .u8 0, .int .u8 0, .int .u8 0, .int .u8 0, .int .u8 0, .int .u8 0, .int .u8 0]⟩,
  none,
  none,
  none,
  some ⟨.array 32 5, 32, 32, [.int .u8 0, .int .u8 0, .int .u8 0, .int .u8 0, .int .u8 0, .int .u8 0, .int .u8 0, .int .u8 0, .int .u8 0, .int .u8 0, .int .u8 0, .int .u8 0, .int .u8 0, .int .u8 0, .int .u8 0, .int .u8 0, .int .u8 0, .int .u8 0, .int .u8 0, .int .u8 0, .int .u8 0, .int .u8 0, .int .u8 0, .int .u8 0, .int .u8 0, .int .u8 0, .int .u8 0, .int .u8 0, .int .u8 0, .int .u8 0, .int .u8 0, .int .u8 0]⟩,
  some ⟨.array 64 5, 64, 64, [.int .u8 0, .int .u8 0, .int .u8 0, .int .u8 0, .int .u8 0, .int .u8 0, .int .u8 0, .int .u8 0, .int .u8 0, .int .u8 0, .int .u8 0, .int .u8 0, .int .u8 0, .int .u8 0, .int .u8 0, .int .u8 0, .int .u8 0, .int .u8 0, .int .u8 0, .int .u8 0, .int .u8 0, .int .u8 0, .int .u8 0, .int .u8 0, .int .u8 0, .int .u8 0, .int .u8 0, .int .u8 0, .int .u8 0, .int .u8 0, .int .u8 0, .int .u8 0, .int .u8 0, .int .u8 0, .int .u8 0, .int .u8 0, .int .u8 0, .int .u8 0, .int .u8 0, .int .u8 0, .int .u8 0, .int .u8 0, .int .u8 0, .int .u8 0, .int .u8 0, .int .u8 0, .int .u8 0, .int .u8 0, .int .u8 0, .int .u8 0, .int .u8 0, .int .u8 0, .int .u8 0, .int .u8 0, .int .u8 0, .int .u8 0, .int .u8 0, .int .u8 0, .int .u8 0, .int .u8 0, .int .u8 0, .int .u8 0, .int .u8 0, .int .u8 0]⟩,
  some ⟨.struct [(0, 17), (1, 17), (2, 17), (3, 9)], 4, 40, [.nilp, .nilp, .nilp, .str []]⟩,
  some ⟨.struct [(0, 17), (1, 17), (2, 17), (3, 9)], 4, 40, [.nilp, .nilp, .nilp, .str []]⟩,
  some ⟨.array 0 16, 0, 0, []⟩,
  some ⟨.struct [(0, 114)], 0, 0, []⟩,
  some ⟨.struct [(0, 114)], 0, 0, []⟩,
  some ⟨.int .u8, 1, 1, [.int .u8 0]⟩,
  some ⟨.int .u8, 1, 1, [.int .u8 0]⟩,
  none,
  some ⟨.int .i32, 1, 4, [.int .i32 0]⟩,
  some ⟨.int .i32, 1, 4, [.int .i32 0]⟩,
  some ⟨.struct [(0, 12), (1, 12), (2, 99), (3, 117), (4, 5), (5, 5), (6, 118), (7, 119), (8, 71), (9, 120), (10, 121)], 11, 48, []⟩,
  some ⟨.struct [(0, 12), (1, 12), (2, 99), (3, 117), (4, 5), (5, 5), (6, 118), (7, 119), (8, 71), (9, 120), (10, 121)], 11, 48, []⟩]
/-- The reading's base: the program, a world, its first blocks. -/
noncomputable def bs (W : World) (gs : Nat) : Base := ⟨PP, W, gs, seatT⟩
noncomputable def seatTyOk : Nat → List (Option TyE) → Bool
  | _, [] => true
  | n, some e :: r => tyOk PP n e && seatTyOk (n + 1) r
  | n, none :: r => seatTyOk (n + 1) r
theorem seatTyOk_get : ∀ (l : List (Option TyE)) (n : Nat), seatTyOk n l = true → ∀ i e, l[i]? = some (some e) → tyOk PP (n + i) e = true
  | [], _, _, i, e, h => by simp at h
  | x :: r, n, hk, 0, e, h => by
    obtain rfl : x = some e := by simpa using h
    simp only [seatTyOk, Bool.and_eq_true] at hk
    exact hk.1
  | x :: r, n, hk, i + 1, e, h => by
    have h2 := seatTyOk_get r (n + 1) (by cases x <;> simp_all [seatTyOk]) i e (by simpa using h)
    rwa [show n + (i + 1) = n + 1 + i by omega]
theorem seatTy : seatTyOk 0 seatT = true := by kernel_rfl
theorem seatFollows : PP.follows .mixedOrders = true := by kernel_rfl
theorem bs_good (W : World) (gs : Nat) : (bs W gs).good := ⟨seatFollows, fun t e h => by
  have := seatTyOk_get seatT 0 seatTy t e h
  rwa [Nat.zero_add] at this⟩
end Go.PMS
/- Returning; splitting; calls: the forms that walks use. -/
namespace Go.PM
open Go.RowKit

mutual
def PV.flat : PV → Bool
  | .sref .. | .ptr .. => false
  | .agg fs | .tup fs => flats fs
  | _ => true
def flats : List PV → Bool
  | [] => true
  | f :: fs => f.flat && flats fs
end

mutual
theorem vw_flat {H G : Heap} : ∀ {p : PV}, p.flat = true → vw H G p p
  | .any, _ => by simp only [vw]
  | .int _ _, _ => by simp [vw]
  | .bool _, _ => by simp only [vw]
  | .str _, _ => by simp only [vw]
  | .agg fs, h => by simp only [vw]; exact vws_flat (by simpa [PV.flat] using h)
  | .tup fs, h => by simp only [vw]; exact vws_flat (by simpa [PV.flat] using h)
  | .snap _ _, _ => by simp [vw]
  | .sref .., h => by simp [PV.flat] at h
  | .ptr .., h => by simp [PV.flat] at h
  | .sp _ _, _ => by simp [vw]
  | .nilp, _ => by simp only [vw]
  | .nils, _ => by simp only [vw]
theorem vws_flat {H G : Heap} : ∀ {ps : List PV}, flats ps = true → vws H G ps ps
  | [], _ => by simp only [vws]
  | p :: ps, h => by
    simp only [flats, Bool.and_eq_true] at h
    simp only [vws]
    exact ⟨vw_flat h.1, vws_flat h.2⟩
end

section
variable {B : Base} {fn : Func} {s0 : St} {H0 : Heap} {post : PV → Heap → Prop} {k : List It} {env : Env} {H : Heap}

/-- What a return (or a fall off the end) must show. -/
def Ends (B : Base) (fn : Func) (H0 : Heap) (post : PV → Heap → Prop) (env : Env) (H : Heap) : Prop :=
  ∃ ps qs G, retsPV B.T env H fn.results.toList = some ps ∧ vws H G ps qs ∧ heapSub G G H ∧ keysIn H0 G = true ∧ post (packPV qs) G

theorem ret_ends (h : Ends B fn H0 post env H) : Prun (frm B fn s0 H0 post) (.code .ret :: k) env H := prun_ret h
theorem end_ends (h : Ends B fn H0 post env H) : Prun (frm B fn s0 H0 post) [] env H := prun_end h

/-- The results bear no reference, and nothing of the caller's was lent. -/
theorem ends_flat {ps : List PV} (h1 : retsPV B.T env H fn.results.toList = some ps) (h2 : flats ps = true) (h3 : post (packPV ps) []) : Ends B fn [] post env H :=
  ⟨ps, ps, [], h1, vws_flat h2, trivial, rfl, h3⟩

/-- One result, a slice that the function made. -/
theorem ends_slice {id l0 off len : Nat} {blk : Blk} (h1 : retsPV B.T env H fn.results.toList = some [.sref id l0 off len]) (hb : H.get id = some blk) (hd : blk.data = true) (hl : blk.elems.length = l0) (hle : off + len ≤ l0) (h3 : post (.snap blk.z ((blk.elems.drop off).take len)) []) : Ends B fn [] post env H :=
  ⟨_, [.snap blk.z ((blk.elems.drop off).take len)], [], h1, by simp only [vws, vw]; exact ⟨⟨blk, hb, rfl, hd, hl, hle, rfl, rfl⟩, trivial⟩, trivial, rfl, h3⟩
end

/-- A truth value in a slot is one or the other. -/
theorem prun_split {F : Frm} {k : List It} {env : Env} {H : Heap} (d : Nat) {b : Bool} (hb : env.get d = .bool b) (h1 : b = true → Prun F k ((d, .bool true) :: env) H) (h2 : b = false → Prun F k ((d, .bool false) :: env) H) : Prun F k env H := by
  have key : ∀ c, b = c → Prun F k ((d, .bool c) :: env) H → Prun F k env H := by
    rintro c rfl h s a hr
    refine h s a ⟨hr.ok, hr.has, hr.ext, hr.dfr, ⟨hr.env.size, fun t => ?_⟩, hr.s0h⟩
    simp only [Env.get]
    split
    · rename_i e; subst e; rw [← hb]; exact hr.env.get d
    · exact hr.env.get t
  cases b
  · exact key false rfl (h2 rfl)
  · exact key true rfl (h1 rfl)

/-- Other words for the same environment. -/
theorem prun_env {F : Frm} {k : List It} {env env' : Env} {H : Heap} (e : ∀ t, env.get t = env'.get t) (h : Prun F k env' H) : Prun F k env H := fun s a hr =>
  h s a ⟨hr.ok, hr.has, hr.ext, hr.dfr, ⟨hr.env.size, fun t => by rw [← e t]; exact hr.env.get t⟩, hr.s0h⟩

section calls
variable {F : Frm} {all : Array Oper} {rest : List Oper} {k : List It} {d : Option Nat} {ty : TypeId} {ps : String} {af : Array Edge} {g : Option (Nat × Bool)} {env : Env} {H : Heap}

/-- A call of a function that takes no memory and gives none: its result alone. -/
theorem prun_call {f : FuncId} {xs : List Operand} {ts : Array TypeId} {args : List PV} {post : PV → Heap → Prop} (hc : PSpec F.B f args [] post) (ha : xs.map env.ev = args) (hn : args.all notTup = true) (hr : refsInl [] args = true) (hp : ∀ r H', post r H' → H' = [])
    (hg : guardK F.N all env g = some true) (hd : dstB F.N d = true) (h : ∀ r, post r [] → Prun F (.ops all rest :: k) (env.put d r) H) :
    Prun F (.ops all (⟨d, .call { callee := .value (.func f), args := xs.toArray, argTypes := ts }, ty, ps, af, g⟩ :: rest) :: k) env H :=
  prun_gd hg hd (ow_call (hc.frame (H := H) trivial hr fun r H' h => by rw [hp r H' h]; trivial) ha hn) fun p H' ⟨H1, h1, h2⟩ => by
    have := hp p H1 h1
    subst this
    subst h2
    exact h p h1
end calls
end Go.PM
/- Regions that draw their order: one run in the text's order serves all orders, if what is unordered stands apart. -/
namespace Go.PM
open Go.RowKit

section
variable {F : Frm} {all : Array Oper} {md : Region.Mode} {E : Nat → List Nat × List Nat}

/-- One operation's exact effect, and what it looks at and writes. -/
structure Loc (F : Frm) (all : Array Oper) (o : Oper) (env : Env) (H : Heap) (p : PV) (e : List Nat × List Nat) (δ : Heap) : Prop where
  dst : dstB F.N o.dst = true
  does : (guardK F.N all env o.guard = some true ∧ OpD F.B o env e.1 H p δ ∧ ∀ k, (δ.get k).isSome = true → k ∈ e.2) ∨ (guardK F.N all env o.guard = some false ∧ p = .tup [] ∧ δ = [])

theorem guardK_same {N : Nat} {o : Oper} {env env' : Env} (h : ∀ t ∈ o.looksAt all, env'.get t = env.get t) : guardK N all env' o.guard = guardK N all env o.guard := by
  unfold guardK
  cases hg : o.guard with
  | none => rfl
  | some jw =>
    obtain ⟨j, want⟩ := jw
    obtain ⟨l⟩ := all
    simp only [nthO_eq, Env.lookK_eq]
    cases hx : l[j]? with
    | none => rfl
    | some x =>
      cases hd : x.dst with
      | none => simp only [hd]
      | some d =>
        have : d ∈ o.looksAt ⟨l⟩ := by
          unfold Oper.looksAt
          rw [hg]
          simp [hx, hd]
        simp only [hd, h d this]

theorem OpD.same {B : Base} {o : Oper} {env env' : Env} {rd : List Nat} {H H' : Heap} {p : PV} {δ : Heap} (h : OpD B o env rd H p δ) (he : ∀ x ∈ o.op.operands, env'.ev x = env.ev x) (hr : ∀ k ∈ rd, H'.get k = H.get k) : OpD B o env' rd H' p δ :=
  fun env2 H2 h1 h2 => h env2 H2 (fun x hx => (h1 x hx).trans (he x hx)) (fun k hk => (h2 k hk).trans (hr k hk))

theorem Loc.same {o : Oper} {env env' : Env} {H H' : Heap} {p : PV} {e : List Nat × List Nat} {δ : Heap} (h : Loc F all o env H p e δ) (he : ∀ t ∈ o.looksAt all, env'.get t = env.get t) (hr : ∀ k ∈ e.1, H'.get k = H.get k) : Loc F all o env' H' p e δ := by
  refine ⟨h.dst, ?_⟩
  rw [guardK_same he]
  refine h.does.imp (fun ⟨h1, h2, h3⟩ => ⟨h1, h2.same (fun x hx => ?_) hr, h3⟩) id
  cases x with
  | tmp t =>
    refine he t ?_
    unfold Oper.looksAt
    refine List.mem_append_left _ (List.mem_filterMap.2 ⟨.tmp t, by simpa using hx, rfl⟩)
  | _ => rfl

def EqS (env : Env) (H : Heap) (env' : Env) (H' : Heap) : Prop := (∀ t, env'.get t = env.get t) ∧ ∀ k, H'.get k = H.get k

def KR (K : Env → Heap → Prop) : Prop := ∀ env H env' H', EqS env H env' H' → K env H → K env' H'

def pOp (F : Frm) (all : Array Oper) (E : Nat → List Nat × List Nat) (i : Nat) (K : Env → Heap → Prop) (env : Env) (H : Heap) : Prop :=
  ∀ o, all[i]? = some o → ∃ p δ, Loc F all o env H p (E i) δ ∧ K (env.put o.dst p) (δ ++ H)

def anyP (F : Frm) (md : Region.Mode) (all : Array Oper) (E : Nat → List Nat × List Nat) (K : Env → Heap → Prop) : Nat → Array Bool → Env → Heap → Prop
  | 0, listed, env, H => Region.ready md all listed = [] ∧ K env H
  | fuel + 1, listed, env, H => (Region.ready md all listed = [] → K env H) ∧ ∀ i ∈ Region.ready md all listed, pOp F all E i (anyP F md all E K fuel (listed.setIfInBounds i true)) env H

theorem Env.put_get (env : Env) (d : Option Nat) (p : PV) (t : Nat) : (env.put d p).get t = if d = some t then p else env.get t := by
  cases d with
  | none => simp [Env.put]
  | some d =>
    simp only [Env.put, Env.get, Option.some.injEq]

theorem EqS.put {env env' : Env} {H H' : Heap} (h : EqS env H env' H') (d : Option Nat) (p : PV) (δ : Heap) : EqS (env.put d p) (δ ++ H) (env'.put d p) (δ ++ H') :=
  ⟨fun t => by rw [Env.put_get, Env.put_get, h.1 t], fun k => by rw [Heap.get_append, Heap.get_append, h.2 k]⟩

theorem KR_anyP {K : Env → Heap → Prop} (hK : KR K) : ∀ (fuel : Nat) (listed : Array Bool), KR (anyP F md all E K fuel listed)
  | 0, _, env, H, env', H', he, h => ⟨h.1, hK env H env' H' he h.2⟩
  | fuel + 1, listed, env, H, env', H', he, h => ⟨fun h0 => hK env H env' H' he (h.1 h0), fun i hi o ho => by
      obtain ⟨p, δ, h1, h2⟩ := h.2 i hi o ho
      exact ⟨p, δ, h1.same (fun t _ => he.1 t) (fun k _ => he.2 k), KR_anyP hK fuel _ _ _ _ _ (he.put o.dst p δ) h2⟩⟩

theorem anyP_wp {F : Frm} {k : List It} (K : Env → Heap → Prop) (hK : ∀ env H, K env H → Prun F k env H) : ∀ (fuel : Nat) (listed : Array Bool) (env : Env) (H : Heap) (s : St) (a : Act), Rel F env H s a →
    anyP F md all E K fuel listed env H → wpAny F.B.P md all (itQ F k) fuel listed a s.w
  | 0, listed, env, H, s, a, hr, h => ⟨h.1, hK _ _ h.2 s a hr⟩
  | fuel + 1, listed, env, H, s, a, hr, h => ⟨fun h0 => hK _ _ (h.1 h0) s a hr, fun i hi => by
      unfold wpOp
      split
      · rename_i ho
        obtain ⟨_, o, ho', _⟩ := mem_ready.1 hi
        rw [ho] at ho'; cases ho'
      · rename_i o ho
        obtain ⟨p, δ, h1, h2⟩ := h.2 i hi o ho
        have hd := dstB_ok h1.dst
        rcases h1.does with ⟨g1, g2, g3⟩ | ⟨g1, rfl, rfl⟩
        · rw [if_pos (guardK_eq (o := o) hr.env g1)]
          refine .inl ((g2.w s a F.N hr.ok hr.has hr.env).wp fun v w' ⟨s', p', H', e1, q1, q2, q3, q4, q5, q6⟩ => ?_)
          subst e1
          subst q5
          subst q6
          refine anyP_wp K hK fuel _ _ _ s' (a.put o.dst v) ⟨q1, q4, hr.ext.trans q2, by cases o.dst <;> exact hr.dfr, (hr.env.ext hr.ok q2).put (fun k hk => ?_) q3, hr.s0h⟩ h2
          rw [hk] at hd
          simpa [dstOk] using hd
        · rw [if_neg (by rw [guardK_eq (o := o) hr.env g1]; simp)]
          refine anyP_wp K hK fuel _ _ _ s (a.put o.dst undef) ⟨hr.ok, hr.has, hr.ext, by cases o.dst <;> exact hr.dfr, hr.env.put (fun k hk => ?_) (VR_tup0 _), hr.s0h⟩ h2
          rw [hk] at hd
          simpa [dstOk] using hd⟩

/-- No key of the one is a key of the other. -/
def disjL (xs ys : List Nat) : Bool := xs.all fun x => !ys.contains x

theorem disjL_spec {xs ys : List Nat} (h : disjL xs ys = true) {k : Nat} (hx : k ∈ xs) : k ∉ ys := by
  unfold disjL at h
  rw [List.all_eq_true] at h
  simpa using h k hx

def disjE (x y : List Nat × List Nat) : Bool := disjL x.2 y.1 && disjL x.2 y.2 && disjL y.2 x.1

theorem Loc.keys {o : Oper} {env : Env} {H : Heap} {p : PV} {e : List Nat × List Nat} {δ : Heap} (h : Loc F all o env H p e δ) {k : Nat} (hk : k ∉ e.2) : δ.get k = none := by
  rcases h.does with ⟨_, _, h3⟩ | ⟨_, _, rfl⟩
  · cases hc : δ.get k with
    | none => rfl
    | some b => exact absurd (h3 k (by rw [hc]; rfl)) hk
  · rfl

theorem anyP_first {K : Env → Heap → Prop} (hK : KR K) {i : Nat} {oi : Oper} {p : PV} {δ : Heap} (hi : all[i]? = some oi) :
    ∀ (fuel : Nat) (listed : Array Bool) (env : Env) (H : Heap),
      (∀ j oj, all[j]? = some oj → j ≠ i → listed.getD j true = false → (∀ e ∈ oj.after, Region.binds md e = true → e.on ≠ i) → oi.apart all oj = true ∧ disjE (E i) (E j) = true) →
      i ∈ Region.ready md all listed → Loc F all oi env H p (E i) δ →
      anyP F md all E K fuel (listed.setIfInBounds i true) (env.put oi.dst p) (δ ++ H) → anyP F md all E K (fuel + 1) listed env H := by
  intro fuel
  induction fuel with
  | zero =>
    intro listed env H _ hr hy hh
    refine ⟨fun h => (by rw [h] at hr; cases hr), fun j hj => ?_⟩
    by_cases hji : j = i
    · subst hji
      intro o ho
      rw [hi] at ho
      obtain rfl : oi = o := by simpa using ho
      exact ⟨p, δ, hy, hh⟩
    · have := ready_mono hj hji
      rw [hh.1] at this
      cases this
  | succ fuel ih =>
    intro listed env H hfree hr hy hh
    refine ⟨fun h => (by rw [h] at hr; cases hr), fun j hj => ?_⟩
    by_cases hji : j = i
    · subst hji
      intro o ho
      rw [hi] at ho
      obtain rfl : oi = o := by simpa using ho
      exact ⟨p, δ, hy, hh⟩
    · obtain ⟨hjun, oj, hoj, hall⟩ := mem_ready.1 hj
      have hnot : ∀ e ∈ oj.after, Region.binds md e = true → e.on ≠ i := fun e he hb heq => by
        have h1 := hall e he hb
        have h0 := (mem_ready.1 hr).1
        rw [heq] at h1
        rcases Nat.lt_or_ge i listed.size with h' | h'
        · simp [h'] at h0 h1; rw [h0] at h1; cases h1
        · simp [Array.getElem?_eq_none h'] at h1
      obtain ⟨hap, hdj⟩ := hfree j oj hoj hji hjun hnot
      obtain ⟨a1, a2, a3⟩ := Oper.apart_spec hap
      unfold disjE at hdj
      simp only [Bool.and_eq_true] at hdj
      obtain ⟨⟨d1, d2⟩, d3⟩ := hdj
      intro o ho
      rw [hoj] at ho
      obtain rfl : oj = o := by simpa using ho
      obtain ⟨pj, δj, hlj, hKj⟩ := hh.2 j (ready_mono hj hji) oj hoj
      -- oj, ahead of oi
      have hlj' : Loc F all oj env H pj (E j) δj := by
        refine hlj.same (fun t ht => ?_) (fun k hk => ?_)
        · rw [Env.put_get, if_neg (fun e => a1 t e ht)]
        · rw [Heap.get_append, hy.keys (fun h => disjL_spec d1 h hk)]
      refine ⟨pj, δj, hlj', ?_⟩
      have hy' : Loc F all oi (env.put oj.dst pj) (δj ++ H) p (E i) δ := by
        refine hy.same (fun t ht => ?_) (fun k hk => ?_)
        · rw [Env.put_get, if_neg (fun e => a3 t e ht)]
        · rw [Heap.get_append, hlj.keys (fun h => disjL_spec d3 h hk)]
      have hfree' : ∀ k ok, all[k]? = some ok → k ≠ i → (listed.setIfInBounds j true).getD k true = false →
          (∀ e ∈ ok.after, Region.binds md e = true → e.on ≠ i) → oi.apart all ok = true ∧ disjE (E i) (E k) = true := fun k ok hk hki hun hno => by
        refine hfree k ok hk hki ?_ hno
        by_cases hjk : j = k
        · subst hjk; exact hjun
        · rw [getD_set_ne true hjk] at hun; exact hun
      refine ih (listed.setIfInBounds j true) _ _ hfree' (ready_mono hr (Ne.symm hji)) hy' ?_
      rw [Array.setIfInBounds_comm _ _ hji]
      refine KR_anyP hK fuel _ _ _ _ _ ⟨fun t => ?_, fun k => ?_⟩ hKj
      · simp only [Env.put_get]
        by_cases e1 : oi.dst = some t
        · rw [if_pos e1, if_neg (a2 t e1), if_pos e1]
        · rw [if_neg e1, if_neg e1]
      · simp only [Heap.get_append]
        cases hk1 : δ.get k with
        | none => rfl
        | some b =>
          have : k ∈ (E i).2 := by
            rcases hy.does with ⟨_, _, h3⟩ | ⟨_, _, rfl⟩
            · exact h3 k (by rw [hk1]; rfl)
            · simp [Heap.get] at hk1
          rw [hlj.keys (disjL_spec d2 this)]

/-- Whoever does not wait for an earlier one stands apart from it in memory. -/
def heapB (md : Region.Mode) (all : Array Oper) (E : Nat → List Nat × List Nat) : Bool :=
  (List.range all.size).all fun j => (List.range j).all fun i => (match all[j]? with | some o => o.after.any fun e => Region.binds md e && e.on == i | none => true) || disjE (E i) (E j)

theorem heapB_spec (h : heapB md all E = true) {i j : Nat} {oj : Oper} (hj : all[j]? = some oj) (hij : i < j) (hno : ∀ e ∈ oj.after, Region.binds md e = true → e.on ≠ i) : disjE (E i) (E j) = true := by
  unfold heapB at h
  have hlt : j < all.size := by
    rcases Nat.lt_or_ge j all.size with h' | h'
    · exact h'
    · rw [Array.getElem?_eq_none h'] at hj; cases hj
  rw [List.all_eq_true] at h
  have h := h j (List.mem_range.2 hlt)
  rw [List.all_eq_true] at h
  have h := h i (List.mem_range.2 hij)
  rw [hj] at h
  simp only [Bool.or_eq_true] at h
  refine h.resolve_left (fun hc => ?_)
  rw [Array.any_eq_true'] at hc
  obtain ⟨e, he, hb⟩ := hc
  simp only [Bool.and_eq_true, beq_iff_eq] at hb
  exact hno e he hb.1 hb.2

/-- The run in the text's order. -/
def lexP (F : Frm) (all : Array Oper) (E : Nat → List Nat × List Nat) (K : Env → Heap → Prop) : Nat → List Oper → Env → Heap → Prop
  | _, [], env, H => K env H
  | k, o :: rest, env, H => ∃ p δ, Loc F all o env H p (E k) δ ∧ lexP F all E K (k + 1) rest (env.put o.dst p) (δ ++ H)

theorem anyP_lex {K : Env → Heap → Prop} (hK : KR K) (hh : heapB md all E = true) : ∀ (l : List Oper) (k : Nat) (listed : Array Bool) (env : Env) (H : Heap), (∀ j, l[j]? = all[k + j]?) → (∀ j, j < k → listed.getD j true = true) →
    Region.lexFrom md all l.length k listed = true → lexP F all E K k l env H → anyP F md all E K l.length listed env H
  | [], _, _, _, _, _, _, hB, h => ⟨by simpa [Region.lexFrom] using hB, h⟩
  | o :: l, k, listed, env, H, hl, hls, hB, h => by
    have h0 : all[k]? = some o := by simpa using (hl 0).symm
    simp only [List.length_cons, Region.lexFrom, Bool.and_eq_true] at hB
    obtain ⟨⟨hr, hf⟩, hB'⟩ := hB
    obtain ⟨p, δ, h1, h2⟩ := h
    refine anyP_first hK h0 l.length listed env H (fun j oj hj hji hun hno => ⟨Region.free_spec h0 hf j oj hj hji hun hno, ?_⟩) (by simpa using hr) h1
      (anyP_lex hK hh l (k + 1) _ _ _ (fun j => by have := hl (j + 1); simpa [Nat.add_assoc, Nat.add_comm 1 j] using this) (fun j hj => ?_) hB' h2)
    · refine heapB_spec hh hj ?_ hno
      rcases Nat.lt_or_ge k j with h' | h'
      · exact h'
      · have := hls j (by omega)
        rw [this] at hun; cases hun
    · by_cases e : k = j
      · subst e
        rcases Nat.lt_or_ge k listed.size with h' | h'
        · simp [h']
        · simp [Nat.not_lt.2 h']
      · rw [getD_set_ne true e]; exact hls j (by omega)

/-- **One run in the text's order serves every order.** -/
theorem prun_drawn {F : Frm} {k : List It} {env : Env} {H : Heap} {id : Nat} {all : Array Oper} (E : Nat → List Nat × List Nat) (hT : F.B.good) (hB : Region.lexB .any all = true) (hh : heapB .any all E = true)
    (h : lexP F all E (Prun F k) 0 all.toList env H) : Prun F (.code (.region id all true) :: k) env H := by
  intro s a hr
  simp only [Region.lexB, Bool.and_eq_true] at hB
  have hr' : Rel F env H s.drew a := ⟨St.drew_ok hr.ok, hr.has, hr.ext.trans s.drew_ext, hr.dfr, hr.env.ext hr.ok s.drew_ext, hr.s0h⟩
  have hK : KR (Prun F k) := fun env H env' H' he h => prun_env (fun t => he.1 t) (prun_has (fun i => (he.2 i).symm) h)
  have := anyP_lex (md := .any) hK hh all.toList 0 (Array.replicate all.size false) env H (by simp) (fun j hj => by omega) (by simpa using hB.2) h
  refine wp_region_any hT.1 ?_
  rw [Array.length_toList] at this
  exact anyP_wp (k := k) (Prun F k) (fun _ _ h => h) _ _ _ _ s.drew a hr' this
end
end Go.PM
/- A drawn region, run in the text's order step by step. -/
namespace Go.PM
open Go.RowKit

section
variable {F : Frm} {all : Array Oper} {k : List It}

def effOf (acc : List (List Nat × List Nat)) (i : Nat) : List Nat × List Nat := match nthO acc i with | some e => e | none => ([], [])

def Plex (F : Frm) (all : Array Oper) (k : List It) : List Oper → List (List Nat × List Nat) → Env → Heap → Prop
  | [], acc, env, H => heapB .any all (effOf acc.reverse) = true ∧ Prun F k env H
  | o :: rest, acc, env, H => ∃ p e δ, Loc F all o env H p e δ ∧ Plex F all k rest (e :: acc) (env.put o.dst p) (δ ++ H)

theorem effOf_eq {acc : List (List Nat × List Nat)} {i : Nat} {e : List Nat × List Nat} (h : acc[i]? = some e) : effOf acc i = e := by
  unfold effOf; rw [nthO_eq, h]

theorem plex_lex : ∀ (rest : List Oper) (acc : List (List Nat × List Nat)) (env : Env) (H : Heap), Plex F all k rest acc env H →
    ∃ full : List (List Nat × List Nat), (∀ (i : Nat) (e : List Nat × List Nat), acc.reverse[i]? = some e → full[i]? = some e) ∧ heapB .any all (effOf full) = true ∧ lexP F all (effOf full) (Prun F k) acc.length rest env H
  | [], acc, env, H, h => ⟨acc.reverse, fun _ _ h => h, h.1, h.2⟩
  | o :: rest, acc, env, H, ⟨p, e, δ, h1, h2⟩ => by
    obtain ⟨full, g1, g2, g3⟩ := plex_lex rest (e :: acc) _ _ h2
    refine ⟨full, fun i x hx => g1 i x ?_, g2, p, δ, ?_, g3⟩
    · rw [List.reverse_cons]
      rw [List.getElem?_append_left]
      · exact hx
      · exact (List.getElem?_eq_some_iff.1 hx).1
    · rw [effOf_eq (g1 acc.length e (by rw [List.reverse_cons, List.getElem?_append_right (by simp)]; simp))]
      exact h1

theorem prun_draw {env : Env} {H : Heap} {id : Nat} {l : List Oper} (hT : F.B.good) (hB : Region.lexB .any l.toArray = true) (h : Plex F l.toArray k l [] env H) : Prun F (.code (.region id l.toArray true) :: k) env H := by
  obtain ⟨full, _, g2, g3⟩ := plex_lex l [] env H h
  exact prun_drawn (effOf full) hT hB g2 (by simpa using g3)

theorem plex_nil {acc : List (List Nat × List Nat)} {env : Env} {H : Heap} (h : heapB .any all (effOf acc.reverse) = true) (hk : Prun F k env H) : Plex F all k [] acc env H := ⟨h, hk⟩

theorem plex_same : ∀ (rest : List Oper) (_acc : List (List Nat × List Nat)) (_env _env' : Env) (_H _H' : Heap), EqS _env _H _env' _H' → Plex F all k rest _acc _env _H → Plex F all k rest _acc _env' _H'
  | [], _, _, _, _, _, he, h => ⟨h.1, prun_env (fun t => he.1 t) (prun_has (fun i => (he.2 i).symm) h.2)⟩
  | o :: rest, _, _, _, _, _, he, ⟨p, e, δ, h1, h2⟩ => ⟨p, e, δ, h1.same (fun t _ => he.1 t) (fun k _ => he.2 k), plex_same rest _ _ _ _ _ (he.put o.dst p δ) h2⟩

variable {env : Env} {H : Heap} {o : Oper} {rest : List Oper} {acc : List (List Nat × List Nat)}

theorem keys_mem : ∀ {δ : Heap} {k : Nat}, (δ.get k).isSome = true → k ∈ δ.map (·.1)
  | [], _, h => by simp [Heap.get] at h
  | (i, b) :: δ, k, h => by
    rw [Heap.get_cons] at h
    split at h
    · rename_i e; subst e; simp
    · simp [keys_mem h]

theorem plex_d {rd : List Nat} {p : PV} {δ H' : Heap} (ho : OpD F.B o env rd H p δ) (hg : guardK F.N all env o.guard = some true) (hd : dstB F.N o.dst = true) (hH : ∀ i, H'.get i = Heap.get (δ ++ H) i) (h : Plex F all k rest ((rd, δ.map (·.1)) :: acc) (env.put o.dst p) H') : Plex F all k (o :: rest) acc env H :=
  ⟨p, (rd, δ.map (·.1)), δ, ⟨hd, .inl ⟨hg, ho, fun _ => keys_mem⟩⟩, plex_same _ _ _ _ _ _ ⟨fun _ => rfl, fun i => (hH i).symm⟩ h⟩

theorem plex_not (hg : guardK F.N all env o.guard = some false) (hd : dstB F.N o.dst = true) (h : Plex F all k rest (([], []) :: acc) (env.put o.dst (.tup [])) H) : Plex F all k (o :: rest) acc env H :=
  ⟨.tup [], ([], []), [], ⟨hd, .inr ⟨hg, rfl, rfl⟩⟩, h⟩

/-- A truth value in a slot is one or the other. -/
theorem plex_split (d : Nat) {b : Bool} (hb : env.get d = .bool b) (h1 : b = true → Plex F all k rest acc ((d, .bool true) :: env) H) (h2 : b = false → Plex F all k rest acc ((d, .bool false) :: env) H) : Plex F all k rest acc env H := by
  have key : ∀ c, b = c → Plex F all k rest acc ((d, .bool c) :: env) H → Plex F all k rest acc env H := by
    rintro c rfl h
    refine plex_same _ _ _ _ _ _ ⟨fun t => ?_, fun _ => rfl⟩ h
    simp only [Env.get]
    split
    · rename_i e; subst e; exact hb
    · rfl
  cases b
  · exact key false rfl (h2 rfl)
  · exact key true rfl (h1 rfl)

/-- Where an operation's operands lead. -/
def opKeys (env : Env) (x : Operand) : List Nat := env.opK x keyOf

/-- One step of a drawn region, where it can be reckoned. -/
def stepD (T : TyT) (N : Nat) (all : Array Oper) (o : Oper) (acc : List (List Nat × List Nat)) (env : Env) (H : Heap) : Option (List (List Nat × List Nat) × Env × Heap) :=
  match o with
  | ⟨dst, op, _, _, _, guard⟩ => (match dstB N dst, guardK N all env guard with
    | true, some false => (match dst with
      | some d => some (([], []) :: acc, (d, .tup []) :: env, H)
      | none => some (([], []) :: acc, env, H))
    | true, some true => (match op with
      | .store t x y => (match evStore T env H t x y with
        | some H' => env.opK x fun p => keyK p fun l => (match dst with
          | some d => some ((l, l) :: acc, (d, .any) :: env, H')
          | none => some ((l, l) :: acc, env, H'))
        | none => none)
      | .alloc t => mk T dst (.alloc t) acc env H
      | .box t x => mk T dst (.box t x) acc env H
      | .build t l => mk T dst (.build t l) acc env H
      | .buildSlice t n l => mk T dst (.buildSlice t n l) acc env H
      | op => (match evPure T env H op with
        | some p => evRdK env op fun l => (match dst with
          | some d => some ((l, []) :: acc, (d, p) :: env, H)
          | none => some ((l, []) :: acc, env, H))
        | none => none))
    | _, _ => none)
where
  mk (T : TyT) (dst : Option Nat) (o : Op) (acc : List (List Nat × List Nat)) (env : Env) (H : Heap) : Option (List (List Nat × List Nat) × Env × Heap) :=
    match dst with
    | some d => H.lookK d fun b0 => (match b0 with
      | none => (match evMake T env d o with
        | some (p, some b) => some (([d], [d]) :: acc, (d, p) :: env, (d, b) :: H)
        | some (p, none) => some (([], []) :: acc, (d, p) :: env, H)
        | none => none)
      | some _ => none)
    | none => none

theorem mkD_sound (hT : F.B.good) {acc' : List (List Nat × List Nat)} {env' : Env} {H' : Heap} {dst : Option Nat} {op : Op} {ty : TypeId} {ps : String} {af : Array Edge} {guard : Option (Nat × Bool)}
    (hd : dstB F.N dst = true) (hg : guardK F.N all env guard = some true) (h : stepD.mk F.B.T dst op acc env H = some (acc', env', H')) (hk : Plex F all k rest acc' env' H') : Plex F all k (⟨dst, op, ty, ps, af, guard⟩ :: rest) acc env H := by
  unfold stepD.mk at h
  split at h
  · rename_i d
    rw [Heap.lookK_eq] at h
    split at h
    · rename_i hid
      split at h
      · rename_i p b hm
        obtain ⟨rfl, rfl, rfl⟩ : _ = acc' ∧ _ = env' ∧ _ = H' := by simpa using h
        have ho := evMake_rd (d := some d) (ty := ty) (ps := ps) (af := af) (g := guard) hT hm hid
        exact plex_d ho hg hd (fun _ => rfl) hk
      · rename_i p hm
        obtain ⟨rfl, rfl, rfl⟩ : _ = acc' ∧ _ = env' ∧ _ = H' := by simpa using h
        have ho := evMake_rd (d := some d) (ty := ty) (ps := ps) (af := af) (g := guard) hT hm hid
        exact plex_d ho hg hd (fun _ => rfl) hk
      · cases h
    · cases h
  · cases h

theorem plex_step (hT : F.B.good) {acc' : List (List Nat × List Nat)} {env' : Env} {H' : Heap} (h : stepD F.B.T F.N all o acc env H = some (acc', env', H')) (hk : Plex F all k rest acc' env' H') : Plex F all k (o :: rest) acc env H := by
  obtain ⟨dst, op, ty, ps, af, guard⟩ := o
  simp only [stepD, evRdK_eq, Env.opK_eq, keyK_eq] at h
  split at h
  · rename_i hd hg
    split at h
    · obtain ⟨rfl, rfl, rfl⟩ : _ = acc' ∧ _ = env' ∧ _ = H' := by simpa using h
      exact plex_not hg hd hk
    · obtain ⟨rfl, rfl, rfl⟩ : _ = acc' ∧ _ = env' ∧ _ = H' := by simpa using h
      exact plex_not hg hd hk
  · rename_i hd hg
    split at h
    · split at h
      · rename_i H1 hs
        have ho := fun d ty ps af g => evStore_rd (F := F) (d := d) (ty := ty) (ps := ps) (af := af) (g := g) hT hs
        split at h
        · obtain ⟨rfl, rfl, rfl⟩ : _ = acc' ∧ _ = env' ∧ _ = H' := by simpa using h
          obtain ⟨id, b, hk1, ho, he⟩ := ho _ _ _ _ _
          rw [Env.opK_eq] at hk1
          rw [hk1] at hk
          exact plex_d ho hg hd he hk
        · obtain ⟨rfl, rfl, rfl⟩ : _ = acc' ∧ _ = env' ∧ _ = H' := by simpa using h
          obtain ⟨id, b, hk1, ho, he⟩ := ho _ _ _ _ _
          rw [Env.opK_eq] at hk1
          rw [hk1] at hk
          exact plex_d ho hg hd he hk
      · cases h
    · exact mkD_sound hT hd hg h hk
    · exact mkD_sound hT hd hg h hk
    · exact mkD_sound hT hd hg h hk
    · exact mkD_sound hT hd hg h hk
    · split at h
      · rename_i p hp
        have ho := fun d ty ps af g => evPure_sound (d := d) (ty := ty) (ps := ps) (af := af) (g := g) hT hp
        split at h
        · obtain ⟨rfl, rfl, rfl⟩ : _ = acc' ∧ _ = env' ∧ _ = H' := by simpa using h
          exact plex_d (ho _ _ _ _ _) hg hd (fun _ => rfl) hk
        · obtain ⟨rfl, rfl, rfl⟩ : _ = acc' ∧ _ = env' ∧ _ = H' := by simpa using h
          exact plex_d (ho _ _ _ _ _) hg hd (fun _ => rfl) hk
      · cases h
  · cases h
end

section
variable {F : Frm} {all : Array Oper} {k : List It} {env : Env} {H : Heap} {o : Oper} {rest : List Oper} {acc : List (List Nat × List Nat)}
/-- An operation that changes no memory. -/
theorem plex_q {rd : List Nat} {p : PV} (ho : OpD F.B o env rd H p []) (hg : guardK F.N all env o.guard = some true) (hd : dstB F.N o.dst = true) (h : Plex F all k rest ((rd, []) :: acc) (env.put o.dst p) H) : Plex F all k (o :: rest) acc env H :=
  plex_d ho hg hd (fun _ => rfl) h
end

section calls
variable {F : Frm} {all : Array Oper} {rest : List Oper} {k : List It} {d : Option Nat} {ty : TypeId} {ps : String} {af : Array Edge} {g : Option (Nat × Bool)} {env : Env} {H : Heap}

/-- A call whose result is told exactly, and that leaves nothing behind. -/
theorem od_call {B : Base} {f : FuncId} {xs : List Operand} {ts : Array TypeId} {args : List PV} {p : PV} (hc : PSpec B f args [] fun r H => r = p ∧ H = []) (ha : xs.map env.ev = args) (hn : args.all notTup = true) (hr : refsInl [] args = true) :
    OpD B ⟨d, .call { callee := .value (.func f), args := xs.toArray, argTypes := ts }, ty, ps, af, g⟩ env [] H p [] := by
  intro env' H' he _
  have ha' : xs.map env'.ev = args := by
    rw [← ha]
    apply List.map_congr_left
    intro x hx
    exact he x (by simp [Op.operands, Call.operands, hx])
  have := ow_call (d := d) (ty := ty) (ps := ps) (af := af) (g := g) (ts := ts) (hc.frame (H := H') trivial hr fun r H1 h => by rw [h.2]; trivial) ha' hn
  intro s a N ho hH hE
  exact (this s a N ho hH hE).mono fun v w' ⟨s', q, H2, e1, h1, h2, h3, h4, H3, ⟨e2, e3⟩, e4⟩ => ⟨s', q, H2, e1, h1, h2, h3, h4, e2, by rw [e4, e3]⟩

theorem prun_callx {f : FuncId} {xs : List Operand} {ts : Array TypeId} {args : List PV} {p : PV} (hc : PSpec F.B f args [] fun r H => r = p ∧ H = []) (ha : xs.map env.ev = args) (hn : args.all notTup = true) (hr : refsInl [] args = true)
    (hg : guardK F.N all env g = some true) (hd : dstB F.N d = true) (h : Prun F (.ops all rest :: k) (env.put d p) H) :
    Prun F (.ops all (⟨d, .call { callee := .value (.func f), args := xs.toArray, argTypes := ts }, ty, ps, af, g⟩ :: rest) :: k) env H :=
  prun_d (od_call hc ha hn hr) hg hd (fun _ => rfl) h

theorem plex_callx {acc : List (List Nat × List Nat)} {f : FuncId} {xs : List Operand} {ts : Array TypeId} {args : List PV} {p : PV} (hc : PSpec F.B f args [] fun r H => r = p ∧ H = []) (ha : xs.map env.ev = args) (hn : args.all notTup = true) (hr : refsInl [] args = true)
    (hg : guardK F.N all env g = some true) (hd : dstB F.N d = true) (h : Plex F all k rest (([], []) :: acc) (env.put d p) H) :
    Plex F all k (⟨d, .call { callee := .value (.func f), args := xs.toArray, argTypes := ts }, ty, ps, af, g⟩ :: rest) acc env H :=
  plex_d (od_call hc ha hn hr) hg hd (fun _ => rfl) h
end calls
end Go.PM
/- Small laws that walks lean on. -/
namespace Go.PM
open Go.RowKit

theorem wrap64 {n : Int} (h1 : -9223372036854775808 ≤ n) (h2 : n ≤ 9223372036854775807) : IntKind.i64.wrap n = n := by
  have e : (2 ^ IntKind.i64.bits : Int) = 18446744073709551616 := by decide
  have e2 : (2 ^ (IntKind.i64.bits - 1) : Int) = 9223372036854775808 := by decide
  simp only [IntKind.wrap, e, e2]
  simp only [show IntKind.i64.signed = true from rfl, Bool.true_and, decide_eq_true_eq]
  split <;> omega

theorem wrapu8 {n : Int} (h1 : 0 ≤ n) (h2 : n ≤ 255) : IntKind.u8.wrap n = n := by
  have e : (2 ^ IntKind.u8.bits : Int) = 256 := by decide
  simp only [IntKind.wrap, e]
  simp only [show IntKind.u8.signed = false from rfl, Bool.false_and, Bool.false_eq_true, if_false]
  omega

theorem vws_nil {H G : Heap} : vws H G [] [] := by simp only [vws]
theorem vws_cons {H G : Heap} {p q : PV} {ps qs : List PV} (h : vw H G p q) (h2 : vws H G ps qs) : vws H G (p :: ps) (q :: qs) := by simp only [vws]; exact ⟨h, h2⟩
theorem vw_sref {H : Heap} {id n : Nat} {z : Nat} {lv : Bool} {es : List PV} (hb : H.get id = some ⟨z, lv, true, es⟩) (hl : es.length = n) : vw H [] (.sref id n 0 n) (.snap z es) := by
  simp only [vw]
  exact ⟨_, hb, rfl, rfl, hl, by omega, rfl, by rw [List.drop_zero, List.take_of_length_le (by rw [hl]; exact Nat.le_refl _)]⟩

theorem ends_slice1 {B : Base} {fn : Func} {post : PV → Heap → Prop} {env : Env} {H : Heap} {id n z : Nat} {lv : Bool} {es : List PV} (h1 : retsPV B.T env H fn.results.toList = some [.sref id n 0 n]) (hb : H.get id = some ⟨z, lv, true, es⟩) (hl : es.length = n) (h3 : post (.snap z es) []) : Ends B fn [] post env H :=
  ⟨_, [.snap z es], [], h1, vws_cons (vw_sref hb hl) vws_nil, trivial, rfl, h3⟩

theorem fill_set {α : Type} {f : α → PV} {z : PV} {l : List α} {i : Nat} {e : α} (he : l[i]? = some e) :
    ((l.take i).map f ++ List.replicate (l.length - i) z).set i (f e) = (l.take (i + 1)).map f ++ List.replicate (l.length - (i + 1)) z := by
  have hlt : i < l.length := (List.getElem?_eq_some_iff.1 he).1
  have h1 : ((l.take i).map f).length = i := by simp; omega
  rw [List.set_append_right _ _ (by omega), h1, Nat.sub_self]
  obtain ⟨m, hm⟩ : ∃ m, l.length - i = m + 1 := ⟨l.length - i - 1, by omega⟩
  rw [hm, List.replicate_succ, List.set_cons_zero, show l.length - (i + 1) = m by omega, List.take_add_one, he]
  simp

theorem fill_len {α : Type} (f : α → PV) (z : PV) {l : List α} {i : Nat} (h : i ≤ l.length) : ((l.take i).map f ++ List.replicate (l.length - i) z).length = l.length := by simp; omega

theorem fill_get {α : Type} (f : α → PV) (z : PV) {l : List α} {i : Nat} (h : i < l.length) : ((l.take i).map f ++ List.replicate (l.length - i) z)[i]? = some z := by
  have h1 : ((l.take i).map f).length = i := by simp; omega
  rw [List.getElem?_append_right (by omega), h1, Nat.sub_self, List.getElem?_replicate, if_pos (by omega)]

theorem fill_done {α : Type} (f : α → PV) (z : PV) {l : List α} : ((((l.take l.length).map f ++ List.replicate (l.length - l.length) z).drop 0).take l.length) = l.map f := by
  simp [List.take_of_length_le]

theorem take_full {α : Type} {l : List α} {i : Nat} (h : l.length ≤ i) : l.take i = l := List.take_of_length_le h

section
variable {F : Frm} {all : Array Oper} {k : List It} {env : Env} {H : Heap} {o : Oper} {rest : List Oper}

/-- An operation that changes no memory. -/
theorem prun_q {rd : List Nat} {p : PV} (ho : OpD F.B o env rd H p []) (hg : guardK F.N all env o.guard = some true) (hd : dstB F.N o.dst = true) (h : Prun F (.ops all rest :: k) (env.put o.dst p) H) : Prun F (.ops all (o :: rest) :: k) env H :=
  prun_d ho hg hd (fun _ => rfl) h

/-- An operation that changes one block's elements. -/
theorem prun_w {rd : List Nat} {p : PV} {id : Nat} {b : Blk} (z : Nat) (lv dt : Bool) (es : List PV) (ho : OpD F.B o env rd H p [(id, b)]) (hb : b = ⟨z, lv, dt, es⟩) (hg : guardK F.N all env o.guard = some true) (hd : dstB F.N o.dst = true) {b0 : Blk} (h0 : H.get id = some b0)
    (h : Prun F (.ops all rest :: k) (env.put o.dst p) (updK H id ⟨z, lv, dt, es⟩)) : Prun F (.ops all (o :: rest) :: k) env H :=
  prun_d ho hg hd (fun i => by rw [updK_get H id _ b0 h0 i, hb]; rfl) h

/-- An operation that makes a block. -/
theorem prun_n {rd : List Nat} {p : PV} {id : Nat} {b : Blk} (z : Nat) (lv dt : Bool) (es : List PV) (ho : OpD F.B o env rd H p [(id, b)]) (hb : b = ⟨z, lv, dt, es⟩) (hg : guardK F.N all env o.guard = some true) (hd : dstB F.N o.dst = true)
    (h : Prun F (.ops all rest :: k) (env.put o.dst p) ((id, ⟨z, lv, dt, es⟩) :: H)) : Prun F (.ops all (o :: rest) :: k) env H :=
  prun_d ho hg hd (fun i => by rw [hb]; rfl) h
end

/-- One byte as a text. -/
theorem od_byte1 {B : Base} {d : Option Nat} {ty : TypeId} {ps : String} {af : Array Edge} {g : Option (Nat × Bool)} {env : Env} {H : Heap} {t t' et : TypeId} {x : Operand} {id : Nat} {m : Int} {b : UInt8} {e e' ee : TyE} (hT : B.good) (ht : B.T[t]? = some (some e)) (hk : e.kind = .slice et) (he : B.T[et]? = some (some ee)) (hek : ee.kind = .int .u8) (ht' : B.T[t']? = some (some e')) (hk' : e'.kind = .str)
    (hx : env.ev x = .sref id 1 0 1) (hb : H.get id = some ⟨1, true, true, [.int .u8 m]⟩) (hm : m = b.toNat) : OpD B ⟨d, .convert t t' x, ty, ps, af, g⟩ env [id] H (.str [b]) [] := by
  subst hm
  exact od_bytes_str (l := [b]) hT ht hk he hek ht' hk' hx (.ref hk hb rfl rfl rfl (by simp))

/-- An empty slice gets a key of its own. -/
def St.gh (s : St) (id z : Nat) : St := { w := s.w, μ := fun k => if k = id then some (0, 0) else s.μ k, S := s.S, H := (id, ⟨z, true, true, []⟩) :: s.H }

theorem St.gh_ext {s : St} {id z : Nat} (hid : s.H.get id = none) : Ext s (s.gh id z) where
  os := rfl
  tape := rfl
  output := rfl
  size := Nat.le_refl _
  frame _ _ _ := rfl
  stab _ h := h
  prov _ h := .inl h
  live b hb := by
    rintro ⟨k, blk, c, h1, h2, h3, h4⟩
    simp only [St.gh, Heap.get_cons] at h1 h3
    by_cases e : id = k
    · subst e
      simp only [if_true, Option.some.injEq, Prod.mk.injEq] at h3
      omega
    · rw [if_neg e] at h1
      rw [if_neg (Ne.symm e)] at h3
      exact ⟨k, blk, c, h1, h2, h3, h4⟩
  ids k blk hk := by
    have hne : ¬ id = k := fun e => by subst e; rw [hid] at hk; cases hk
    refine ⟨blk, by simp only [St.gh, Heap.get_cons]; rw [if_neg hne]; exact hk, rfl, Nat.le_refl _, fun _ => ?_⟩
    simp only [St.gh]
    rw [if_neg (Ne.symm hne)]

theorem St.gh_ok {B : Base} {s : St} {id z : Nat} (ho : s.ok B) (hid : s.H.get id = none) : (s.gh id z).ok B where
  lt := ho.lt
  blk k blk hk := by
    have hx := St.gh_ext (s := s) (id := id) (z := z) hid
    simp only [St.gh, Heap.get_cons] at hk
    by_cases e : id = k
    · subst e
      rw [if_pos rfl] at hk
      obtain rfl : _ = blk := by simpa using hk
      exact ⟨0, 0, by simp [St.gh], by simp, fun h => absurd h (by omega)⟩
    · rw [if_neg e] at hk
      refine (ho.blk k blk hk).keep hx ho (by simp only [St.gh]; rw [if_neg (Ne.symm e)]) (fun _ _ _ _ => rfl) (fun b c h1 h2 hl hS => ?_)
      obtain ⟨b', c', k1, _, k3⟩ := ho.blk k blk hk
      rw [h1] at k1
      obtain ⟨rfl, rfl⟩ : b = b' ∧ c = c' := by simpa using k1
      exact (k3 h2).2.2.1 hl hS
  inj k k' bk bk' b c c' h1 h2 hl hl' m1 m2 hc hc' := by
    simp only [St.gh, Heap.get_cons] at h1 h2 m1 m2
    by_cases e : id = k
    · subst e; simp only [if_true, Option.some.injEq, Prod.mk.injEq] at m1; omega
    · by_cases e' : id = k'
      · subst e'; simp only [if_true, Option.some.injEq, Prod.mk.injEq] at m2; omega
      · rw [if_neg e] at h1
        rw [if_neg e'] at h2
        rw [if_neg (Ne.symm e)] at m1
        rw [if_neg (Ne.symm e')] at m2
        exact ho.inj k k' bk bk' b c c' h1 h2 hl hl' m1 m2 hc hc'
  glob := ho.glob

theorem prun_ghost {F : Frm} {k : List It} {env : Env} {H : Heap} (t id z : Nat) (ht : env.get t = .nils) (hid : H.get id = none) (h : Prun F k ((t, .sref id 0 0 0) :: env) ((id, ⟨z, true, true, []⟩) :: H)) : Prun F k env H := by
  intro s a hr
  have hid' : s.H.get id = none := by rw [hr.has id, hid]
  have hx := St.gh_ext (s := s) (id := id) (z := z) hid'
  refine h (s.gh id z) a ⟨St.gh_ok hr.ok hid', fun i => ?_, hr.ext.trans hx, hr.dfr, ⟨hr.env.size, fun u => ?_⟩, hr.s0h⟩
  · simp only [St.gh, Heap.get_cons]
    rw [hr.has i]
  · simp only [Env.get]
    split
    · rename_i e
      subst e
      have hv := hr.env.get t
      rw [ht] at hv
      have hv := VR_nils.1 hv
      refine VR_sref.2 ⟨⟨none, 0, 0, hv⟩, ⟨z, true, true, []⟩, by simp [St.gh, Heap.get_cons], Nat.le_refl _, fun _ => ⟨0, 0, none, 0, by simp [St.gh], hv, by omega, by omega, rfl, .inl rfl⟩⟩
    · exact VR_ext hx hr.ok _ _ (hr.env.get u)

section
variable {B : Base} {F : Frm} {all : Array Oper} {k : List It} {env : Env} {H : Heap} {rest : List Oper} {d : Nat} {ty : TypeId} {ps : String} {af : Array Edge} {g : Option (Nat × Bool)}

/-- One element goes onto a slice of the code's own. -/
theorem od_app1 {dd : Option Nat} {t tx et et' : TypeId} {x y : Operand} {id j l0 : Nat} {z : Nat} {es : List PV} {q : PV} {e ex ee : TyE} (hT : B.good) (ht : B.T[t]? = some (some e)) (hk : e.kind = .slice et) (he : B.T[et]? = some (some ee)) (htx : B.T[tx]? = some (some ex)) (hkx : ex.kind = .slice et')
    (hz0 : ee.zero ≠ []) (hzl : ee.zero.length = ee.size) (hz : z = ee.size) (hx : env.ev x = .sref id l0 0 l0) (hy : env.ev y = .sref j 1 0 1) (hb : H.get id = some ⟨z, true, true, es⟩) (hl : es.length = l0) (hj : H.get j = some ⟨z, true, true, [q]⟩) (hfit : (l0 + 1) * max 1 ee.bytes ≤ 140737488355328) (hk1 : id < 1000000 := by omega) :
    OpD B ⟨dd, .call { callee := .builtin .append, args := #[x, y], argTypes := #[t, tx] }, ty, ps, af, g⟩ env (id :: [j]) H (.sref id (l0 + 1) 0 (l0 + 1)) [(id, ⟨z, true, true, es ++ [q]⟩)] :=
  od_append (xs := [q]) hT ht hk he htx hz0 hzl hx hy hb rfl rfl hl hz (.ref hkx hj rfl rfl hz (by simp)) hfit (tk_lt hk1)

theorem prun_app1 {t tx et et' : TypeId} {x y : Operand} {id j l0 : Nat} {z : Nat} {es : List PV} {q : PV} {e ex ee : TyE} (hT : F.B.good) (ht : F.B.T[t]? = some (some e)) (hk : e.kind = .slice et) (he : F.B.T[et]? = some (some ee)) (htx : F.B.T[tx]? = some (some ex)) (hkx : ex.kind = .slice et')
    (hz0 : ee.zero ≠ []) (hzl : ee.zero.length = ee.size) (hz : z = ee.size) (hx : env.ev x = .sref id l0 0 l0) (hy : env.ev y = .sref j 1 0 1) (hb : H.get id = some ⟨z, true, true, es⟩) (hl : es.length = l0) (hj : H.get j = some ⟨z, true, true, [q]⟩) (hfit : (l0 + 1) * max 1 ee.bytes ≤ 140737488355328)
    (hg : guardK F.N all env g = some true) (hd : dstB F.N (some d) = true) (h : Prun F (.ops all rest :: k) ((d, .sref id (l0 + 1) 0 (l0 + 1)) :: env) (updK H id ⟨z, true, true, es ++ [q]⟩)) (hk1 : id < 1000000 := by omega) :
    Prun F (.ops all (⟨some d, .call { callee := .builtin .append, args := #[x, y], argTypes := #[t, tx] }, ty, ps, af, g⟩ :: rest) :: k) env H :=
  prun_d (od_app1 hT ht hk he htx hkx hz0 hzl hz hx hy hb hl hj hfit hk1) hg hd (fun i => by rw [updK_get H id _ _ hb i]; rfl) h
end
/-! ### ways that come together again -/
theorem letsOut_mono {Q Q' : Exit → Act → World → Prop} (hq : ∀ e a w, Q e a w → Q' e a w) (h : LetsOut Q) : LetsOut Q' := let ⟨a, w, h⟩ := h; ⟨a, w, hq _ _ _ h⟩

theorem wpList_post {P : Program} {ops : Array Oper} {Q Q' : Exit → Act → World → Prop} (hq : ∀ e a w, Q e a w → Q' e a w) : ∀ (l : List Oper) (a : Act) (w : World), wpList P ops Q l a w → wpList P ops Q' l a w
  | [], a, w, h => hq _ _ _ h
  | o :: rest, a, w, h => by
    unfold wpList at h ⊢
    split
    · rename_i hw
      rw [if_pos hw] at h
      refine h.imp (fun h => ?_) (fun h => ⟨h.1, letsOut_mono hq h.2⟩)
      unfold Oper.wp at *
      generalize (execOp a.eval o).run P w = r at *
      cases r with
      | ok n w' =>
        cases n <;> simp only [Oper.upon] at h ⊢ <;>
          first
            | exact wpList_post hq rest _ _ h
            | exact Calls.mono h (fun e w'' he => by cases e <;> first | exact wpList_post hq rest _ _ he | exact hq _ _ _ he | exact letsOut_mono hq he)
            | exact Rows.mono h (fun _ _ he => wpList_post hq rest _ _ he)
      | halt x w' => cases x <;> simp only [Oper.upon] at h ⊢ <;> exact hq _ _ _ h
    · rename_i hw
      rw [if_neg hw] at h
      exact wpList_post hq rest _ _ h

theorem itQ_mid {F : Frm} {J : Env → Heap → Prop} {k : List It} (h2 : ∀ env H, J env H → Prun F k env H) : ∀ (k1 : List It) (e : Exit) (a : Act) (w : World), itQ F (k1 ++ .lp J :: k) e a w → itQ F (k1 ++ k) e a w
  | [], e, a, w, h => by
    cases e <;> first | (obtain ⟨env, H, s, rfl, hr, hj⟩ := h; exact h2 env H hj s a hr) | exact h
  | .code c :: k1, e, a, w, h => by
    cases e <;> first | exact wp_mono h fun e a w h => itQ_mid h2 k1 e a w h | exact itQ_mid h2 k1 _ a w h
  | .ops all rest :: k1, e, a, w, h => by
    cases e
    · show wpList F.B.P all (itQ F (k1 ++ k)) rest a w
      have h : wpList F.B.P all (itQ F (k1 ++ .lp J :: k)) rest a w := h
      exact wpList_post (fun e a w h => itQ_mid h2 k1 e a w h) _ _ _ h
    all_goals exact itQ_mid h2 k1 _ a w h
  | .blk id :: k1, e, a, w, h => by
    cases e with
    | exit id' =>
      simp only [List.cons_append, itQ] at h ⊢
      split
      · rename_i e; rw [if_pos e] at h; exact itQ_mid h2 k1 _ a w h
      · rename_i e; rw [if_neg e] at h; exact itQ_mid h2 k1 _ a w h
    | _ => exact itQ_mid h2 k1 _ a w h
  | .lp J' :: k1, e, a, w, h => by
    cases e <;> first | exact h | exact itQ_mid h2 k1 _ a w h

theorem prun_join2 {F : Frm} {i1 i2 : It} {k : List It} {env : Env} {H : Heap} (φ : Prop) (E : Env) (G : Heap) (hk : keysIn F.H0 G = true) (h1 : Prun F (i1 :: i2 :: .lp (fun env H => φ ∧ envSub G E env ∧ heapSub G G H) :: k) env H) (h2 : φ → Prun F k E G) : Prun F (i1 :: i2 :: k) env H :=
  fun s a hr => itQ_mid (fun _ _ ⟨hp, he, hh⟩ => prun_weak he hh hk (h2 hp)) [i1, i2] .normal a s.w (h1 s a hr)

theorem prun_join1 {F : Frm} {i1 : It} {k : List It} {env : Env} {H : Heap} (φ : Prop) (E : Env) (G : Heap) (hk : keysIn F.H0 G = true) (h1 : Prun F (i1 :: .lp (fun env H => φ ∧ envSub G E env ∧ heapSub G G H) :: k) env H) (h2 : φ → Prun F k E G) : Prun F (i1 :: k) env H :=
  fun s a hr => itQ_mid (fun _ _ ⟨hp, he, hh⟩ => prun_weak he hh hk (h2 hp)) [i1] .normal a s.w (h1 s a hr)

end Go.PM
/- What the small functions compute, in plain Lean; no program in sight. -/
namespace Go.PM

abbrev Str := List UInt8

def digit (n : Nat) : UInt8 := UInt8.ofNat (48 + n)

def decN (n : Nat) : Str := if n < 10 then [digit n] else decN (n / 10) ++ [digit (n % 10)]
termination_by n

def dec (n : Int) : Str := if n < 0 then 45 :: decN n.natAbs else decN n.natAbs

theorem decN_len (n m : Nat) (h : n < 10 ^ m) (hm : 0 < m) : (decN n).length ≤ m := by
  induction m generalizing n with
  | zero => omega
  | succ m ih =>
    rw [decN]
    split
    · simp
    · rename_i h1
      rw [List.length_append]
      rcases Nat.eq_zero_or_pos m with rfl | hm0
      · simp at h; omega
      · have := ih (n / 10) (by rw [Nat.pow_succ] at h; omega) hm0
        simp; omega

theorem digit_toNat {n : Nat} (h : n < 10) : (digit n).toNat = 48 + n := by
  simp [digit]; omega

theorem dec_small {n : Int} (h0 : 0 ≤ n) (h : n < 10) : dec n = [digit n.toNat] := by
  rw [dec, if_neg (by omega), decN, if_pos (by omega)]
  congr 2; omega

theorem dec_neg {n : Int} (h : n < 0) : dec n = 45 :: dec (-n) := by
  rw [dec, if_pos h, dec, if_neg (by omega)]
  congr 2; omega

theorem dec_step {n : Int} (h : 10 ≤ n) : dec n = dec (n.tdiv 10) ++ [digit (n.tmod 10).toNat] := by
  have e1 : n.tdiv 10 = (n.natAbs / 10 : Nat) := by rw [Int.tdiv_eq_ediv_of_nonneg (by omega)]; omega
  have e2 : n.tmod 10 = (n.natAbs % 10 : Nat) := by rw [Int.tmod_eq_emod_of_nonneg (by omega)]; omega
  rw [e1, e2, dec, if_neg (by omega), decN, if_neg (by omega), dec, if_neg (by omega)]
  rfl

/-- What stands ahead of the first space, and what behind it. -/
def word1 (s : Str) : Str × Str := (s.takeWhile (· != 32), (s.dropWhile (· != 32)).drop 1)

theorem takeWhile_at {p : UInt8 → Bool} : ∀ {s : Str} {i : Nat} {c : UInt8}, (∀ x ∈ s.take i, p x = true) → s[i]? = some c → p c = false → s.takeWhile p = s.take i ∧ (s.dropWhile p) = s.drop i
  | [], _, _, _, h, _ => by simp at h
  | x :: s, 0, c, _, h, hc => by
    obtain rfl : x = c := by simpa using h
    simp [List.takeWhile, List.dropWhile, hc]
  | x :: s, i + 1, c, ha, h, hc => by
    have hx : p x = true := ha x (by simp)
    obtain ⟨h1, h2⟩ := takeWhile_at (s := s) (i := i) (fun y hy => ha y (by simp [hy])) (by simpa using h) hc
    simp [List.takeWhile, List.dropWhile, hx, h1, h2]

theorem word1_at {s : Str} {i : Nat} (ha : ∀ x ∈ s.take i, (x != 32) = true) (h : s[i]? = some 32) : word1 s = (s.take i, s.drop (i + 1)) := by
  obtain ⟨h1, h2⟩ := takeWhile_at ha h (by decide)
  simp [word1, h1, h2, List.drop_drop]

theorem word1_none {s : Str} (ha : ∀ x ∈ s, (x != 32) = true) : word1 s = (s, []) := by
  have key : ∀ (s : Str), (∀ x ∈ s, (x != 32) = true) → s.takeWhile (· != 32) = s ∧ s.dropWhile (· != 32) = [] := by
    intro s
    induction s with
    | nil => intro _; exact ⟨rfl, rfl⟩
    | cons x s ih =>
      intro h
      have hx : (x != 32) = true := h x (by simp)
      obtain ⟨h1, h2⟩ := ih fun y hy => h y (by simp [hy])
      exact ⟨by rw [List.takeWhile_cons, if_pos hx, h1], by rw [List.dropWhile_cons, if_pos hx, h2]⟩
  simp [word1, (key s ha).1, (key s ha).2]

theorem all_take_succ {p : UInt8 → Bool} {s : Str} {i : Nat} {c : UInt8} (ha : ∀ x ∈ s.take i, p x = true) (h : s[i]? = some c) (hc : p c = true) : ∀ x ∈ s.take (i + 1), p x = true := by
  rw [List.take_add_one, h]
  intro x hx
  simp at hx
  rcases hx with hx | rfl
  · exact ha x hx
  · exact hc

def isDig (c : UInt8) : Bool := decide (48 ≤ c.toNat) && decide (c.toNat ≤ 57)

def valN (s : Str) : Nat := s.foldl (fun a c => a * 10 + (c.toNat - 48)) 0

/-- A number of at most four figures as it is written; -1 if it is none. -/
def num4 (s : Str) : Int := if 1 ≤ s.length ∧ s.length ≤ 4 ∧ s.all isDig = true ∧ dec (valN s) = s then (valN s : Int) else -1

theorem valN_snoc {s : Str} {i : Nat} {c : UInt8} (h : s[i]? = some c) : valN (s.take (i + 1)) = valN (s.take i) * 10 + (c.toNat - 48) := by
  rw [valN, List.take_add_one, h]
  simp [valN]

theorem valN_lt (s : Str) (ha : ∀ x ∈ s, isDig x = true) : valN s < 10 ^ s.length := by
  have key : ∀ (s : Str) (a m : Nat), (∀ x ∈ s, isDig x = true) → a < 10 ^ m → s.foldl (fun a c => a * 10 + (c.toNat - 48)) a < 10 ^ (m + s.length) := by
    intro s
    induction s with
    | nil => intro a m _ h; simpa using h
    | cons c s ih =>
      intro a m ha h
      rw [List.foldl_cons, List.length_cons, show m + (s.length + 1) = (m + 1) + s.length by omega]
      refine ih _ (m + 1) (fun x hx => ha x (by simp [hx])) ?_
      have := ha c (by simp)
      simp only [isDig, Bool.and_eq_true, decide_eq_true_eq] at this
      rw [Nat.pow_succ]
      omega
  simpa [valN] using key s 0 0 ha (by simp)

def intsP (l : List Int) : List PV := l.map (PV.int .i64)
def strsP (l : List Str) : List PV := l.map PV.str

/-- So many numbers cut off, one space behind each. -/
def nums (n : Nat) (s : Str) : List Int × Str :=
  match n with
  | 0 => ([], s)
  | n + 1 => (num4 (word1 s).1 :: (nums n (word1 s).2).1, (nums n (word1 s).2).2)

theorem word1_len (s : Str) : (word1 s).2.length ≤ s.length := by
  have : (s.dropWhile (· != 32)).length ≤ s.length := (List.dropWhile_sublist _).length_le
  simp [word1]; omega

/-- A text cut at each byte of a kind. -/
def splitAt (at_ : UInt8) : Str → List Str
  | [] => [[]]
  | c :: s => if c = at_ then [] :: splitAt at_ s else match splitAt at_ s with
    | w :: ws => (c :: w) :: ws
    | [] => [[c]]

theorem splitAt_ne (a : UInt8) (s : Str) : splitAt a s ≠ [] := by
  cases s with
  | nil => simp [splitAt]
  | cons c s =>
    simp only [splitAt]
    split
    · simp
    · split <;> simp

/-- The cut, with what is already held of the first word. -/
def splitPre (a : UInt8) (pre : Str) (s : Str) : List Str := match splitAt a s with
  | w :: ws => (pre ++ w) :: ws
  | [] => [pre]

theorem splitPre_nil (a : UInt8) (s : Str) : splitPre a [] s = splitAt a s := by
  unfold splitPre
  split <;> simp_all [splitAt_ne]

theorem splitPre_hit (a : UInt8) (pre s : Str) : splitPre a pre (a :: s) = pre :: splitAt a s := by
  simp [splitPre, splitAt]

theorem splitPre_miss {a c : UInt8} (pre s : Str) (h : c ≠ a) : splitPre a pre (c :: s) = splitPre a (pre ++ [c]) s := by
  simp only [splitPre, splitAt, if_neg h]
  split <;> rename_i e <;> split at e <;> simp_all [splitAt_ne]

theorem splitPre_end (a : UInt8) (pre : Str) : splitPre a pre [] = [pre] := by simp [splitPre, splitAt]

theorem splitAt_len (a : UInt8) (s : Str) : (splitAt a s).length ≤ s.length + 1 := by
  induction s with
  | nil => simp [splitAt]
  | cons c s ih =>
    simp only [splitAt]
    split
    · simp; omega
    · split
      · rename_i w ws e; rw [e] at ih; simp at ih ⊢; omega
      · simp

end Go.PM
/- Events and their lines, in plain Lean; no program in sight. -/
namespace Go.PM

/-- What happens in a river. -/
structure Ev where
  kind : Int
  at_ : Int
  frm : Int
  num : Int
  word : Int
  mix : Int
  keep : Int
  to_ : Int
  til : Int
  text : Str
  deriving DecidableEq

def Ev.pv (e : Ev) : PV := .agg [.int .i64 e.kind, .int .i64 e.at_, .int .i64 e.frm, .int .i64 e.num, .int .i64 e.word, .int .i64 e.mix, .int .i64 e.keep, .int .i64 e.to_, .int .i64 e.til, .str e.text]

def Ev.none : Ev := ⟨0, 0, 0, 0, 0, 0, 0, 0, 0, []⟩

def I64 (n : Int) : Prop := -9223372036854775808 ≤ n ∧ n ≤ 9223372036854775807

structure Ev.ok (e : Ev) : Prop where
  kind : I64 e.kind
  at_ : I64 e.at_
  frm : I64 e.frm
  num : I64 e.num
  word : I64 e.word
  mix : I64 e.mix
  keep : I64 e.keep
  to_ : I64 e.to_
  til : I64 e.til
  text : e.text.length ≤ 1048576

def words : List Str := [[], [111, 119, 110], [116, 105, 109, 101], [109, 105, 120], [98, 114, 105, 110, 103, 115], [108, 111, 115, 101, 115], [115, 112, 111, 105, 108, 115], [102, 97, 108, 108, 115], [114, 105, 115, 101, 115], [111, 112, 101, 110, 115], [99, 108, 111, 115, 101, 115], [101, 97, 116, 115], [112, 97, 99, 107, 115], [102, 111, 114, 99, 101, 115], [100, 111, 117, 98, 108, 101, 115]]

def wordAt (n : Nat) : Str := (words[n]?).getD []

def sp : Str := [32]

/-- The line of what happens, without looking whether it can be written. -/
def line44 (e : Ev) : Str :=
  if ¬ (1 ≤ e.kind ∧ e.kind ≤ 13) then []
  else if e.kind = 1 then wordAt 1 ++ sp ++ dec e.at_ ++ sp ++ dec e.to_ ++ sp ++ dec e.til ++ sp ++ e.text
  else if e.kind = 3 then wordAt 3 ++ sp ++ dec e.at_ ++ sp ++ dec e.frm ++ sp ++ dec e.num ++ sp ++ dec e.mix
  else if e.kind = 4 then (if e.keep = 1 then wordAt 14 else wordAt 4) ++ sp ++ dec e.word
  else if e.kind = 5 then wordAt 5 ++ sp ++ dec e.word
  else if e.kind = 6 then wordAt 6 ++ sp ++ dec e.word ++ sp ++ dec e.mix ++ sp ++ dec e.keep
  else if e.kind = 7 then wordAt 7 ++ sp ++ dec e.at_ ++ sp ++ dec e.keep
  else if e.kind = 11 then wordAt 11 ++ sp ++ dec e.at_ ++ sp ++ dec e.frm ++ sp ++ dec e.num
  else wordAt e.kind.toNat ++ sp ++ dec e.at_

theorem decN_le (n : Nat) (h : n ≤ 9223372036854775808) : (decN n).length ≤ 19 := decN_len n 19 (by omega) (by omega)
theorem dec_le {n : Int} (h : I64 n) : (dec n).length ≤ 20 := by
  obtain ⟨h1, h2⟩ := h
  have := decN_le n.natAbs (by omega)
  unfold dec
  split <;> simp <;> omega

/-- Numbers of at most four figures, all or none. -/
def nums44 (ws : List Str) : List Int × Bool := if ws.all (fun w => decide (0 ≤ num4 w)) = true then (ws.map num4, true) else ([], false)

def printable (c : UInt8) : Bool := decide (32 ≤ c.toNat) && decide (c.toNat ≤ 126)

/-- What a keeper takes in. -/
def own44 (s : Str) : Ev × Bool :=
  let n := (nums 3 s).1
  let rest := (nums 3 s).2
  if n.getD 0 0 < 0 ∨ n.getD 1 0 < 0 ∨ n.getD 2 0 < 0 then (Ev.none, false)
  else if rest.all printable = false then (Ev.none, false)
  else (⟨1, n.getD 0 0, 0, 0, 0, 0, 0, n.getD 1 0, n.getD 2 0, rest⟩, decide (rest.length ≤ 24) && decide (0 < rest.length))

theorem nums_len : ∀ (n : Nat) (s : Str), (nums n s).2.length ≤ s.length
  | 0, s => Nat.le_refl _
  | n + 1, s => by
    have h1 := nums_len n (word1 s).2
    have h2 := word1_len s
    simp only [nums]; omega


/-- What a word and its numbers make. -/
def make44 (k : Nat) (n : List Int) : Ev × Bool :=
  if k = 3 ∧ n.length = 4 then (⟨3, n.getD 0 0, n.getD 1 0, n.getD 2 0, 0, n.getD 3 0, 0, 0, 0, []⟩, true)
  else if k = 6 ∧ n.length = 3 then (⟨6, 0, 0, 0, n.getD 0 0, n.getD 1 0, n.getD 2 0, 0, 0, []⟩, true)
  else if k = 11 ∧ n.length = 3 then (⟨11, n.getD 0 0, n.getD 1 0, n.getD 2 0, 0, 0, 0, 0, 0, []⟩, true)
  else if k = 7 ∧ n.length = 2 then (⟨7, n.getD 0 0, 0, 0, 0, 0, n.getD 1 0, 0, 0, []⟩, true)
  else if k = 3 ∨ k = 6 ∨ k = 11 ∨ k = 7 ∨ n.length ≠ 1 then (Ev.none, false)
  else if k = 14 then (⟨4, 0, 0, 0, n.getD 0 0, 0, 1, 0, 0, []⟩, true)
  else if k = 4 ∨ k = 5 then (⟨k, 0, 0, 0, n.getD 0 0, 0, 0, 0, 0, []⟩, true)
  else (⟨k, n.getD 0 0, 0, 0, 0, 0, 0, 0, 0, []⟩, true)

/-- The words from here on are looked through. -/
def look44 (w : Str) (n : List Int) (fuel k : Nat) : Ev × Bool :=
  match fuel with
  | 0 => (Ev.none, false)
  | f + 1 => if w = wordAt k then make44 k n else look44 w n f (k + 1)

def read44 (s : Str) : Ev × Bool :=
  if 4 ≤ s.length ∧ s.take 4 = [111, 119, 110, 32] then own44 (s.drop 4)
  else if (nums44 (splitAt 32 s).tail).2 = false then (Ev.none, false)
  else look44 ((splitAt 32 s).headD []) (nums44 (splitAt 32 s).tail).1 13 2

theorem len1 {n : List Int} (h : n.length = 1) : ∃ a, n = [a] := by
  match n, h with
  | [a], _ => exact ⟨a, rfl⟩
theorem len2 {n : List Int} (h : n.length = 2) : ∃ a b, n = [a, b] := by
  match n, h with
  | [a, b], _ => exact ⟨a, b, rfl⟩
theorem len3 {n : List Int} (h : n.length = 3) : ∃ a b c, n = [a, b, c] := by
  match n, h with
  | [a, b, c], _ => exact ⟨a, b, c, rfl⟩
theorem len4 {n : List Int} (h : n.length = 4) : ∃ a b c d, n = [a, b, c, d] := by
  match n, h with
  | [a, b, c, d], _ => exact ⟨a, b, c, d, rfl⟩

theorem wordAt_len (n : Nat) : (wordAt n).length ≤ 7 := by
  by_cases h : n < 15
  · have : ∀ m, m < 15 → (wordAt m).length ≤ 7 := by decide
    exact this n h
  · have : words.length ≤ n := by simp [words]; omega
    simp [wordAt, List.getElem?_eq_none this]

theorem line44_len {e : Ev} (he : e.ok) : (line44 e).length ≤ 2000000 := by
  have la := dec_le he.at_; have lf := dec_le he.frm; have ln := dec_le he.num; have lw := dec_le he.word; have lm := dec_le he.mix; have lkp := dec_le he.keep; have lt := dec_le he.to_; have lu := dec_le he.til
  have htx := he.text
  have w1 := wordAt_len 1; have w3 := wordAt_len 3; have w4 := wordAt_len 4; have w5 := wordAt_len 5; have w6 := wordAt_len 6; have w7 := wordAt_len 7; have w11 := wordAt_len 11; have w14 := wordAt_len 14; have wk := wordAt_len e.kind.toNat
  unfold line44 sp
  repeat' split
  all_goals simp only [List.length_append, List.length_cons, List.length_nil]
  all_goals omega

/-- Line by line, each read again. -/
def write44 (out : Str) : List Ev → Str
  | [] => out
  | e :: r => if read44 (line44 e) = (e, true) then (if 60000 < (out ++ line44 e ++ [10]).length then [] else write44 (out ++ line44 e ++ [10]) r) else []

def szEv (e : Ev) (left : Int) : Int := if left - e.text.length < 0 then -1 else left - e.text.length

def szEvS (l : List Ev) (left : Int) : Int := if left - l.length < 0 then -1 else l.foldl (fun x e => if x < 0 then -1 else szEv e x) (left - l.length)

theorem szEv_neg : ∀ (l : List Ev) (x : Int), x < 0 → l ≠ [] → l.foldl (fun x e => if x < 0 then -1 else szEv e x) x = -1
  | [], _, _, h => absurd rfl h
  | [e], x, hx, _ => by simp [hx]
  | e :: f :: l, x, hx, _ => by
    rw [List.foldl_cons, if_pos hx]
    exact szEv_neg (f :: l) (-1) (by omega) (by simp)

end Go.PM
namespace Go.PMS
open Go Go.PM Go.Proofs Go.RowKit

variable {W : World} {gs : Nat}

set_option maxRecDepth 20000
theorem toRiverEvent_spec (e : Ev) : PSpec (bs W gs) n_laws_toRiverEvent [e.pv] [] (fun r H => r = e.pv ∧ H = []) := by
  refine pspec_intro (fn := b_laws_toRiverEvent) (bs_good W gs) rfl rfl rfl (Nat.le_of_ble_eq_true rfl) fun s0 _ => ?_
  repeat refine prun_step (bs_good W gs) rfl ?_
  exact ret_ends (ends_flat rfl rfl ⟨rfl, rfl⟩)

theorem szRiverEvent_spec (e : Ev) (left : Int) (h1 : 0 ≤ left) (h2 : left ≤ 1048576) (h3 : (e.text.length : Int) ≤ 140737488355328) : PSpec (bs W gs) n_laws_szRiverEvent [e.pv, .int .i64 left] [] (fun r H => r = .int .i64 (szEv e left) ∧ H = []) := by
  refine pspec_intro (fn := b_laws_szRiverEvent) (bs_good W gs) rfl rfl rfl (Nat.le_of_ble_eq_true rfl) fun s0 _ => ?_
  have hw := wrap64 (n := left - (e.text.length : Nat)) (by omega) (by omega)
  repeat refine prun_step (bs_good W gs) rfl ?_
  rw [hw]
  refine prun_cond rfl (fun h => ?_) (fun h => ?_)
  · repeat refine prun_step (bs_good W gs) rfl ?_
    exact ret_ends (ends_flat rfl rfl ⟨by rw [szEv, if_pos (by simpa using h)]; rfl, rfl⟩)
  · repeat refine prun_step (bs_good W gs) rfl ?_
    exact ret_ends (ends_flat rfl rfl ⟨by rw [szEv, if_neg (by simpa using h)]; rfl, rfl⟩)

theorem eqRiverEvent_spec (a b : Ev) : PSpec (bs W gs) n_laws_eqRiverEvent [a.pv, b.pv] [] (fun r H => r = .bool (decide (a = b)) ∧ H = []) := by
  refine pspec_intro (fn := b_laws_eqRiverEvent) (bs_good W gs) rfl rfl rfl (Nat.le_of_ble_eq_true rfl) fun s0 _ => ?_
  obtain ⟨a1, a2, a3, a4, a5, a6, a7, a8, a9, a10⟩ := a
  obtain ⟨b1, b2, b3, b4, b5, b6, b7, b8, b9, b10⟩ := b
  repeat refine prun_step (bs_good W gs) rfl ?_
  iterate 10
    refine prun_cond rfl (fun h => ?_) (fun h => ?_)
    · repeat refine prun_step (bs_good W gs) rfl ?_
      exact ret_ends (ends_flat rfl rfl ⟨congrArg PV.bool (by simp_all), rfl⟩)
    repeat refine prun_step (bs_good W gs) rfl ?_
  exact ret_ends (ends_flat rfl rfl ⟨congrArg PV.bool (by simp_all), rfl⟩)

def zEv : PV := .agg [.int .i64 0, .int .i64 0, .int .i64 0, .int .i64 0, .int .i64 0, .int .i64 0, .int .i64 0, .int .i64 0, .int .i64 0, .str []]

theorem toRiverEventS_spec (l : List Ev) (hl : l.length ≤ 1048576) : PSpec (bs W gs) n_laws_toRiverEventS [.snap 10 (l.map Ev.pv)] [] (fun r H => r = .snap 10 (l.map Ev.pv) ∧ H = []) := by
  refine pspec_intro (fn := b_laws_toRiverEventS) (bs_good W gs) rfl rfl rfl (Nat.le_of_ble_eq_true rfl) fun s0 _ => ?_
  repeat refine prun_step (bs_good W gs) rfl ?_
  refine prun_n 10 true true (List.replicate (l.map Ev.pv).length zEv) (od_make 7 (n := (l.map Ev.pv).length) (bs_good W gs) rfl rfl rfl (by simp) rfl (.inl rfl) (by simp) rfl rfl rfl (by omega) (by simp; omega) rfl) rfl rfl rfl ?_
  repeat refine prun_step (bs_good W gs) rfl ?_
  refine prun_loop (σ := Nat) (fun i => i ≤ l.length)
    (fun i => [(0, .snap 10 (l.map Ev.pv)), (3, .sref 7 l.length 0 l.length), (4, .int .i64 (i : Nat))])
    (fun i => [(7, ⟨10, true, true, (l.take i).map Ev.pv ++ List.replicate (l.length - i) zEv⟩)])
    (fun i => l.length - i) 0 (Nat.zero_le _) ⟨rfl, rfl, ?_, rfl, rfl, rfl, trivial⟩ ⟨?_, .inl rfl, trivial⟩ (fun _ => rfl) (fun i hi => ?_)
  · simp [Env.get]
  · simp [Heap.get]
  have hlen := fill_len Ev.pv zEv hi
  repeat refine prun_step (bs_good W gs) rfl ?_
  refine prun_cond rfl (fun h => ?_) (fun h => ?_)
  · have hlt : i < l.length := by simpa using h
    obtain ⟨e, he⟩ : ∃ e, l[i]? = some e := ⟨l[i], by simp [hlt]⟩
    repeat refine prun_step (bs_good W gs) rfl ?_
    refine prun_q (od_indexAddr (p := e.pv) (bs_good W gs) rfl rfl rfl rfl rfl rfl (by omega) (by simp [he])) rfl rfl ?_
    repeat refine prun_step (bs_good W gs) rfl ?_
    refine prun_callx (toRiverEvent_spec e) rfl rfl rfl rfl rfl ?_
    refine prun_q (od_indexAddr_ref (bs_good W gs) rfl rfl rfl rfl rfl rfl hlen rfl (by omega) (by omega)) rfl rfl ?_
    refine prun_w 10 true true ((l.take (i + 1)).map Ev.pv ++ List.replicate (l.length - (i + 1)) zEv) (od_store (q := zEv) (p := e.pv) (bs_good W gs) rfl rfl rfl rfl rfl hlen ?_ rfl rfl (by simp [Ev.pv, PV.cells]) rfl (Nat.le_of_ble_eq_true rfl) (fun _ => rfl)) ?_ rfl rfl rfl ?_
    · simpa using fill_get Ev.pv zEv hlt
    · rw [← fill_set he]; simp; rfl
    repeat refine prun_step (bs_good W gs) rfl ?_
    rw [wrap64 (n := (i : Int) + 1) (by omega) (by omega)]
    exact prun_lp ⟨i + 1, by omega, by omega, ⟨rfl, rfl, rfl, rfl, rfl, rfl, trivial⟩, ⟨rfl, .inl rfl, trivial⟩⟩
  · have hge : i = l.length := by simp at h; omega
    subst hge
    repeat refine prun_step (bs_good W gs) rfl ?_
    exact ret_ends (ends_slice rfl rfl rfl hlen (by omega) ⟨congrArg (PV.snap 10) (fill_done Ev.pv zEv), rfl⟩)

end Go.PMS
namespace Go.PMS
open Go Go.PM Go.Proofs Go.RowKit
variable {W : World} {gs : Nat}
set_option maxRecDepth 20000

theorem in_spec (n lo hi : Int) : PSpec (bs W gs) n_impl_in [.int .i64 n, .int .i64 lo, .int .i64 hi] [] (fun r H => r = .bool (decide (lo ≤ n ∧ n ≤ hi)) ∧ H = []) := by
  refine pspec_intro (fn := b_impl_in) (bs_good W gs) rfl rfl rfl (Nat.le_of_ble_eq_true rfl) fun s0 _ => ?_
  have hT := bs_good W gs
  repeat refine prun_step hT rfl ?_
  refine prun_split 10 rfl (fun h => ?_) (fun h => ?_)
  · repeat refine prun_step hT rfl ?_
    exact ret_ends (ends_flat rfl rfl ⟨congrArg PV.bool (by simp at h; simp [h]), rfl⟩)
  · repeat refine prun_step hT rfl ?_
    exact ret_ends (ends_flat rfl rfl ⟨congrArg PV.bool (by simp at h; simp; omega), rfl⟩)

theorem l6Dec_spec (n : Int) (h1 : -9223372036854775808 ≤ n) (h2 : n ≤ 9223372036854775807) : PSpec (bs W gs) n_spec_l6Dec [.int .i64 n] [] (fun r H => r = .str (dec n) ∧ H = []) := by
  generalize hm : n.natAbs + (if n < 0 then 1 else 0) = m
  induction m using Nat.strongRecOn generalizing n with
  | _ m ih =>
  refine pspec_intro (fn := b_spec_l6Dec) (bs_good W gs) rfl rfl rfl (Nat.le_of_ble_eq_true rfl) fun s0 _ => ?_
  have hT := bs_good W gs
  repeat refine prun_step hT rfl ?_
  refine prun_cond rfl (fun h => ?_) (fun h => ?_)
  · have : n = -9223372036854775808 := by simp at h; omega
    subst this
    repeat refine prun_step hT rfl ?_
    refine ret_ends (ends_flat rfl rfl ⟨congrArg PV.str ?_, rfl⟩)
    simp [dec, decN, digit]
  repeat refine prun_step hT rfl ?_
  refine prun_cond rfl (fun h' => ?_) (fun h' => ?_)
  · have hn : n < 0 := by simpa using h'
    have hn2 : -9223372036854775807 ≤ n := by simpa using h
    repeat refine prun_step hT rfl ?_
    rw [wrap64 (n := 0 - n) (by omega) (by omega)]
    refine prun_callx (ih (n := 0 - n) _ ?_ (by omega) (by omega) rfl) rfl rfl rfl rfl rfl ?_
    · rw [← hm, if_pos hn, if_neg (by omega)]; omega
    have hlen : (dec (0 - n)).length ≤ 19 := by
      rw [dec, if_neg (by omega)]
      exact decN_len _ 19 (by omega) (by omega)
    refine prun_q (od_cat rfl rfl (by show 1 + (dec (0 - n)).length ≤ _; omega)) rfl rfl ?_
    repeat refine prun_step hT rfl ?_
    exact ret_ends (ends_flat rfl rfl ⟨congrArg PV.str (by rw [dec_neg hn, Int.zero_sub]; rfl), rfl⟩)
  have h0 : 0 ≤ n := by simpa using h'
  repeat refine prun_step hT rfl ?_
  refine prun_cond rfl (fun h3 => ?_) (fun h3 => ?_)
  · have h3 : n < 10 := by simpa using h3
    repeat refine prun_step hT rfl ?_
    refine prun_q (od_byte1 (b := digit n.toNat) hT rfl rfl rfl rfl rfl rfl rfl rfl ?_) rfl rfl ?_
    · rw [wrap64 (by omega) (by omega), wrapu8 (by omega) (by omega), digit_toNat (by omega)]; omega
    repeat refine prun_step hT rfl ?_
    exact ret_ends (ends_flat rfl rfl ⟨congrArg PV.str (dec_small h0 h3).symm, rfl⟩)
  have h3 : 10 ≤ n := by simpa using h3
  repeat refine prun_step hT rfl ?_
  refine prun_draw hT (by kernel_rfl) ?_
  repeat refine plex_step hT rfl ?_
  have e1 : n.tdiv 10 = n / 10 := Int.tdiv_eq_ediv_of_nonneg (by omega)
  have e2 : n.tmod 10 = n % 10 := Int.tmod_eq_emod_of_nonneg (by omega)
  rw [wrap64 (n := n.tdiv 10) (by omega) (by omega)]
  refine plex_callx (ih (n := n.tdiv 10) _ ?_ (by omega) (by omega) rfl) rfl rfl rfl rfl rfl ?_
  · rw [← hm, if_neg (by omega), if_neg (by omega)]; omega
  repeat refine plex_step hT rfl ?_
  refine plex_q (od_byte1 (b := digit (n.tmod 10).toNat) hT rfl rfl rfl rfl rfl rfl rfl rfl ?_) rfl rfl ?_
  · rw [wrap64 (by omega) (by omega), wrapu8 (by omega) (by omega), digit_toNat (by omega)]; omega
  have hlen : (dec (n.tdiv 10)).length ≤ 19 := by
    rw [dec, if_neg (by omega)]
    exact decN_len _ 19 (by omega) (by omega)
  refine plex_q (od_cat rfl rfl (by simp; omega)) rfl rfl ?_
  repeat refine plex_step hT rfl ?_
  refine plex_nil (by kernel_rfl) ?_
  repeat refine prun_step hT rfl ?_
  exact ret_ends (ends_flat rfl rfl ⟨congrArg PV.str (dec_step h3).symm, rfl⟩)

end Go.PMS
namespace Go.PMS
open Go Go.PM Go.Proofs Go.RowKit
variable {W : World} {gs : Nat}
set_option maxRecDepth 20000

theorem l3Word_spec (s : Str) (hs : s.length ≤ 140737488355328) : PSpec (bs W gs) n_spec_l3Word [.str s] [] (fun r H => r = .tup [.str (word1 s).1, .str (word1 s).2] ∧ H = []) := by
  refine pspec_intro (fn := b_spec_l3Word) (bs_good W gs) rfl rfl rfl (Nat.le_of_ble_eq_true rfl) fun s0 _ => ?_
  have hT := bs_good W gs
  repeat refine prun_step hT rfl ?_
  refine prun_loop (σ := Nat) (fun i => i ≤ s.length ∧ ∀ x ∈ s.take i, (x != 32) = true)
    (fun i => [(0, .str s), (4, .int .i64 (i : Nat))]) (fun _ => [])
    (fun i => s.length - i) 0 ⟨Nat.zero_le _, by simp⟩ ⟨rfl, rfl, rfl, rfl, trivial⟩ trivial (fun _ => rfl) (fun i hi => ?_)
  obtain ⟨hi, ha⟩ := hi
  repeat refine prun_step hT rfl ?_
  refine prun_cond rfl (fun h => ?_) (fun h => ?_)
  · have hlt : i < s.length := by simpa using h
    obtain ⟨c, hc⟩ : ∃ c, s[i]? = some c := ⟨s[i], by simp [hlt]⟩
    repeat refine prun_step hT rfl ?_
    refine prun_q (od_index_str (b := c) hT rfl rfl rfl rfl (by omega) (by simpa using hc)) rfl rfl ?_
    repeat refine prun_step hT rfl ?_
    refine prun_cond rfl (fun h2 => ?_) (fun h2 => ?_)
    · have h2 : c = 32 := by
        have : c.toNat = 32 := by simp at h2; omega
        exact UInt8.toNat_inj.1 (by simpa using this)
      subst h2
      repeat refine prun_step hT rfl ?_
      refine prun_draw hT (by kernel_rfl) ?_
      repeat refine plex_step hT rfl ?_
      refine plex_q (od_slice_str (l := 0) (h := i) hT rfl rfl rfl rfl ⟨_, _, rfl, by omega, by omega⟩ (by omega) hi) rfl rfl ?_
      repeat refine plex_step hT rfl ?_
      rw [wrap64 (n := (i : Int) + 1) (by omega) (by omega)]
      refine plex_q (od_slice_str (l := i + 1) (h := s.length) hT rfl rfl rfl ⟨_, _, rfl, by omega, by omega⟩ rfl (by omega) (by omega)) rfl rfl ?_
      repeat refine plex_step hT rfl ?_
      refine plex_nil (by kernel_rfl) ?_
      refine ret_ends (ends_flat rfl rfl ⟨?_, rfl⟩)
      rw [word1_at ha hc]
      simp [packPV, Env.get]
    · have h2 : c ≠ 32 := by
        rintro rfl; simp at h2
      repeat refine prun_step hT rfl ?_
      rw [wrap64 (n := (i : Int) + 1) (by omega) (by omega)]
      exact prun_lp ⟨i + 1, ⟨by omega, all_take_succ ha hc (by simpa using h2)⟩, by omega, ⟨rfl, rfl, rfl, rfl, trivial⟩, trivial⟩
  · have hge : i = s.length := by simp at h; omega
    subst hge
    repeat refine prun_step hT rfl ?_
    refine ret_ends (ends_flat rfl rfl ⟨?_, rfl⟩)
    rw [word1_none (by simpa using ha)]
    rfl

theorem l3Dec_spec (s : Str) : PSpec (bs W gs) n_spec_l3Dec [.str s] [] (fun r H => r = .int .i64 (num4 s) ∧ H = []) := by
  refine pspec_intro (fn := b_spec_l3Dec) (bs_good W gs) rfl rfl rfl (Nat.le_of_ble_eq_true rfl) fun s0 _ => ?_
  have hT := bs_good W gs
  repeat refine prun_step hT rfl ?_
  refine prun_split 8 rfl (fun h => ?_) (fun h => ?_)
  · have h : s.length = 0 := by simp at h; omega
    repeat refine prun_step hT rfl ?_
    exact ret_ends (ends_flat rfl rfl ⟨by rw [num4, if_neg (by omega)]; rfl, rfl⟩)
  have h1 : 1 ≤ s.length := by simp at h; omega
  repeat refine prun_step hT rfl ?_
  refine prun_cond rfl (fun h => ?_) (fun h => ?_)
  · have h : 4 < s.length := by simp at h; omega
    repeat refine prun_step hT rfl ?_
    exact ret_ends (ends_flat rfl rfl ⟨by rw [num4, if_neg (by omega)]; rfl, rfl⟩)
  have h4 : s.length ≤ 4 := by simp at h; omega
  repeat refine prun_step hT rfl ?_
  refine prun_loop (σ := Nat) (fun i => i ≤ s.length ∧ ∀ x ∈ s.take i, isDig x = true)
    (fun i => [(0, .str s), (3, .int .i64 (valN (s.take i) : Nat)), (4, .int .i64 (i : Nat))]) (fun _ => [])
    (fun i => s.length - i) 0 ⟨Nat.zero_le _, by simp⟩ ⟨rfl, rfl, rfl, rfl, rfl, rfl, trivial⟩ trivial (fun _ => rfl) (fun i hi => ?_)
  obtain ⟨hi, ha⟩ := hi
  repeat refine prun_step hT rfl ?_
  refine prun_cond rfl (fun h => ?_) (fun h => ?_)
  · have hlt : i < s.length := by simpa using h
    obtain ⟨c, hc⟩ : ∃ c, s[i]? = some c := ⟨s[i], by simp [hlt]⟩
    have hcm : c ∈ s := List.mem_of_getElem? hc
    repeat refine prun_step hT rfl ?_
    refine prun_q (od_index_str (b := c) hT rfl rfl rfl rfl (by omega) (by simpa using hc)) rfl rfl ?_
    repeat refine prun_step hT rfl ?_
    refine prun_split 23 rfl (fun h2 => ?_) (fun h2 => ?_)
    · have h2 : c.toNat < 48 := by simp at h2; omega
      repeat refine prun_step hT rfl ?_
      refine ret_ends (ends_flat rfl rfl ⟨?_, rfl⟩)
      rw [num4, if_neg]
      · rfl
      · rintro ⟨_, _, h3, _⟩
        have := List.all_eq_true.1 h3 c hcm
        simp [isDig] at this; omega
    have h2 : 48 ≤ c.toNat := by simp at h2; omega
    repeat refine prun_step hT rfl ?_
    refine prun_q (od_index_str (b := c) hT rfl rfl rfl rfl (by omega) (by simpa using hc)) rfl rfl ?_
    repeat refine prun_step hT rfl ?_
    refine prun_cond rfl (fun h3 => ?_) (fun h3 => ?_)
    · have h3 : 57 < c.toNat := by simp at h3; omega
      repeat refine prun_step hT rfl ?_
      refine ret_ends (ends_flat rfl rfl ⟨?_, rfl⟩)
      rw [num4, if_neg]
      · rfl
      · rintro ⟨_, _, h3, _⟩
        have := List.all_eq_true.1 h3 c hcm
        simp [isDig] at this; omega
    have h3 : c.toNat ≤ 57 := by simp at h3; omega
    repeat refine prun_step hT rfl ?_
    refine prun_q (od_index_str (b := c) hT rfl rfl rfl rfl (by omega) (by simpa using hc)) rfl rfl ?_
    repeat refine prun_step hT rfl ?_
    have hv : valN (s.take i) < 10000 := Nat.lt_of_lt_of_le (valN_lt _ ha) (Nat.pow_le_pow_right (n := 10) (by omega) (by simp; omega : (s.take i).length ≤ 4))
    rw [wrapu8 (n := (c.toNat : Int) - 48) (by omega) (by omega), wrap64 (n := ((c.toNat : Int) - 48)) (by omega) (by omega), wrap64 (n := (valN (s.take i) : Int) * 10) (by omega) (by omega), wrap64 (n := (valN (s.take i) : Int) * 10 + _) (by omega) (by omega), wrap64 (n := (i : Int) + 1) (by omega) (by omega)]
    refine prun_lp ⟨i + 1, ⟨by omega, all_take_succ ha hc (by simp [isDig]; omega)⟩, by omega, ⟨rfl, rfl, ?_, rfl, rfl, rfl, trivial⟩, trivial⟩
    rw [valN_snoc hc]
    simp [Env.get]
    omega
  · have hge : i = s.length := by simp at h; omega
    subst hge
    rw [List.take_length] at ha ⊢
    have hv : valN s < 10000 := Nat.lt_of_lt_of_le (valN_lt _ ha) (Nat.pow_le_pow_right (n := 10) (by omega) h4)
    repeat refine prun_step hT rfl ?_
    refine prun_callx (l6Dec_spec _ (by omega) (by omega)) rfl rfl rfl rfl rfl ?_
    repeat refine prun_step hT rfl ?_
    refine prun_cond rfl (fun h5 => ?_) (fun h5 => ?_)
    · repeat refine prun_step hT rfl ?_
      refine ret_ends (ends_flat rfl rfl ⟨?_, rfl⟩)
      rw [num4, if_neg]
      · rfl
      · rintro ⟨_, _, _, h6⟩
        rw [h6] at h5
        simp at h5
    · repeat refine prun_step hT rfl ?_
      refine ret_ends (ends_flat rfl rfl ⟨?_, rfl⟩)
      rw [num4, if_pos ⟨h1, h4, List.all_eq_true.2 ha, by simpa using h5⟩]
      rfl

end Go.PMS
namespace Go.PMS
open Go Go.PM Go.Proofs Go.RowKit
variable {W : World} {gs : Nat}
set_option maxRecDepth 20000

theorem l3Nums_spec (s : Str) (n : Nat) (hn : n ≤ 100) (hs : s.length ≤ 140737488355328) : PSpec (bs W gs) n_spec_l3Nums [.str s, .int .i64 (n : Nat)] [] (fun r H => r = .tup [.snap 1 (intsP (nums n s).1), .str (nums n s).2] ∧ H = []) := by
  refine pspec_intro (fn := b_spec_l3Nums) (bs_good W gs) rfl rfl rfl (Nat.le_of_ble_eq_true rfl) fun s0 _ => ?_
  have hT := bs_good W gs
  repeat refine prun_step hT rfl ?_
  refine prun_loop (σ := Nat × List Int × Str) (fun x => x.1 ≤ n ∧ x.2.1.length = x.1 ∧ x.2.2.length ≤ s.length ∧ x.2.1 ++ (nums (n - x.1) x.2.2).1 = (nums n s).1 ∧ (nums (n - x.1) x.2.2).2 = (nums n s).2)
    (fun x => [(0, .str x.2.2), (1, .int .i64 (n : Nat)), (6, .sref 10 x.1 0 x.1), (7, .int .i64 (x.1 : Nat))]) (fun x => [(10, ⟨1, true, true, intsP x.2.1⟩)])
    (fun x => n - x.1) (0, [], s) ⟨Nat.zero_le _, rfl, Nat.le_refl _, rfl, rfl⟩ ⟨rfl, rfl, rfl, rfl, rfl, rfl, rfl, rfl, trivial⟩ ⟨rfl, .inl rfl, trivial⟩ (fun _ => rfl) (fun x hx => ?_)
  obtain ⟨i, out, u⟩ := x
  obtain ⟨hi, ho, hu, h1, h2⟩ := hx
  simp only at hi ho hu h1 h2
  repeat refine prun_step hT rfl ?_
  refine prun_cond rfl (fun h => ?_) (fun h => ?_)
  · have hlt : i < n := by simpa using h
    repeat refine prun_step hT rfl ?_
    refine prun_callx (l3Word_spec u (by omega)) rfl rfl rfl rfl rfl ?_
    repeat refine prun_step hT rfl ?_
    refine prun_callx (l3Dec_spec _) rfl rfl rfl rfl rfl ?_
    repeat refine prun_step hT rfl ?_
    refine prun_app1 hT rfl rfl rfl rfl rfl (by simp) rfl rfl rfl rfl rfl (by simp [intsP, ho]) rfl (by simp; omega) rfl rfl ?_
    repeat refine prun_step hT rfl ?_
    rw [wrap64 (n := (i : Int) + 1) (by omega) (by omega)]
    obtain ⟨m, hm⟩ : ∃ m, n - i = m + 1 := ⟨n - i - 1, by omega⟩
    have hm' : n - (i + 1) = m := by omega
    refine prun_lp ⟨(i + 1, out ++ [num4 (word1 u).1], (word1 u).2), ⟨hlt, by simp [ho], ?_, ?_, ?_⟩, by simp only; omega, ⟨rfl, rfl, rfl, rfl, rfl, rfl, rfl, rfl, trivial⟩, ⟨?_, .inl rfl, trivial⟩⟩
    · have := word1_len u; simp only; omega
    · rw [← h1, hm, hm']; simp [nums]
    · rw [← h2, hm, hm']; simp [nums]
    · simp [intsP, updK, Heap.get]
  · have hge : i = n := by simp at h; omega
    subst hge
    repeat refine prun_step hT rfl ?_
    refine ret_ends ⟨_, _, [], rfl, vws_cons (vw_sref rfl (by simp [intsP, ho])) (vws_cons (vw_flat rfl) vws_nil), trivial, rfl, ?_, rfl⟩
    rw [← h1, ← h2]
    simp [nums, packPV, Env.get]

theorem l44Split_spec (s : Str) (c : UInt8) (hs : s.length ≤ 1099511627776) : PSpec (bs W gs) n_spec_l44Split [.str s, .int .u8 c.toNat] [] (fun r H => r = .snap 1 (strsP (splitAt c s)) ∧ H = []) := by
  refine pspec_intro (fn := b_spec_l44Split) (bs_good W gs) rfl rfl rfl (Nat.le_of_ble_eq_true rfl) fun s0 _ => ?_
  have hT := bs_good W gs
  repeat refine prun_step hT rfl ?_
  refine prun_loop (σ := Nat × Nat × List Str) (fun x => x.1 ≤ s.length ∧ x.2.1 ≤ x.1 ∧ x.2.2.length ≤ x.1 ∧ x.2.2 ++ splitPre c ((s.take x.1).drop x.2.1) (s.drop x.1) = splitAt c s)
    (fun x => [(0, .str s), (1, .int .u8 c.toNat), (5, .sref 8 x.2.2.length 0 x.2.2.length), (6, .int .i64 (x.2.1 : Nat)), (7, .int .i64 (x.1 : Nat))]) (fun x => [(8, ⟨1, true, true, strsP x.2.2⟩)])
    (fun x => s.length - x.1) (0, 0, []) ⟨Nat.zero_le _, Nat.zero_le _, Nat.zero_le _, by simp [splitPre_nil]⟩ ⟨rfl, rfl, rfl, rfl, rfl, rfl, rfl, rfl, rfl, rfl, trivial⟩ ⟨rfl, .inl rfl, trivial⟩ (fun _ => rfl) (fun x hx => ?_)
  obtain ⟨i, f, out⟩ := x
  obtain ⟨hi, hf, ho, h1⟩ := hx
  simp only at hi hf ho h1
  repeat refine prun_step hT rfl ?_
  refine prun_cond rfl (fun h => ?_) (fun h => ?_)
  · have hlt : i < s.length := by simpa using h
    obtain ⟨b, hb⟩ : ∃ b, s[i]? = some b := ⟨s[i], by simp [hlt]⟩
    have hdrop : s.drop i = b :: s.drop (i + 1) := by
      rw [List.drop_eq_getElem_cons hlt]
      rw [List.getElem?_eq_getElem hlt] at hb
      simp at hb; rw [hb]
    repeat refine prun_step hT rfl ?_
    refine prun_q (od_index_str (b := b) hT rfl rfl rfl rfl (by omega) (by simpa using hb)) rfl rfl ?_
    repeat refine prun_step hT rfl ?_
    refine prun_cond rfl (fun h2 => ?_) (fun h2 => ?_)
    · have h2 : b = c := by
        have : b.toNat = c.toNat := by simp at h2; omega
        exact UInt8.toNat_inj.1 this
      subst h2
      repeat refine prun_step hT rfl ?_
      refine prun_q (od_slice_str (l := f) (h := i) hT rfl rfl rfl ⟨_, _, rfl, Int.natCast_nonneg _, rfl⟩ ⟨_, _, rfl, Int.natCast_nonneg _, rfl⟩ (by omega) hi) rfl rfl ?_
      repeat refine prun_step hT rfl ?_
      refine prun_app1 hT rfl rfl rfl rfl rfl (by simp) rfl rfl rfl rfl rfl (by simp [strsP]) rfl (by simp; omega) rfl rfl ?_
      repeat refine prun_step hT rfl ?_
      rw [wrap64 (n := (i : Int) + 1) (by omega) (by omega)]
      refine prun_lp ⟨(i + 1, i + 1, out ++ [(s.take i).drop f]), ⟨hlt, Nat.le_refl _, by simp; omega, ?_⟩, by simp only; omega, ⟨rfl, rfl, rfl, rfl, ?_, rfl, rfl, rfl, rfl, rfl, trivial⟩, ⟨?_, .inl rfl, trivial⟩⟩
      · rw [← h1, hdrop, splitPre_hit]; simp [splitPre_nil]
      · simp [Env.get]
      · simp [strsP, updK, Heap.get]
    · have h2 : b ≠ c := by rintro rfl; simp at h2
      repeat refine prun_step hT rfl ?_
      rw [wrap64 (n := (i : Int) + 1) (by omega) (by omega)]
      refine prun_lp ⟨(i + 1, f, out), ⟨hlt, by simp only; omega, by simp only; omega, ?_⟩, by simp only; omega, ⟨rfl, rfl, rfl, rfl, rfl, rfl, rfl, rfl, rfl, rfl, trivial⟩, ⟨rfl, .inl rfl, trivial⟩⟩
      rw [← h1, hdrop, splitPre_miss _ _ h2, List.take_add_one, hb]
      rw [List.drop_append_of_le_length (by simp; omega)]
      rfl
  · have hge : i = s.length := by simp at h; omega
    subst hge
    repeat refine prun_step hT rfl ?_
    refine prun_q (od_slice_str (l := f) (h := s.length) hT rfl rfl rfl ⟨_, _, rfl, Int.natCast_nonneg _, rfl⟩ rfl (by omega) (by omega)) rfl rfl ?_
    repeat refine prun_step hT rfl ?_
    refine prun_app1 hT rfl rfl rfl rfl rfl (by simp) rfl rfl rfl rfl rfl (by simp [strsP]) rfl (by simp; omega) rfl rfl ?_
    repeat refine prun_step hT rfl ?_
    refine ret_ends (ends_slice1 rfl rfl (by simp [strsP]) ⟨?_, rfl⟩)
    rw [← h1]
    simp [splitPre_end, strsP]

end Go.PMS
namespace Go.PMS
open Go Go.PM Go.Proofs Go.RowKit
variable {W : World} {gs : Nat}
set_option maxRecDepth 20000

theorem l6In_spec (n lo hi : Int) : PSpec (bs W gs) n_spec_l6In [.int .i64 n, .int .i64 lo, .int .i64 hi] [] (fun r H => r = .bool (decide (lo ≤ n ∧ n ≤ hi)) ∧ H = []) := by
  refine pspec_intro (fn := b_spec_l6In) (bs_good W gs) rfl rfl rfl (Nat.le_of_ble_eq_true rfl) fun s0 _ => ?_
  have hT := bs_good W gs
  repeat refine prun_step hT rfl ?_
  refine prun_split 10 rfl (fun h => ?_) (fun h => ?_)
  · repeat refine prun_step hT rfl ?_
    exact ret_ends (ends_flat rfl rfl ⟨congrArg PV.bool (by simp at h; simp [h]), rfl⟩)
  · repeat refine prun_step hT rfl ?_
    exact ret_ends (ends_flat rfl rfl ⟨congrArg PV.bool (by simp at h; simp; omega), rfl⟩)

theorem l44Names_spec : PSpec (bs W gs) n_spec_l44Names [] [] (fun r H => r = .snap 1 (strsP words) ∧ H = []) := by
  refine pspec_intro (fn := b_spec_l44Names) (bs_good W gs) rfl rfl rfl (Nat.le_of_ble_eq_true rfl) fun s0 _ => ?_
  have hT := bs_good W gs
  repeat refine prun_step hT rfl ?_
  exact ret_ends (ends_slice1 rfl rfl rfl ⟨rfl, rfl⟩)

set_option maxHeartbeats 4000000 in
theorem l44Line_spec (e : Ev) (he : e.ok) : PSpec (bs W gs) n_spec_l44Line [e.pv] [] (fun r H => r = .str (line44 e) ∧ H = []) := by
  obtain ⟨k, a, f, n, w, m, kp, t, u, tx⟩ := e
  obtain ⟨hk, ha, hf, hn, hw, hm, hkp, ht, hu, htx⟩ := he
  simp only at hk ha hf hn hw hm hkp ht hu htx
  have la := dec_le ha; have lf := dec_le hf; have ln := dec_le hn; have lw := dec_le hw; have lm := dec_le hm; have lkp := dec_le hkp; have lt := dec_le ht; have lu := dec_le hu
  obtain ⟨ha1, ha2⟩ := ha; obtain ⟨hf1, hf2⟩ := hf; obtain ⟨hn1, hn2⟩ := hn; obtain ⟨hw1, hw2⟩ := hw; obtain ⟨hm1, hm2⟩ := hm; obtain ⟨hkp1, hkp2⟩ := hkp; obtain ⟨ht1, ht2⟩ := ht; obtain ⟨hu1, hu2⟩ := hu
  simp only [Ev.pv]
  refine pspec_intro (fn := b_spec_l44Line) (bs_good W gs) rfl rfl rfl (Nat.le_of_ble_eq_true rfl) fun s0 _ => ?_
  have hT := bs_good W gs
  repeat refine prun_step hT rfl ?_
  refine prun_callx (l6In_spec _ _ _) rfl rfl rfl rfl rfl ?_
  by_cases hin : 1 ≤ k ∧ k ≤ 13
  · have hcases : k = 1 ∨ k = 2 ∨ k = 3 ∨ k = 4 ∨ k = 5 ∨ k = 6 ∨ k = 7 ∨ k = 8 ∨ k = 9 ∨ k = 10 ∨ k = 11 ∨ k = 12 ∨ k = 13 := by omega
    rw [decide_eq_true hin]
    repeat refine prun_step hT rfl ?_
    refine prun_draw hT (by kernel_rfl) ?_
    refine plex_callx l44Names_spec rfl rfl rfl rfl rfl ?_
    rcases hcases with rfl | rfl | rfl | rfl | rfl | rfl | rfl | rfl | rfl | rfl | rfl | rfl | rfl
    all_goals
      repeat refine plex_step hT rfl ?_
      refine plex_nil (by kernel_rfl) ?_
      repeat refine prun_step hT rfl ?_
    rotate_left 3
    · by_cases hkk : kp = 1
      · subst hkk
        repeat refine prun_step hT rfl ?_
        refine prun_callx l44Names_spec rfl rfl rfl rfl rfl ?_
        repeat (first | refine prun_step hT rfl ?_ | refine prun_callx (l6Dec_spec _ (by assumption) (by assumption)) rfl rfl rfl rfl rfl ?_ | refine prun_q (od_cat rfl rfl (by simp only [List.length_append, List.length_cons, List.length_nil]; omega)) rfl rfl ?_)
        exact ret_ends (ends_flat rfl rfl ⟨rfl, rfl⟩)
      · refine prun_cond_false (env := _) (by show _ = PV.bool false; exact congrArg PV.bool (by simpa using hkk)) ?_
        repeat (first | refine prun_step hT rfl ?_ | refine prun_callx (l6Dec_spec _ (by assumption) (by assumption)) rfl rfl rfl rfl rfl ?_ | refine prun_q (od_cat rfl rfl (by simp only [List.length_append, List.length_cons, List.length_nil]; omega)) rfl rfl ?_)
        exact ret_ends (ends_flat rfl rfl ⟨by simp [line44, hkk]; rfl, rfl⟩)
    all_goals
      first
        | (refine prun_draw hT (by kernel_rfl) ?_
           repeat (first | refine plex_step hT rfl ?_ | refine plex_callx (l6Dec_spec _ (by assumption) (by assumption)) rfl rfl rfl rfl rfl ?_ | refine plex_q (od_cat rfl rfl (by simp only [List.length_append, List.length_cons, List.length_nil]; omega)) rfl rfl ?_)
           refine plex_nil (by kernel_rfl) ?_
           repeat refine prun_step hT rfl ?_
           exact ret_ends (ends_flat rfl rfl ⟨rfl, rfl⟩))
        | (repeat (first | refine prun_step hT rfl ?_ | refine prun_callx (l6Dec_spec _ (by assumption) (by assumption)) rfl rfl rfl rfl rfl ?_ | refine prun_q (od_cat rfl rfl (by simp only [List.length_append, List.length_cons, List.length_nil]; omega)) rfl rfl ?_)
           exact ret_ends (ends_flat rfl rfl ⟨rfl, rfl⟩))
  · rw [decide_eq_false hin]
    repeat refine prun_step hT rfl ?_
    exact ret_ends (ends_flat rfl rfl ⟨by rw [line44, if_pos hin]; rfl, rfl⟩)

end Go.PMS
namespace Go.PMS
open Go Go.PM Go.Proofs Go.RowKit
variable {W : World} {gs : Nat}
set_option maxRecDepth 20000

theorem l44Nums_spec (ws : List Str) (hl : ws.length ≤ 1099511627776) : PSpec (bs W gs) n_spec_l44Nums [.snap 1 (strsP ws)] [] (fun r H => r = .tup [.snap 1 (intsP (nums44 ws).1), .bool (nums44 ws).2] ∧ H = []) := by
  refine pspec_intro (fn := b_spec_l44Nums) (bs_good W gs) rfl rfl rfl (Nat.le_of_ble_eq_true rfl) fun s0 _ => ?_
  have hT := bs_good W gs
  repeat refine prun_step hT rfl ?_
  refine prun_loop (σ := Nat) (fun i => i ≤ ws.length ∧ (ws.take i).all (fun w => decide (0 ≤ num4 w)) = true)
    (fun i => [(0, .snap 1 (strsP ws)), (4, .sref 7 i 0 i), (5, .int .i64 (i : Nat))]) (fun i => [(7, ⟨1, true, true, intsP ((ws.take i).map num4)⟩)])
    (fun i => ws.length - i) 0 ⟨Nat.zero_le _, rfl⟩ ⟨rfl, rfl, rfl, rfl, rfl, rfl, trivial⟩ ⟨rfl, .inl rfl, trivial⟩ (fun _ => rfl) (fun i hi => ?_)
  obtain ⟨hi, ha⟩ := hi
  repeat refine prun_step hT rfl ?_
  refine prun_cond rfl (fun h => ?_) (fun h => ?_)
  · have hlt : i < ws.length := by simpa [strsP] using h
    obtain ⟨w, hw⟩ : ∃ w, ws[i]? = some w := ⟨ws[i], by simp [hlt]⟩
    repeat refine prun_step hT rfl ?_
    refine prun_q (od_indexAddr (p := .str w) hT rfl rfl rfl rfl rfl rfl (Int.natCast_nonneg _) (by simp [strsP, hw])) rfl rfl ?_
    repeat refine prun_step hT rfl ?_
    refine prun_callx (l3Dec_spec _) rfl rfl rfl rfl rfl ?_
    repeat refine prun_step hT rfl ?_
    refine prun_cond rfl (fun h2 => ?_) (fun h2 => ?_)
    · repeat refine prun_step hT rfl ?_
      refine ret_ends ⟨_, [.snap 1 [], .bool false], [], rfl, vws_cons (vw_sref rfl rfl) (vws_cons (vw_flat rfl) vws_nil), trivial, rfl, ?_, rfl⟩
      rw [nums44, if_neg]
      · rfl
      · intro h3
        have := List.all_eq_true.1 h3 w (List.mem_of_getElem? hw)
        simp at this h2; omega
    · have h2 : 0 ≤ num4 w := by simpa using h2
      repeat refine prun_step hT rfl ?_
      refine prun_app1 hT rfl rfl rfl rfl rfl (by simp) rfl rfl rfl rfl rfl (by simp [intsP]; omega) rfl (by simp; omega) rfl rfl ?_
      repeat refine prun_step hT rfl ?_
      rw [wrap64 (n := (i : Int) + 1) (by omega) (by omega)]
      refine prun_lp ⟨i + 1, ⟨hlt, by rw [List.take_add_one, hw, List.all_append, ha]; simpa using h2⟩, by omega, ⟨rfl, rfl, rfl, rfl, rfl, rfl, trivial⟩, ⟨?_, .inl rfl, trivial⟩⟩
      rw [List.take_add_one, hw]
      simp [intsP, updK, Heap.get]
  · have hge : i = ws.length := by simp [strsP] at h; omega
    subst hge
    rw [List.take_length] at ha ⊢
    repeat refine prun_step hT rfl ?_
    refine ret_ends ⟨_, _, [], rfl, vws_cons (vw_sref rfl (by simp [intsP])) (vws_cons (vw_flat rfl) vws_nil), trivial, rfl, ?_, rfl⟩
    rw [nums44, if_pos ha]
    rfl

set_option maxHeartbeats 4000000 in
theorem l44Own_spec (s : Str) (hs : s.length ≤ 140737488355328) : PSpec (bs W gs) n_spec_l44Own [.str s] [] (fun r H => r = .tup [(own44 s).1.pv, .bool (own44 s).2] ∧ H = []) := by
  refine pspec_intro (fn := b_spec_l44Own) (bs_good W gs) rfl rfl rfl (Nat.le_of_ble_eq_true rfl) fun s0 _ => ?_
  have hT := bs_good W gs
  have hlen := nums_len 3 s
  obtain ⟨x, y, z, rest, hn⟩ : ∃ x y z rest, nums 3 s = ([x, y, z], rest) := ⟨_, _, _, _, rfl⟩
  have hspec := l3Nums_spec (W := W) (gs := gs) s 3 (by omega) hs
  rw [hn] at hlen hspec
  simp only at hlen
  have ho : own44 s = if x < 0 ∨ y < 0 ∨ z < 0 then (Ev.none, false) else if rest.all printable = false then (Ev.none, false) else (⟨1, x, 0, 0, 0, 0, 0, y, z, rest⟩, decide (rest.length ≤ 24) && decide (0 < rest.length)) := by
    rw [own44, hn]; rfl
  rw [ho]
  repeat refine prun_step hT rfl ?_
  refine prun_callx hspec rfl rfl rfl rfl rfl ?_
  repeat refine prun_step hT rfl ?_
  refine prun_split 16 rfl (fun hx => ?_) (fun hx => ?_)
  · have hx : x < 0 := by simpa using hx
    rw [if_pos (.inl hx)]
    repeat refine prun_step hT rfl ?_
    exact ret_ends (ends_flat rfl rfl ⟨rfl, rfl⟩)
  have hx : 0 ≤ x := by simpa using hx
  repeat refine prun_step hT rfl ?_
  refine prun_split 22 rfl (fun hy => ?_) (fun hy => ?_)
  · have hy : y < 0 := by simpa using hy
    rw [if_pos (.inr (.inl hy))]
    repeat refine prun_step hT rfl ?_
    exact ret_ends (ends_flat rfl rfl ⟨rfl, rfl⟩)
  have hy : 0 ≤ y := by simpa using hy
  repeat refine prun_step hT rfl ?_
  refine prun_cond rfl (fun hz => ?_) (fun hz => ?_)
  · have hz : z < 0 := by simpa using hz
    rw [if_pos (.inr (.inr hz))]
    repeat refine prun_step hT rfl ?_
    exact ret_ends (ends_flat rfl rfl ⟨rfl, rfl⟩)
  have hz : 0 ≤ z := by simpa using hz
  rw [if_neg (by omega)]
  repeat refine prun_step hT rfl ?_
  refine prun_loop (σ := Nat) (fun i => i ≤ rest.length ∧ ∀ c ∈ rest.take i, printable c = true)
    (fun i => [(2, .ptr 2 1 0 0), (4, .snap 1 (intsP [x, y, z])), (5, .str rest), (6, .int .i64 (i : Nat))]) (fun _ => [(2, ⟨10, true, false, [zEv]⟩)])
    (fun i => rest.length - i) 0 ⟨Nat.zero_le _, by simp⟩ ⟨rfl, rfl, rfl, rfl, rfl, rfl, rfl, rfl, trivial⟩ ⟨rfl, .inr rfl, trivial⟩ (fun _ => rfl) (fun i hi => ?_)
  obtain ⟨hi, ha⟩ := hi
  repeat refine prun_step hT rfl ?_
  refine prun_cond rfl (fun h => ?_) (fun h => ?_)
  · have hlt : i < rest.length := by simpa using h
    obtain ⟨c, hc⟩ : ∃ c, rest[i]? = some c := ⟨rest[i], by simp [hlt]⟩
    have hcm : c ∈ rest := List.mem_of_getElem? hc
    repeat refine prun_step hT rfl ?_
    refine prun_q (od_index_str (b := c) hT rfl rfl rfl rfl (Int.natCast_nonneg _) (by simpa using hc)) rfl rfl ?_
    repeat refine prun_step hT rfl ?_
    refine prun_split 39 rfl (fun h2 => ?_) (fun h2 => ?_)
    · have h2 : c.toNat < 32 := by simp at h2; omega
      rw [if_pos (by rw [List.all_eq_false]; exact ⟨c, hcm, by simp [printable]; omega⟩)]
      repeat refine prun_step hT rfl ?_
      exact ret_ends (ends_flat rfl rfl ⟨rfl, rfl⟩)
    have h2 : 32 ≤ c.toNat := by simp at h2; omega
    repeat refine prun_step hT rfl ?_
    refine prun_q (od_index_str (b := c) hT rfl rfl rfl rfl (Int.natCast_nonneg _) (by simpa using hc)) rfl rfl ?_
    repeat refine prun_step hT rfl ?_
    refine prun_cond rfl (fun h3 => ?_) (fun h3 => ?_)
    · have h3 : 126 < c.toNat := by simp at h3; omega
      rw [if_pos (by rw [List.all_eq_false]; exact ⟨c, hcm, by simp [printable]; omega⟩)]
      repeat refine prun_step hT rfl ?_
      exact ret_ends (ends_flat rfl rfl ⟨rfl, rfl⟩)
    have h3 : c.toNat ≤ 126 := by simp at h3; omega
    repeat refine prun_step hT rfl ?_
    rw [wrap64 (n := (i : Int) + 1) (by omega) (by omega)]
    exact prun_lp ⟨i + 1, ⟨hlt, all_take_succ ha hc (by simp [printable]; omega)⟩, by omega, ⟨rfl, rfl, rfl, rfl, rfl, rfl, rfl, rfl, trivial⟩, ⟨rfl, .inr rfl, trivial⟩⟩
  · have hge : i = rest.length := by simp at h; omega
    subst hge
    rw [List.take_length] at ha
    rw [if_neg (by rw [List.all_eq_true.2 ha]; simp)]
    repeat refine prun_step hT rfl ?_
    refine prun_draw hT (by kernel_rfl) ?_
    repeat refine plex_step hT rfl ?_
    refine plex_split 60 rfl (fun h4 => ?_) (fun h4 => ?_)
    · have h4 : rest.length ≤ 24 := by simp at h4; omega
      repeat refine plex_step hT rfl ?_
      refine plex_nil (by kernel_rfl) ?_
      repeat refine prun_step hT rfl ?_
      refine ret_ends (ends_flat rfl rfl ⟨?_, rfl⟩)
      simp [packPV, Ev.pv, h4, Env.get, PV.cells]
    · have h4 : 24 < rest.length := by simp at h4; omega
      repeat refine plex_step hT rfl ?_
      refine plex_nil (by kernel_rfl) ?_
      repeat refine prun_step hT rfl ?_
      refine ret_ends (ends_flat rfl rfl ⟨?_, rfl⟩)
      have : ¬ rest.length ≤ 24 := by omega
      simp [packPV, Ev.pv, this, Env.get, PV.cells]

end Go.PMS
namespace Go.PMS
open Go Go.PM Go.Proofs Go.RowKit
variable {W : World} {gs : Nat}
set_option maxRecDepth 20000

theorem wordsP_get {i : Nat} (h : i < 15) : (strsP words)[i]? = some (.str (wordAt i)) := by
  have : i < words.length := h
  rw [strsP, List.getElem?_map, wordAt, List.getElem?_eq_getElem this]
  rfl

set_option maxHeartbeats 8000000 in
theorem l44Read_spec (s : Str) (hs : s.length ≤ 1099511627775) : PSpec (bs W gs) n_spec_l44Read [.str s] [] (fun r H => r = .tup [(read44 s).1.pv, .bool (read44 s).2] ∧ H = []) := by
  refine pspec_intro (fn := b_spec_l44Read) (bs_good W gs) rfl rfl rfl (Nat.le_of_ble_eq_true rfl) fun s0 _ => ?_
  have hT := bs_good W gs
  repeat refine prun_step hT rfl ?_
  refine prun_join2 (¬ (4 ≤ s.length ∧ s.take 4 = [111, 119, 110, 32])) [(0, .str s), (2, .ptr 2 1 0 0)] [(2, ⟨10, true, false, [zEv]⟩)] rfl ?_ (fun hno => ?_)
  · refine prun_split 12 rfl (fun h => ?_) (fun h => ?_)
    · have h : 4 ≤ s.length := by simp at h; omega
      repeat refine prun_step hT rfl ?_
      refine prun_q (od_slice_str (l := 0) (h := 4) hT rfl rfl rfl rfl ⟨_, _, rfl, by omega, rfl⟩ (by omega) h) rfl rfl ?_
      repeat refine prun_step hT rfl ?_
      refine prun_cond rfl (fun h2 => ?_) (fun h2 => ?_)
      · have h2 : s.take 4 = [111, 119, 110, 32] := by simpa using h2
        rw [read44, if_pos ⟨h, h2⟩]
        repeat refine prun_step hT rfl ?_
        refine prun_q (od_slice_str (l := 4) (h := s.length) hT rfl rfl rfl ⟨_, _, rfl, by omega, rfl⟩ rfl h (by omega)) rfl rfl ?_
        rw [List.take_length]
        refine prun_callx (l44Own_spec _ (by simp; omega)) rfl rfl rfl rfl rfl ?_
        repeat refine prun_step hT rfl ?_
        exact ret_ends (ends_flat rfl rfl ⟨rfl, rfl⟩)
      · have hno : ¬ (4 ≤ s.length ∧ s.take 4 = [111, 119, 110, 32]) := fun hh => by simp [hh.2] at h2
        repeat refine prun_step hT rfl ?_
        exact prun_lp ⟨hno, ⟨rfl, rfl, rfl, rfl, trivial⟩, ⟨rfl, .inr rfl, trivial⟩⟩
    · have hno : ¬ (4 ≤ s.length ∧ s.take 4 = [111, 119, 110, 32]) := fun hh => by simp at h; omega
      repeat refine prun_step hT rfl ?_
      exact prun_lp ⟨hno, ⟨rfl, rfl, rfl, rfl, trivial⟩, ⟨rfl, .inr rfl, trivial⟩⟩
  have hsl := splitAt_len 32 s
  obtain ⟨w0, ws, hw⟩ : ∃ w0 ws, splitAt 32 s = w0 :: ws := by
    cases hc : splitAt 32 s with
    | nil => exact absurd hc (splitAt_ne _ _)
    | cons a l => exact ⟨a, l, rfl⟩
  have hsp := l44Split_spec (W := W) (gs := gs) s 32 (by omega)
  rw [hw] at hsp hsl
  simp only [List.length_cons] at hsl
  obtain ⟨n, ok, hn⟩ : ∃ n ok, nums44 ws = (n, ok) := ⟨_, _, rfl⟩
  have hns := l44Nums_spec (W := W) (gs := gs) ws (by omega)
  rw [hn] at hns
  have hr : read44 s = if ok = false then (Ev.none, false) else look44 w0 n 13 2 := by
    rw [read44, if_neg hno, hw]
    simp [hn]
  rw [hr]
  repeat refine prun_step hT rfl ?_
  refine prun_callx hsp rfl rfl rfl rfl rfl ?_
  repeat refine prun_step hT rfl ?_
  refine prun_q (od_slice_snap (l := 1) (m := (strsP (w0 :: ws)).length) hT rfl rfl rfl rfl rfl ⟨_, _, rfl, by omega, rfl⟩ rfl (by simp [strsP]) (by omega)) rfl rfl ?_
  rw [List.take_length, show List.drop 1 (strsP (w0 :: ws)) = strsP ws from rfl]
  refine prun_callx hns rfl rfl rfl rfl rfl ?_
  repeat refine prun_step hT rfl ?_
  refine prun_callx l44Names_spec rfl rfl rfl rfl rfl ?_
  repeat refine prun_step hT rfl ?_
  cases ok with
  | false =>
    repeat refine prun_step hT rfl ?_
    exact ret_ends (ends_flat rfl rfl ⟨rfl, rfl⟩)
  | true =>
  repeat refine prun_step hT rfl ?_
  rw [if_neg (by simp)]
  refine prun_loop (σ := Nat) (fun k => 2 ≤ k ∧ k ≤ 15 ∧ look44 w0 n 13 2 = look44 w0 n (15 - k) k)
    (fun k => [(2, .ptr 2 1 0 0), (4, .snap 1 (strsP (w0 :: ws))), (5, .snap 1 (intsP n)), (7, .snap 1 (strsP words)), (8, .int .i64 (k : Nat))]) (fun _ => [(2, ⟨10, true, false, [zEv]⟩)])
    (fun k => 15 - k) 2 ⟨by omega, by omega, rfl⟩ ⟨rfl, rfl, rfl, rfl, rfl, rfl, rfl, rfl, rfl, rfl, trivial⟩ ⟨rfl, .inr rfl, trivial⟩ (fun _ => rfl) (fun k hk => ?_)
  obtain ⟨hk1, hk2, hlook⟩ := hk
  rw [hlook]
  repeat refine prun_step hT rfl ?_
  refine prun_cond rfl (fun h => ?_) (fun h => ?_)
  · have hlt : k < 15 := by
      have : ((k : Nat) : Int) < (15 : Nat) := by simpa [strsP, words] using h
      omega
    have hlk : look44 w0 n (15 - k) k = if w0 = wordAt k then make44 k n else look44 w0 n (15 - (k + 1)) (k + 1) := by
      obtain ⟨f, hf⟩ : ∃ f, 15 - k = f + 1 := ⟨15 - k - 1, by omega⟩
      rw [hf, show 15 - (k + 1) = f by omega, look44]
    rw [hlk]
    repeat refine prun_step hT rfl ?_
    refine prun_draw hT (by kernel_rfl) ?_
    repeat refine plex_step hT rfl ?_
    refine plex_q (od_indexAddr (p := .str (wordAt k)) hT rfl rfl rfl rfl rfl rfl (Int.natCast_nonneg _) (by simpa using wordsP_get hlt)) rfl rfl ?_
    repeat refine plex_step hT rfl ?_
    refine plex_nil (by kernel_rfl) ?_
    repeat refine prun_step hT rfl ?_
    refine prun_cond rfl (fun h3 => ?_) (fun h3 => ?_)
    · have h3 : w0 ≠ wordAt k := by simpa using h3
      rw [if_neg h3]
      repeat refine prun_step hT rfl ?_
      rw [wrap64 (n := (k : Int) + 1) (by omega) (by omega)]
      exact prun_lp ⟨k + 1, ⟨by omega, by omega, rfl⟩, by omega, ⟨rfl, rfl, rfl, rfl, rfl, rfl, rfl, rfl, rfl, rfl, trivial⟩, ⟨rfl, .inr rfl, trivial⟩⟩
    · have h3 : w0 = wordAt k := by simpa using h3
      rw [if_pos h3]
      clear hlk hlook h3 h hsl
      have hcases : k = 2 ∨ k = 3 ∨ k = 4 ∨ k = 5 ∨ k = 6 ∨ k = 7 ∨ k = 8 ∨ k = 9 ∨ k = 10 ∨ k = 11 ∨ k = 12 ∨ k = 13 ∨ k = 14 := by omega
      rcases hcases with rfl | rfl | rfl | rfl | rfl | rfl | rfl | rfl | rfl | rfl | rfl | rfl | rfl
      · -- word 2
        repeat refine prun_step hT rfl ?_
        refine prun_cond rfl (fun h4 => ?_) (fun h4 => ?_)
        · have h4 : n.length ≠ 1 := by simp [intsP] at h4; omega
          repeat refine prun_step hT rfl ?_
          refine ret_ends (ends_flat rfl rfl ⟨?_, rfl⟩)
          rw [make44, if_neg (by omega), if_neg (by omega), if_neg (by omega), if_neg (by omega), if_pos (by omega)]
          rfl
        · have h4 : n.length = 1 := by simp [intsP] at h4; omega
          obtain ⟨a, rfl⟩ := len1 h4
          repeat refine prun_step hT rfl ?_
          exact ret_ends (ends_flat rfl rfl ⟨rfl, rfl⟩)
      · -- word 3
        repeat refine prun_step hT rfl ?_
        refine prun_cond rfl (fun h4 => ?_) (fun h4 => ?_)
        · have h4 : n.length = 4 := by simp [intsP] at h4; omega
          obtain ⟨a, b, c, d, rfl⟩ := len4 h4
          repeat refine prun_step hT rfl ?_
          refine prun_draw hT (by kernel_rfl) ?_
          repeat refine plex_step hT rfl ?_
          refine plex_nil (by kernel_rfl) ?_
          repeat refine prun_step hT rfl ?_
          exact ret_ends (ends_flat rfl rfl ⟨rfl, rfl⟩)
        · have h4 : n.length ≠ 4 := by simp [intsP] at h4; omega
          repeat refine prun_step hT rfl ?_
          refine ret_ends (ends_flat rfl rfl ⟨?_, rfl⟩)
          rw [make44, if_neg (by omega), if_neg (by omega), if_neg (by omega), if_neg (by omega), if_pos (by omega)]
          rfl
      · -- word 4
        repeat refine prun_step hT rfl ?_
        refine prun_cond rfl (fun h4 => ?_) (fun h4 => ?_)
        · have h4 : n.length ≠ 1 := by simp [intsP] at h4; omega
          repeat refine prun_step hT rfl ?_
          refine ret_ends (ends_flat rfl rfl ⟨?_, rfl⟩)
          rw [make44, if_neg (by omega), if_neg (by omega), if_neg (by omega), if_neg (by omega), if_pos (by omega)]
          rfl
        · have h4 : n.length = 1 := by simp [intsP] at h4; omega
          obtain ⟨a, rfl⟩ := len1 h4
          repeat refine prun_step hT rfl ?_
          exact ret_ends (ends_flat rfl rfl ⟨rfl, rfl⟩)
      · -- word 5
        repeat refine prun_step hT rfl ?_
        refine prun_cond rfl (fun h4 => ?_) (fun h4 => ?_)
        · have h4 : n.length ≠ 1 := by simp [intsP] at h4; omega
          repeat refine prun_step hT rfl ?_
          refine ret_ends (ends_flat rfl rfl ⟨?_, rfl⟩)
          rw [make44, if_neg (by omega), if_neg (by omega), if_neg (by omega), if_neg (by omega), if_pos (by omega)]
          rfl
        · have h4 : n.length = 1 := by simp [intsP] at h4; omega
          obtain ⟨a, rfl⟩ := len1 h4
          repeat refine prun_step hT rfl ?_
          exact ret_ends (ends_flat rfl rfl ⟨rfl, rfl⟩)
      · -- word 6
        repeat refine prun_step hT rfl ?_
        refine prun_cond rfl (fun h4 => ?_) (fun h4 => ?_)
        · have h4 : n.length = 3 := by simp [intsP] at h4; omega
          obtain ⟨a, b, c, rfl⟩ := len3 h4
          repeat refine prun_step hT rfl ?_
          refine prun_draw hT (by kernel_rfl) ?_
          repeat refine plex_step hT rfl ?_
          refine plex_nil (by kernel_rfl) ?_
          repeat refine prun_step hT rfl ?_
          exact ret_ends (ends_flat rfl rfl ⟨rfl, rfl⟩)
        · have h4 : n.length ≠ 3 := by simp [intsP] at h4; omega
          repeat refine prun_step hT rfl ?_
          refine ret_ends (ends_flat rfl rfl ⟨?_, rfl⟩)
          rw [make44, if_neg (by omega), if_neg (by omega), if_neg (by omega), if_neg (by omega), if_pos (by omega)]
          rfl
      · -- word 7
        repeat refine prun_step hT rfl ?_
        refine prun_cond rfl (fun h4 => ?_) (fun h4 => ?_)
        · have h4 : n.length = 2 := by simp [intsP] at h4; omega
          obtain ⟨a, b, rfl⟩ := len2 h4
          repeat refine prun_step hT rfl ?_
          refine prun_draw hT (by kernel_rfl) ?_
          repeat refine plex_step hT rfl ?_
          refine plex_nil (by kernel_rfl) ?_
          repeat refine prun_step hT rfl ?_
          exact ret_ends (ends_flat rfl rfl ⟨rfl, rfl⟩)
        · have h4 : n.length ≠ 2 := by simp [intsP] at h4; omega
          repeat refine prun_step hT rfl ?_
          refine ret_ends (ends_flat rfl rfl ⟨?_, rfl⟩)
          rw [make44, if_neg (by omega), if_neg (by omega), if_neg (by omega), if_neg (by omega), if_pos (by omega)]
          rfl
      · -- word 8
        repeat refine prun_step hT rfl ?_
        refine prun_cond rfl (fun h4 => ?_) (fun h4 => ?_)
        · have h4 : n.length ≠ 1 := by simp [intsP] at h4; omega
          repeat refine prun_step hT rfl ?_
          refine ret_ends (ends_flat rfl rfl ⟨?_, rfl⟩)
          rw [make44, if_neg (by omega), if_neg (by omega), if_neg (by omega), if_neg (by omega), if_pos (by omega)]
          rfl
        · have h4 : n.length = 1 := by simp [intsP] at h4; omega
          obtain ⟨a, rfl⟩ := len1 h4
          repeat refine prun_step hT rfl ?_
          exact ret_ends (ends_flat rfl rfl ⟨rfl, rfl⟩)
      · -- word 9
        repeat refine prun_step hT rfl ?_
        refine prun_cond rfl (fun h4 => ?_) (fun h4 => ?_)
        · have h4 : n.length ≠ 1 := by simp [intsP] at h4; omega
          repeat refine prun_step hT rfl ?_
          refine ret_ends (ends_flat rfl rfl ⟨?_, rfl⟩)
          rw [make44, if_neg (by omega), if_neg (by omega), if_neg (by omega), if_neg (by omega), if_pos (by omega)]
          rfl
        · have h4 : n.length = 1 := by simp [intsP] at h4; omega
          obtain ⟨a, rfl⟩ := len1 h4
          repeat refine prun_step hT rfl ?_
          exact ret_ends (ends_flat rfl rfl ⟨rfl, rfl⟩)
      · -- word 10
        repeat refine prun_step hT rfl ?_
        refine prun_cond rfl (fun h4 => ?_) (fun h4 => ?_)
        · have h4 : n.length ≠ 1 := by simp [intsP] at h4; omega
          repeat refine prun_step hT rfl ?_
          refine ret_ends (ends_flat rfl rfl ⟨?_, rfl⟩)
          rw [make44, if_neg (by omega), if_neg (by omega), if_neg (by omega), if_neg (by omega), if_pos (by omega)]
          rfl
        · have h4 : n.length = 1 := by simp [intsP] at h4; omega
          obtain ⟨a, rfl⟩ := len1 h4
          repeat refine prun_step hT rfl ?_
          exact ret_ends (ends_flat rfl rfl ⟨rfl, rfl⟩)
      · -- word 11
        repeat refine prun_step hT rfl ?_
        refine prun_cond rfl (fun h4 => ?_) (fun h4 => ?_)
        · have h4 : n.length = 3 := by simp [intsP] at h4; omega
          obtain ⟨a, b, c, rfl⟩ := len3 h4
          repeat refine prun_step hT rfl ?_
          refine prun_draw hT (by kernel_rfl) ?_
          repeat refine plex_step hT rfl ?_
          refine plex_nil (by kernel_rfl) ?_
          repeat refine prun_step hT rfl ?_
          exact ret_ends (ends_flat rfl rfl ⟨rfl, rfl⟩)
        · have h4 : n.length ≠ 3 := by simp [intsP] at h4; omega
          repeat refine prun_step hT rfl ?_
          refine ret_ends (ends_flat rfl rfl ⟨?_, rfl⟩)
          rw [make44, if_neg (by omega), if_neg (by omega), if_neg (by omega), if_neg (by omega), if_pos (by omega)]
          rfl
      · -- word 12
        repeat refine prun_step hT rfl ?_
        refine prun_cond rfl (fun h4 => ?_) (fun h4 => ?_)
        · have h4 : n.length ≠ 1 := by simp [intsP] at h4; omega
          repeat refine prun_step hT rfl ?_
          refine ret_ends (ends_flat rfl rfl ⟨?_, rfl⟩)
          rw [make44, if_neg (by omega), if_neg (by omega), if_neg (by omega), if_neg (by omega), if_pos (by omega)]
          rfl
        · have h4 : n.length = 1 := by simp [intsP] at h4; omega
          obtain ⟨a, rfl⟩ := len1 h4
          repeat refine prun_step hT rfl ?_
          exact ret_ends (ends_flat rfl rfl ⟨rfl, rfl⟩)
      · -- word 13
        repeat refine prun_step hT rfl ?_
        refine prun_cond rfl (fun h4 => ?_) (fun h4 => ?_)
        · have h4 : n.length ≠ 1 := by simp [intsP] at h4; omega
          repeat refine prun_step hT rfl ?_
          refine ret_ends (ends_flat rfl rfl ⟨?_, rfl⟩)
          rw [make44, if_neg (by omega), if_neg (by omega), if_neg (by omega), if_neg (by omega), if_pos (by omega)]
          rfl
        · have h4 : n.length = 1 := by simp [intsP] at h4; omega
          obtain ⟨a, rfl⟩ := len1 h4
          repeat refine prun_step hT rfl ?_
          exact ret_ends (ends_flat rfl rfl ⟨rfl, rfl⟩)
      · -- word 14
        repeat refine prun_step hT rfl ?_
        refine prun_cond rfl (fun h4 => ?_) (fun h4 => ?_)
        · have h4 : n.length ≠ 1 := by simp [intsP] at h4; omega
          repeat refine prun_step hT rfl ?_
          refine ret_ends (ends_flat rfl rfl ⟨?_, rfl⟩)
          rw [make44, if_neg (by omega), if_neg (by omega), if_neg (by omega), if_neg (by omega), if_pos (by omega)]
          rfl
        · have h4 : n.length = 1 := by simp [intsP] at h4; omega
          obtain ⟨a, rfl⟩ := len1 h4
          repeat refine prun_step hT rfl ?_
          exact ret_ends (ends_flat rfl rfl ⟨rfl, rfl⟩)
  · have hge : k = 15 := by
      have : ¬ ((k : Nat) : Int) < (15 : Nat) := by simpa [strsP, words] using h
      omega
    subst hge
    repeat refine prun_step hT rfl ?_
    exact ret_ends (ends_flat rfl rfl ⟨rfl, rfl⟩)

end Go.PMS
namespace Go.PMS
open Go Go.PM Go.Proofs Go.RowKit
variable {W : World} {gs : Nat}
set_option maxRecDepth 20000

def evFields : List Field := [⟨ "Kind", t_int, 0, false, "", "", 0⟩, ⟨ "At", t_int, 1, false, "", "", 8⟩, ⟨ "From", t_int, 2, false, "", "", 16⟩, ⟨ "Num", t_int, 3, false, "", "", 24⟩, ⟨ "Word", t_int, 4, false, "", "", 32⟩, ⟨ "Mix", t_int, 5, false, "", "", 40⟩, ⟨ "Keep", t_int, 6, false, "", "", 48⟩, ⟨ "To", t_int, 7, false, "", "", 56⟩, ⟨ "Until", t_int, 8, false, "", "", 64⟩, ⟨ "Text", t_string, 9, false, "", "", 72⟩]
theorem evUnder : PP.underlying t_impl_RiverEvent = some (.struct evFields.toArray) := by kernel_rfl
theorem evHeld : PP.stoodInHeld t_impl_RiverEvent = false := by kernel_rfl
theorem evGuard : PP.eqGuardType PP.depth t_impl_RiverEvent = false := by kernel_rfl

theorem eqRiverEventS_spec (l m : List Ev) (hl : l.length ≤ 1099511627776) : PSpec (bs W gs) n_laws_eqRiverEventS [.snap 10 (l.map Ev.pv), .snap 10 (m.map Ev.pv)] [] (fun r H => r = .bool (decide (l = m)) ∧ H = []) := by
  refine pspec_intro (fn := b_laws_eqRiverEventS) (bs_good W gs) rfl rfl rfl (Nat.le_of_ble_eq_true rfl) fun s0 _ => ?_
  have hT := bs_good W gs
  repeat refine prun_step hT rfl ?_
  refine prun_cond rfl (fun h => ?_) (fun h => ?_)
  · have h : l.length ≠ m.length := by simp at h; omega
    repeat refine prun_step hT rfl ?_
    exact ret_ends (ends_flat rfl rfl ⟨congrArg PV.bool (by simp; rintro rfl; exact h rfl), rfl⟩)
  have hlm : l.length = m.length := by simp at h; omega
  repeat refine prun_step hT rfl ?_
  refine prun_loop (σ := Nat) (fun i => i ≤ l.length ∧ l.take i = m.take i)
    (fun i => [(0, .snap 10 (l.map Ev.pv)), (1, .snap 10 (m.map Ev.pv)), (5, .int .i64 (i : Nat))]) (fun _ => [])
    (fun i => l.length - i) 0 ⟨Nat.zero_le _, rfl⟩ ⟨rfl, rfl, rfl, rfl, rfl, rfl, trivial⟩ trivial (fun _ => rfl) (fun i hi => ?_)
  obtain ⟨hi, he⟩ := hi
  repeat refine prun_step hT rfl ?_
  refine prun_cond rfl (fun h => ?_) (fun h => ?_)
  · have hlt : i < l.length := by simpa using h
    obtain ⟨a, ha⟩ : ∃ a, l[i]? = some a := ⟨l[i], by simp [hlt]⟩
    obtain ⟨b, hb⟩ : ∃ b, m[i]? = some b := ⟨m[i]'(by omega), by simp [hlm ▸ hlt]⟩
    repeat refine prun_step hT rfl ?_
    refine prun_draw hT (by kernel_rfl) ?_
    repeat refine plex_step hT rfl ?_
    refine plex_q (od_indexAddr (p := a.pv) hT rfl rfl rfl rfl rfl rfl (Int.natCast_nonneg _) (by simp [ha])) rfl rfl ?_
    repeat refine plex_step hT rfl ?_
    refine plex_q (od_indexAddr (p := b.pv) hT rfl rfl rfl rfl rfl rfl (Int.natCast_nonneg _) (by simp [hb])) rfl rfl ?_
    repeat refine plex_step hT rfl ?_
    refine plex_callx (eqRiverEvent_spec a b) rfl rfl rfl rfl rfl ?_
    repeat refine plex_step hT rfl ?_
    refine plex_nil (by kernel_rfl) ?_
    repeat refine prun_step hT rfl ?_
    refine prun_cond rfl (fun h2 => ?_) (fun h2 => ?_)
    · have h2 : a ≠ b := by simpa using h2
      repeat refine prun_step hT rfl ?_
      refine ret_ends (ends_flat rfl rfl ⟨congrArg PV.bool ?_, rfl⟩)
      simp only [Bool.false_eq, decide_eq_false_iff_not]
      rintro rfl
      rw [ha] at hb
      exact h2 (by simpa using hb)
    · have h2 : a = b := by simpa using h2
      repeat refine prun_step hT rfl ?_
      rw [wrap64 (n := (i : Int) + 1) (by omega) (by omega)]
      exact prun_lp ⟨i + 1, ⟨hlt, by rw [List.take_add_one, List.take_add_one, he, ha, hb, h2]⟩, by omega, ⟨rfl, rfl, rfl, rfl, rfl, rfl, trivial⟩, trivial⟩
  · have hge : i = l.length := by simp at h; omega
    subst hge
    repeat refine prun_step hT rfl ?_
    refine ret_ends (ends_flat rfl rfl ⟨congrArg PV.bool ?_, rfl⟩)
    rw [List.take_length, hlm, List.take_length] at he
    simp [he]

theorem szRiverEventS_spec (l : List Ev) (left : Int) (h0 : 0 ≤ left) (h1 : left ≤ 1048576) (hl : l.length ≤ 140737488355328) (ht : ∀ e ∈ l, e.text.length ≤ 140737488355328) : PSpec (bs W gs) n_laws_szRiverEventS [.snap 10 (l.map Ev.pv), .int .i64 left] [] (fun r H => r = .int .i64 (szEvS l left) ∧ H = []) := by
  refine pspec_intro (fn := b_laws_szRiverEventS) (bs_good W gs) rfl rfl rfl (Nat.le_of_ble_eq_true rfl) fun s0 _ => ?_
  have hT := bs_good W gs
  have hw := wrap64 (n := left - (l.length : Nat)) (by omega) (by omega)
  repeat refine prun_step hT rfl ?_
  rw [show ((l.map Ev.pv).length : Int) = l.length by simp, hw]
  refine prun_cond rfl (fun h => ?_) (fun h => ?_)
  · have h : left - l.length < 0 := by simpa using h
    repeat refine prun_step hT rfl ?_
    exact ret_ends (ends_flat rfl rfl ⟨by rw [szEvS, if_pos h]; rfl, rfl⟩)
  have h : 0 ≤ left - l.length := by simp at h; omega
  rw [szEvS, if_neg (by omega)]
  repeat refine prun_step hT rfl ?_
  refine prun_loop (σ := Nat × Int) (fun x => x.1 ≤ l.length ∧ 0 ≤ x.2 ∧ x.2 ≤ 1048576 ∧ l.foldl (fun x e => if x < 0 then -1 else szEv e x) (left - l.length) = (l.drop x.1).foldl (fun x e => if x < 0 then -1 else szEv e x) x.2)
    (fun x => [(0, .snap 10 (l.map Ev.pv)), (1, .int .i64 x.2), (5, .int .i64 (x.1 : Nat))]) (fun _ => [])
    (fun x => l.length - x.1) (0, left - l.length) ⟨Nat.zero_le _, h, by simp only; omega, rfl⟩ ⟨rfl, rfl, rfl, rfl, rfl, rfl, trivial⟩ trivial (fun _ => rfl) (fun x hx => ?_)
  obtain ⟨i, y⟩ := x
  obtain ⟨hi, hy0, hy1, hf⟩ := hx
  simp only at hi hy0 hy1 hf
  rw [hf]
  repeat refine prun_step hT rfl ?_
  refine prun_cond rfl (fun h2 => ?_) (fun h2 => ?_)
  · have hlt : i < l.length := by simpa using h2
    obtain ⟨e, he⟩ : ∃ e, l[i]? = some e := ⟨l[i], by simp [hlt]⟩
    have hdrop : l.drop i = e :: l.drop (i + 1) := by
      rw [List.drop_eq_getElem_cons hlt]
      rw [List.getElem?_eq_getElem hlt] at he
      simp at he; rw [he]
    have hte := ht e (List.mem_of_getElem? he)
    rw [hdrop, List.foldl_cons, if_neg (by omega)]
    repeat refine prun_step hT rfl ?_
    refine prun_q (od_indexAddr (p := e.pv) hT rfl rfl rfl rfl rfl rfl (Int.natCast_nonneg _) (by simp [he])) rfl rfl ?_
    repeat refine prun_step hT rfl ?_
    refine prun_callx (szRiverEvent_spec e y hy0 hy1 (by omega)) rfl rfl rfl rfl rfl ?_
    repeat refine prun_step hT rfl ?_
    refine prun_cond rfl (fun h3 => ?_) (fun h3 => ?_)
    · have h3 : szEv e y < 0 := by simpa using h3
      have h4 : szEv e y = -1 := by unfold szEv at h3 ⊢; split at h3 <;> simp_all
      repeat refine prun_step hT rfl ?_
      refine ret_ends (ends_flat rfl rfl ⟨?_, rfl⟩)
      rcases Nat.eq_zero_or_pos (l.drop (i + 1)).length with hz | hz
      · rw [List.length_eq_zero_iff.1 hz, h4]; rfl
      · rw [szEv_neg _ _ h3 (by intro h; rw [h] at hz; simp at hz)]; rfl
    · have h3 : 0 ≤ szEv e y := by simpa using h3
      repeat refine prun_step hT rfl ?_
      rw [wrap64 (n := (i : Int) + 1) (by omega) (by omega)]
      exact prun_lp ⟨(i + 1, szEv e y), ⟨hlt, h3, by simp only; unfold szEv at h3 ⊢; split <;> omega, rfl⟩, by simp only; omega, ⟨rfl, rfl, rfl, rfl, rfl, rfl, trivial⟩, trivial⟩
  · have hge : i = l.length := by simp at h2; omega
    subst hge
    repeat refine prun_step hT rfl ?_
    exact ret_ends (ends_flat rfl rfl ⟨by simp [packPV, Env.get], rfl⟩)

end Go.PMS
namespace Go.PMS
open Go Go.PM Go.Proofs Go.RowKit
variable {W : World} {gs : Nat}
set_option maxRecDepth 20000

theorem eqEv (a b : Ev) : eqCells [.int .i64 a.kind, .int .i64 a.at_, .int .i64 a.frm, .int .i64 a.num, .int .i64 a.word, .int .i64 a.mix, .int .i64 a.keep, .int .i64 a.to_, .int .i64 a.til, .str a.text]
    [.int .i64 b.kind, .int .i64 b.at_, .int .i64 b.frm, .int .i64 b.num, .int .i64 b.word, .int .i64 b.mix, .int .i64 b.keep, .int .i64 b.to_, .int .i64 b.til, .str b.text] = decide (a = b) := by
  obtain ⟨a1, a2, a3, a4, a5, a6, a7, a8, a9, a10⟩ := a
  obtain ⟨b1, b2, b3, b4, b5, b6, b7, b8, b9, b10⟩ := b
  rw [Bool.eq_iff_iff]
  simp [eqCells, eqCell]

set_option maxHeartbeats 4000000 in
theorem specRiverWrite_spec (l : List Ev) (hl : l.length ≤ 1099511627776) (hok : ∀ e ∈ l, e.ok) : PSpec (bs W gs) n_spec_RiverWrite [.snap 10 (l.map Ev.pv)] [] (fun r H => r = .str (write44 [] l) ∧ H = []) := by
  refine pspec_intro (fn := b_spec_RiverWrite) (bs_good W gs) rfl rfl rfl (Nat.le_of_ble_eq_true rfl) fun s0 _ => ?_
  have hT := bs_good W gs
  repeat refine prun_step hT rfl ?_
  refine prun_loop (σ := Nat × Str) (fun x => x.1 ≤ l.length ∧ x.2.length ≤ 60000 ∧ write44 [] l = write44 x.2 (l.drop x.1))
    (fun x => [(0, .snap 10 (l.map Ev.pv)), (3, .str x.2), (4, .int .i64 (x.1 : Nat))]) (fun _ => [])
    (fun x => l.length - x.1) (0, []) ⟨Nat.zero_le _, by simp, rfl⟩ ⟨rfl, rfl, rfl, rfl, rfl, rfl, trivial⟩ trivial (fun _ => rfl) (fun x hx => ?_)
  obtain ⟨i, out⟩ := x
  obtain ⟨hi, ho, hf⟩ := hx
  simp only at hi ho hf
  rw [hf]
  repeat refine prun_step hT rfl ?_
  refine prun_cond rfl (fun h2 => ?_) (fun h2 => ?_)
  · have hlt : i < l.length := by simpa using h2
    obtain ⟨e, he⟩ : ∃ e, l[i]? = some e := ⟨l[i], by simp [hlt]⟩
    have hdrop : l.drop i = e :: l.drop (i + 1) := by
      rw [List.drop_eq_getElem_cons hlt]
      rw [List.getElem?_eq_getElem hlt] at he
      simp at he; rw [he]
    have heok := hok e (List.mem_of_getElem? he)
    have hlen := line44_len heok
    rw [hdrop, write44]
    repeat refine prun_step hT rfl ?_
    refine prun_q (od_indexAddr (p := e.pv) hT rfl rfl rfl rfl rfl rfl (Int.natCast_nonneg _) (by simp [he])) rfl rfl ?_
    repeat refine prun_step hT rfl ?_
    refine prun_callx (l44Line_spec e heok) rfl rfl rfl rfl rfl ?_
    repeat refine prun_step hT rfl ?_
    refine prun_callx (l44Read_spec (line44 e) (by omega)) rfl rfl rfl rfl rfl ?_
    obtain ⟨f, ok, hr⟩ : ∃ f ok, read44 (line44 e) = (f, ok) := ⟨_, _, rfl⟩
    rw [hr]
    simp only
    repeat refine prun_step hT rfl ?_
    refine prun_join2 (f = e ∧ ok = true) [(0, .snap 10 (l.map Ev.pv)), (3, .str out), (4, .int .i64 (i : Nat)), (5, .str (line44 e))] [] rfl ?_ (fun hfe => ?_)
    · refine prun_draw hT (by kernel_rfl) ?_
      repeat refine plex_step hT rfl ?_
      cases ok with
      | false =>
        repeat refine plex_step hT rfl ?_
        refine plex_nil (by kernel_rfl) ?_
        repeat refine prun_step hT rfl ?_
        exact ret_ends (ends_flat rfl rfl ⟨by rw [if_neg (by simp)]; rfl, rfl⟩)
      | true =>
        repeat refine plex_step hT rfl ?_
        refine plex_q (od_indexAddr (p := e.pv) hT rfl rfl rfl rfl rfl rfl (Int.natCast_nonneg _) (by simp [he])) rfl rfl ?_
        repeat refine plex_step hT rfl ?_
        refine plex_q (od_nes hT evUnder evHeld evGuard rfl rfl rfl rfl rfl) rfl rfl ?_
        rw [eqEv]
        repeat refine plex_step hT rfl ?_
        refine plex_nil (by kernel_rfl) ?_
        repeat refine prun_step hT rfl ?_
        refine prun_cond rfl (fun h3 => ?_) (fun h3 => ?_)
        · have h3 : f ≠ e := by simpa using h3
          repeat refine prun_step hT rfl ?_
          exact ret_ends (ends_flat rfl rfl ⟨by rw [if_neg (by simpa using h3)]; rfl, rfl⟩)
        · have h3 : f = e := by simpa using h3
          repeat refine prun_step hT rfl ?_
          exact prun_lp ⟨⟨h3, rfl⟩, ⟨rfl, rfl, rfl, rfl, rfl, rfl, rfl, rfl, trivial⟩, trivial⟩
    obtain ⟨rfl, rfl⟩ := hfe
    rw [if_pos rfl]
    repeat (first | refine prun_step hT rfl ?_ | refine prun_q (od_cat rfl rfl (by first | omega | (simp only [List.length_append, List.length_cons, List.length_nil]; omega))) rfl rfl ?_)
    refine prun_cond rfl (fun h3 => ?_) (fun h3 => ?_)
    · have h3 : 60000 < (out ++ line44 f ++ [10]).length := by
        have := of_decide_eq_true h3
        have e10 : (out ++ line44 f ++ ({ data := #[10] } : ByteArray).data.toList).length = (out ++ line44 f ++ [10]).length := rfl
        omega
      rw [if_pos h3]
      repeat refine prun_step hT rfl ?_
      exact ret_ends (ends_flat rfl rfl ⟨rfl, rfl⟩)
    · have h3 : ¬ 60000 < (out ++ line44 f ++ [10]).length := by
        have := of_decide_eq_false h3
        have e10 : (out ++ line44 f ++ ({ data := #[10] } : ByteArray).data.toList).length = (out ++ line44 f ++ [10]).length := rfl
        omega
      rw [if_neg h3]
      repeat refine prun_step hT rfl ?_
      rw [wrap64 (n := (i : Int) + 1) (by omega) (by omega)]
      exact prun_lp ⟨(i + 1, out ++ line44 f ++ [10]), ⟨hlt, by simp only; omega, rfl⟩, by simp only; omega, ⟨rfl, rfl, rfl, rfl, rfl, rfl, trivial⟩, trivial⟩
  · have hge : i = l.length := by simp at h2; omega
    subst hge
    repeat refine prun_step hT rfl ?_
    exact ret_ends (ends_flat rfl rfl ⟨by simp [packPV, Env.get, write44], rfl⟩)

def textOk (s : Str) : Bool := s.all printable && decide (1 ≤ s.length ∧ s.length ≤ 24)

theorem textOk_spec (s : Str) (hs : s.length ≤ 140737488355328) : PSpec (bs W gs) n_impl_textOk [.str s] [] (fun r H => r = .bool (textOk s) ∧ H = []) := by
  refine pspec_intro (fn := b_impl_textOk) (bs_good W gs) rfl rfl rfl (Nat.le_of_ble_eq_true rfl) fun s0 _ => ?_
  have hT := bs_good W gs
  repeat refine prun_step hT rfl ?_
  refine prun_loop (σ := Nat) (fun i => i ≤ s.length ∧ ∀ c ∈ s.take i, printable c = true)
    (fun i => [(0, .str s), (3, .int .i64 (i : Nat))]) (fun _ => [])
    (fun i => s.length - i) 0 ⟨Nat.zero_le _, by simp⟩ ⟨rfl, rfl, rfl, rfl, trivial⟩ trivial (fun _ => rfl) (fun i hi => ?_)
  obtain ⟨hi, ha⟩ := hi
  repeat refine prun_step hT rfl ?_
  refine prun_cond rfl (fun h => ?_) (fun h => ?_)
  · have hlt : i < s.length := by simpa using h
    obtain ⟨c, hc⟩ : ∃ c, s[i]? = some c := ⟨s[i], by simp [hlt]⟩
    have hcm : c ∈ s := List.mem_of_getElem? hc
    have hcl : c.toNat < 256 := c.toNat_lt
    repeat refine prun_step hT rfl ?_
    refine prun_q (od_index_str (b := c) hT rfl rfl rfl rfl (Int.natCast_nonneg _) (by simpa using hc)) rfl rfl ?_
    repeat refine prun_step hT rfl ?_
    rw [wrap64 (n := (c.toNat : Int)) (by omega) (by omega)]
    refine prun_callx (in_spec _ _ _) rfl rfl rfl rfl rfl ?_
    repeat refine prun_step hT rfl ?_
    refine prun_cond rfl (fun h2 => ?_) (fun h2 => ?_)
    · have h2 : printable c = false := by simp at h2; simp [printable]; omega
      repeat refine prun_step hT rfl ?_
      refine ret_ends (ends_flat rfl rfl ⟨congrArg PV.bool ?_, rfl⟩)
      have : s.all printable = false := by rw [List.all_eq_false]; exact ⟨c, hcm, by simp [h2]⟩
      rw [textOk, this]; rfl
    · have h2 : printable c = true := by simp at h2; simp [printable]; omega
      repeat refine prun_step hT rfl ?_
      rw [wrap64 (n := (i : Int) + 1) (by omega) (by omega)]
      exact prun_lp ⟨i + 1, ⟨hlt, all_take_succ ha hc h2⟩, by omega, ⟨rfl, rfl, rfl, rfl, trivial⟩, trivial⟩
  · have hge : i = s.length := by simp at h; omega
    subst hge
    rw [List.take_length] at ha
    repeat refine prun_step hT rfl ?_
    refine prun_callx (in_spec _ _ _) rfl rfl rfl rfl rfl ?_
    repeat refine prun_step hT rfl ?_
    refine ret_ends (ends_flat rfl rfl ⟨congrArg PV.bool ?_, rfl⟩)
    rw [textOk, List.all_eq_true.2 ha, Bool.true_and]
    rw [Bool.eq_iff_iff]
    simp
    omega

end Go.PMS
namespace Go.PMS
open Go Go.PM Go.Proofs Go.RowKit
variable {W : World} {gs : Nat}
set_option maxRecDepth 20000

def foff (c : UInt8) : Nat := if c = 97 then 1 else if c = 102 then 2 else if c = 110 then 3 else if c = 119 then 4 else if c = 109 then 5 else if c = 107 then 6 else if c = 116 then 7 else 8

theorem field_spec (id : Nat) (b : Blk) (c : UInt8) (hl : b.elems.length = 1) (hd : b.data = true ∨ refsInl [(id, b)] b.elems = true) : PSpec (bs W gs) n_impl_field [.ptr id 1 0 0, .int .u8 c.toNat] [(id, b)] (fun r H => r = .ptr id 1 0 (foff c) ∧ H = [(id, b)]) := by
  refine pspec_intro (fn := b_impl_field) (bs_good W gs) rfl rfl rfl (Nat.le_of_ble_eq_true rfl) fun s0 _ => ?_
  have hT := bs_good W gs
  obtain ⟨G, hG⟩ : ∃ G : Heap, G = [(id, b)] := ⟨_, rfl⟩
  have fin : ∀ (env : Env), env.get 4 = .ptr id 1 0 (foff c) → ∀ {k : List It}, Prun (frm (bs W gs) b_impl_field s0 [(id, b)] (fun r H => r = .ptr id 1 0 (foff c) ∧ H = [(id, b)])) (.code .ret :: k) env [(id, b)] := fun env he k =>
    ret_ends ⟨[.ptr id 1 0 (foff c)], [.ptr id 1 0 (foff c)], [(id, b)], by
      show retsPV _ _ _ [ResultVar.tmp 4] = _
      simp [retsPV, retPV, he, notTup], vws_cons (by simp [vw, Heap.get]) vws_nil, ⟨by simp [Heap.get], hd, trivial⟩, by simp [keysIn, Heap.get], rfl, rfl⟩
  repeat refine prun_step hT rfl ?_
  refine prun_cond rfl (fun h => ?_) (fun h => ?_)
  · have h : c = 97 := UInt8.toNat_inj.1 (by simp at h; simp; omega)
    subst h
    repeat refine prun_step hT rfl ?_
    refine prun_q (od_nilCheck_ptr (blk := b) rfl (by simp [Heap.get]) hl) rfl rfl ?_
    refine prun_q (od_fieldAddr (blk := b) hT rfl rfl rfl rfl (by simp) rfl (by simp [Heap.get]) hl) rfl rfl ?_
    repeat refine prun_step hT rfl ?_
    exact fin _ rfl
  have n97 : c ≠ 97 := by rintro rfl; simp at h
  repeat refine prun_step hT rfl ?_
  refine prun_cond rfl (fun h => ?_) (fun h => ?_)
  · have h : c = 102 := UInt8.toNat_inj.1 (by simp at h; simp; omega)
    subst h
    repeat refine prun_step hT rfl ?_
    refine prun_q (od_nilCheck_ptr (blk := b) rfl (by simp [Heap.get]) hl) rfl rfl ?_
    refine prun_q (od_fieldAddr (blk := b) hT rfl rfl rfl rfl (by simp) rfl (by simp [Heap.get]) hl) rfl rfl ?_
    repeat refine prun_step hT rfl ?_
    exact fin _ rfl
  have n102 : c ≠ 102 := by rintro rfl; simp at h
  repeat refine prun_step hT rfl ?_
  refine prun_cond rfl (fun h => ?_) (fun h => ?_)
  · have h : c = 110 := UInt8.toNat_inj.1 (by simp at h; simp; omega)
    subst h
    repeat refine prun_step hT rfl ?_
    refine prun_q (od_nilCheck_ptr (blk := b) rfl (by simp [Heap.get]) hl) rfl rfl ?_
    refine prun_q (od_fieldAddr (blk := b) hT rfl rfl rfl rfl (by simp) rfl (by simp [Heap.get]) hl) rfl rfl ?_
    repeat refine prun_step hT rfl ?_
    exact fin _ rfl
  have n110 : c ≠ 110 := by rintro rfl; simp at h
  repeat refine prun_step hT rfl ?_
  refine prun_cond rfl (fun h => ?_) (fun h => ?_)
  · have h : c = 119 := UInt8.toNat_inj.1 (by simp at h; simp; omega)
    subst h
    repeat refine prun_step hT rfl ?_
    refine prun_q (od_nilCheck_ptr (blk := b) rfl (by simp [Heap.get]) hl) rfl rfl ?_
    refine prun_q (od_fieldAddr (blk := b) hT rfl rfl rfl rfl (by simp) rfl (by simp [Heap.get]) hl) rfl rfl ?_
    repeat refine prun_step hT rfl ?_
    exact fin _ rfl
  have n119 : c ≠ 119 := by rintro rfl; simp at h
  repeat refine prun_step hT rfl ?_
  refine prun_cond rfl (fun h => ?_) (fun h => ?_)
  · have h : c = 109 := UInt8.toNat_inj.1 (by simp at h; simp; omega)
    subst h
    repeat refine prun_step hT rfl ?_
    refine prun_q (od_nilCheck_ptr (blk := b) rfl (by simp [Heap.get]) hl) rfl rfl ?_
    refine prun_q (od_fieldAddr (blk := b) hT rfl rfl rfl rfl (by simp) rfl (by simp [Heap.get]) hl) rfl rfl ?_
    repeat refine prun_step hT rfl ?_
    exact fin _ rfl
  have n109 : c ≠ 109 := by rintro rfl; simp at h
  repeat refine prun_step hT rfl ?_
  refine prun_cond rfl (fun h => ?_) (fun h => ?_)
  · have h : c = 107 := UInt8.toNat_inj.1 (by simp at h; simp; omega)
    subst h
    repeat refine prun_step hT rfl ?_
    refine prun_q (od_nilCheck_ptr (blk := b) rfl (by simp [Heap.get]) hl) rfl rfl ?_
    refine prun_q (od_fieldAddr (blk := b) hT rfl rfl rfl rfl (by simp) rfl (by simp [Heap.get]) hl) rfl rfl ?_
    repeat refine prun_step hT rfl ?_
    exact fin _ rfl
  have n107 : c ≠ 107 := by rintro rfl; simp at h
  repeat refine prun_step hT rfl ?_
  refine prun_cond rfl (fun h => ?_) (fun h => ?_)
  · have h : c = 116 := UInt8.toNat_inj.1 (by simp at h; simp; omega)
    subst h
    repeat refine prun_step hT rfl ?_
    refine prun_q (od_nilCheck_ptr (blk := b) rfl (by simp [Heap.get]) hl) rfl rfl ?_
    refine prun_q (od_fieldAddr (blk := b) hT rfl rfl rfl rfl (by simp) rfl (by simp [Heap.get]) hl) rfl rfl ?_
    repeat refine prun_step hT rfl ?_
    exact fin _ rfl
  have n116 : c ≠ 116 := by rintro rfl; simp at h
  repeat refine prun_step hT rfl ?_
  refine prun_q (od_nilCheck_ptr (blk := b) rfl (by simp [Heap.get]) hl) rfl rfl ?_
  refine prun_q (od_fieldAddr (blk := b) hT rfl rfl rfl rfl (by simp) rfl (by simp [Heap.get]) hl) rfl rfl ?_
  repeat refine prun_step hT rfl ?_
  refine fin _ ?_
  have : foff c = 8 := by simp [foff, n97, n102, n110, n119, n109, n107, n116]
  rw [this]; rfl

/-- A kind of line: its word, its number, its fields. -/
structure Lk where
  word : Str
  kind : Int
  fields : Str
def Lk.pv (x : Lk) : PV := .agg [.str x.word, .int .i64 x.kind, .str x.fields]
def kinds : List Lk := [⟨[111, 119, 110], 1, [97, 116, 117]⟩, ⟨[116, 105, 109, 101], 2, [97]⟩, ⟨[109, 105, 120], 3, [97, 102, 110, 109]⟩, ⟨[98, 114, 105, 110, 103, 115], 4, [119]⟩, ⟨[100, 111, 117, 98, 108, 101, 115], 4, [119]⟩, ⟨[108, 111, 115, 101, 115], 5, [119]⟩, ⟨[115, 112, 111, 105, 108, 115], 6, [119, 109, 107]⟩, ⟨[102, 97, 108, 108, 115], 7, [97, 107]⟩, ⟨[114, 105, 115, 101, 115], 8, [97]⟩, ⟨[111, 112, 101, 110, 115], 9, [97]⟩, ⟨[99, 108, 111, 115, 101, 115], 10, [97]⟩, ⟨[101, 97, 116, 115], 11, [97, 102, 110]⟩, ⟨[112, 97, 99, 107, 115], 12, [97]⟩, ⟨[102, 111, 114, 99, 101, 115], 13, [97]⟩]

set_option maxHeartbeats 4000000 in
theorem lineKinds_spec : PSpec (bs W gs) n_impl_lineKinds [] [] (fun r H => r = .snap 3 (kinds.map Lk.pv) ∧ H = []) := by
  refine pspec_intro (fn := b_impl_lineKinds) (bs_good W gs) rfl rfl rfl (Nat.le_of_ble_eq_true rfl) fun s0 _ => ?_
  have hT := bs_good W gs
  repeat refine prun_step hT rfl ?_
  exact ret_ends (ends_slice1 rfl rfl rfl ⟨rfl, rfl⟩)

end Go.PMS
/- Calls that look at blocks of the caller's. -/
namespace Go.PM
open Go.RowKit

theorem heap_same {G H : Heap} (hG : heapSub G G H) (i : Nat) : Heap.get (G ++ H) i = H.get i := by
  rw [Heap.get_append]
  cases h : G.get i with
  | none => rfl
  | some b => exact (heapSub_get hG h).1.symm

theorem freshIn_self (H : Heap) : ∀ (A G : Heap), (∀ i b, A.get i = some b → (G.get i).isSome = true) → (∀ x ∈ A, (G.get x.1).isSome = true) → freshIn G H A
  | [], _, _, _ => trivial
  | (i, b) :: A, G, h, h2 => ⟨.inl (h2 (i, b) (by simp)), freshIn_self H A G (fun j c hj => h2' h2 hj) (fun x hx => h2 x (by simp [hx]))⟩
where
  h2' {A G : Heap} {i : Nat} {b : Blk} (h2 : ∀ x ∈ (i, b) :: A, (G.get x.1).isSome = true) {j : Nat} {c : Blk} (hj : A.get j = some c) : (G.get j).isSome = true := by
    have : j ∈ A.map (·.1) := keys_mem (by rw [hj]; rfl)
    obtain ⟨x, hx, rfl⟩ := List.mem_map.1 this
    exact h2 x (by simp [hx])

theorem mem_key : ∀ {G : Heap} {x : Nat × Blk}, x ∈ G → (G.get x.1).isSome = true
  | (i, b) :: G, x, h => by
    rw [Heap.get_cons]
    split
    · rfl
    · rename_i hne
      rcases List.mem_cons.1 h with rfl | h
      · exact absurd rfl hne
      · exact mem_key h

section calls
variable {F : Frm} {all : Array Oper} {rest : List Oper} {k : List It} {d : Option Nat} {ty : TypeId} {ps : String} {af : Array Edge} {g : Option (Nat × Bool)} {env : Env} {H : Heap}

/-- A call that looks at some blocks and leaves them as they are. -/
theorem prun_callr {f : FuncId} {xs : List Operand} {ts : Array TypeId} {args : List PV} {p : PV} {G : Heap} (hc : PSpec F.B f args G fun r H => r = p ∧ H = G) (ha : xs.map env.ev = args) (hn : args.all notTup = true) (hG : heapSub G G H) (hr : refsInl G args = true)
    (hg : guardK F.N all env g = some true) (hd : dstB F.N d = true) (h : Prun F (.ops all rest :: k) (env.put d p) H) :
    Prun F (.ops all (⟨d, .call { callee := .value (.func f), args := xs.toArray, argTypes := ts }, ty, ps, af, g⟩ :: rest) :: k) env H :=
  prun_gd hg hd (ow_call (hc.frame (H := H) hG hr fun r H' h => by
    rw [h.2]
    exact freshIn_self H G G (fun i b hb => by rw [hb]; rfl) (fun x hx => mem_key hx)) ha hn) fun q H' ⟨H1, ⟨h1, h2⟩, h3⟩ => by
    subst h1; subst h2; subst h3
    exact prun_has (fun i => (heap_same hG i).symm) h
end calls
end Go.PM
namespace Go.PMS
open Go Go.PM Go.Proofs Go.RowKit
variable {W : World} {gs : Nat}
set_option maxRecDepth 20000

def getF (c : UInt8) (e : Ev) : Int := if c = 97 then e.at_ else if c = 102 then e.frm else if c = 110 then e.num else if c = 119 then e.word else if c = 109 then e.mix else if c = 107 then e.keep else if c = 116 then e.to_ else e.til
def setF (c : UInt8) (n : Int) (e : Ev) : Ev := if c = 97 then { e with at_ := n } else if c = 102 then { e with frm := n } else if c = 110 then { e with num := n } else if c = 119 then { e with word := n } else if c = 109 then { e with mix := n } else if c = 107 then { e with keep := n } else if c = 116 then { e with to_ := n } else { e with til := n }

def lineLoop (e : Ev) : Str → Ev → Str → Option (Ev × Str)
  | [], m, out => some (m, out)
  | c :: cs, m, out => if 0 ≤ getF c e ∧ getF c e ≤ 9999 then lineLoop e cs (setF c (getF c e) m) (out ++ ([32] ++ dec (getF c e))) else none

def dbl : Str := [100, 111, 117, 98, 108, 101, 115]
def own : Str := [111, 119, 110]

def lineOf (e : Ev) (x : Lk) : Str × Bool :=
  match lineLoop e x.fields ⟨x.kind, 0, 0, 0, 0, 0, 0, 0, 0, []⟩ x.word with
  | none => ([], false)
  | some (m, out) =>
    if x.word = own then (if textOk e.text = true then (out ++ ([32] ++ e.text), decide (({ (if x.word = dbl then { m with keep := 1 } else m) with text := e.text } : Ev) = e)) else ([], false))
    else (out, decide ((if x.word = dbl then { m with keep := 1 } else m) = e))

theorem sub_getF (c : UInt8) (e : Ev) (z : List PV) : subP ⟨.int .i64, 1, 8, z⟩ e.pv.cells (foff c) = some (.int .i64 (getF c e)) := by
  unfold foff getF
  repeat' split
  all_goals rfl

theorem splice_setF (c : UInt8) (n : Int) (e : Ev) : spliceP e.pv (foff c) (.int .i64 n) = (setF c n e).pv := by
  unfold foff setF
  repeat' split
  all_goals rfl

theorem foff_le (c : UInt8) : foff c ≤ 8 := by
  unfold foff
  repeat' split
  all_goals omega

theorem refs_pv (G : Heap) (e : Ev) : refsInl G [e.pv] = true := rfl

set_option maxHeartbeats 4000000 in
theorem lineOf_spec (e : Ev) (x : Lk) (he : e.ok) (hx : x.word.length ≤ 10) (hf : x.fields.length ≤ 8)
    (hI : ∀ n : Int, 0 ≤ n → n ≤ 9999 → PSpec (bs W gs) n_strconv_Itoa [.int .i64 n] [] (fun r H => r = .str (dec n) ∧ H = [])) :
    PSpec (bs W gs) n_impl_lineOf [e.pv, x.pv] [] (fun r H => r = .tup [.str (lineOf e x).1, .bool (lineOf e x).2] ∧ H = []) := by
  refine pspec_intro (fn := b_impl_lineOf) (bs_good W gs) rfl rfl rfl (Nat.le_of_ble_eq_true rfl) fun s0 _ => ?_
  have hT := bs_good W gs
  repeat refine prun_step hT rfl ?_
  refine prun_loop (σ := Nat × Ev × Str) (fun y => y.1 ≤ x.fields.length ∧ y.2.2.length ≤ 10 + 24 * y.1 ∧ lineLoop e x.fields ⟨x.kind, 0, 0, 0, 0, 0, 0, 0, 0, []⟩ x.word = lineLoop e (x.fields.drop y.1) y.2.1 y.2.2)
    (fun y => [(2, .ptr 2 1 0 0), (3, .ptr 3 1 0 0), (6, .ptr 6 1 0 0), (7, .str y.2.2), (8, .int .i64 (y.1 : Nat))])
    (fun y => [(2, ⟨10, true, false, [e.pv]⟩), (3, ⟨3, true, false, [x.pv]⟩), (6, ⟨10, true, false, [y.2.1.pv]⟩)])
    (fun y => x.fields.length - y.1) (0, ⟨x.kind, 0, 0, 0, 0, 0, 0, 0, 0, []⟩, x.word) ⟨Nat.zero_le _, by simp only; omega, rfl⟩
    ⟨rfl, rfl, rfl, rfl, rfl, rfl, rfl, rfl, rfl, rfl, trivial⟩ ⟨rfl, .inr rfl, rfl, .inr rfl, rfl, .inr rfl, trivial⟩ (fun _ => rfl) (fun y hy => ?_)
  obtain ⟨i, m, out⟩ := y
  obtain ⟨hi, ho, hl⟩ := hy
  simp only at hi ho hl
  have hlo : lineOf e x = match lineLoop e (x.fields.drop i) m out with
    | none => ([], false)
    | some (m, out) =>
      if x.word = own then (if textOk e.text = true then (out ++ ([32] ++ e.text), decide (({ (if x.word = dbl then { m with keep := 1 } else m) with text := e.text } : Ev) = e)) else ([], false))
      else (out, decide ((if x.word = dbl then { m with keep := 1 } else m) = e)) := by rw [lineOf, hl]
  repeat refine prun_step hT rfl ?_
  refine prun_cond rfl (fun h2 => ?_) (fun h2 => ?_)
  · have hlt : i < x.fields.length := by simpa using h2
    obtain ⟨c, hc⟩ : ∃ c, x.fields[i]? = some c := ⟨x.fields[i], by simp [hlt]⟩
    have hdrop : x.fields.drop i = c :: x.fields.drop (i + 1) := by
      rw [List.drop_eq_getElem_cons hlt]
      rw [List.getElem?_eq_getElem hlt] at hc
      simp at hc; rw [hc]
    rw [hdrop, lineLoop] at hlo
    repeat refine prun_step hT rfl ?_
    refine prun_q (od_index_str (b := c) hT rfl rfl rfl rfl (Int.natCast_nonneg _) (by simpa using hc)) rfl rfl ?_
    refine prun_callr (G := [(2, ⟨10, true, false, [e.pv]⟩)]) (field_spec 2 ⟨10, true, false, [e.pv]⟩ c rfl (.inr rfl)) rfl rfl ⟨rfl, .inr rfl, trivial⟩ rfl rfl rfl ?_
    repeat refine prun_step hT rfl ?_
    refine prun_q (od_load (blk := ⟨10, true, false, [e.pv]⟩) (y := e.pv) hT rfl rfl rfl rfl rfl (sub_getF c e _)) rfl rfl ?_
    repeat refine prun_step hT rfl ?_
    refine prun_callx (in_spec _ _ _) rfl rfl rfl rfl rfl ?_
    repeat refine prun_step hT rfl ?_
    refine prun_cond rfl (fun h3 => ?_) (fun h3 => ?_)
    · have h3 : ¬ (0 ≤ getF c e ∧ getF c e ≤ 9999) := by simp at h3; omega
      rw [if_neg h3] at hlo
      repeat refine prun_step hT rfl ?_
      exact ret_ends (ends_flat rfl rfl ⟨by rw [hlo]; rfl, rfl⟩)
    · have h3 : 0 ≤ getF c e ∧ getF c e ≤ 9999 := by simpa using h3
      rw [if_pos h3] at hlo
      repeat refine prun_step hT rfl ?_
      refine prun_q (od_index_str (b := c) hT rfl rfl rfl rfl (Int.natCast_nonneg _) (by simpa using hc)) rfl rfl ?_
      refine prun_callr (G := [(6, ⟨10, true, false, [m.pv]⟩)]) (field_spec 6 ⟨10, true, false, [m.pv]⟩ c rfl (.inr rfl)) rfl rfl ⟨rfl, .inr rfl, trivial⟩ rfl rfl rfl ?_
      repeat refine prun_step hT rfl ?_
      refine prun_w 10 true false [(setF c (getF c e) m).pv] (od_store (blk := ⟨10, true, false, [m.pv]⟩) (q := m.pv) (p := .int .i64 (getF c e)) hT rfl rfl rfl rfl rfl rfl rfl rfl rfl (by simp [PV.cells]) rfl (by have := foff_le c; simp [PV.cells, Ev.pv]; omega) (fun h => by cases h)) (by rw [← splice_setF]; rfl) rfl rfl rfl ?_
      repeat refine prun_step hT rfl ?_
      refine prun_callx (hI _ h3.1 h3.2) rfl rfl rfl rfl rfl ?_
      have hd : (dec (getF c e)).length ≤ 20 := dec_le ⟨by omega, by omega⟩
      repeat (first | refine prun_step hT rfl ?_ | refine prun_q (od_cat rfl rfl (by first | omega | (simp only [List.length_append, List.length_cons, List.length_nil]; omega))) rfl rfl ?_)
      rw [wrap64 (n := (i : Int) + 1) (by omega) (by omega)]
      refine prun_lp ⟨(i + 1, setF c (getF c e) m, out ++ ([32] ++ dec (getF c e))), ⟨hlt, by simp; omega, ?_⟩, by simp only; omega, ⟨rfl, rfl, rfl, rfl, rfl, rfl, rfl, rfl, rfl, rfl, trivial⟩, ⟨rfl, .inr rfl, rfl, .inr rfl, rfl, .inr rfl, trivial⟩⟩
      rw [hl, hdrop, lineLoop, if_pos h3]
  · have hge : i = x.fields.length := by simp at h2; omega
    subst hge
    rw [List.drop_length, lineLoop] at hlo
    simp only at hlo
    have htx := he.text
    repeat refine prun_step hT rfl ?_
    refine prun_cond rfl (fun h3 => ?_) (fun h3 => ?_)
    all_goals
      repeat refine prun_step hT rfl ?_
      refine prun_cond rfl (fun h4 => ?_) (fun h4 => ?_)
      · have h4 : x.word = own := by simpa [own] using h4
        rw [if_pos h4] at hlo
        repeat refine prun_step hT rfl ?_
        refine prun_callx (textOk_spec e.text (by omega)) rfl rfl rfl rfl rfl ?_
        repeat refine prun_step hT rfl ?_
        refine prun_cond rfl (fun h5 => ?_) (fun h5 => ?_)
        · have h5 : ¬ textOk e.text = true := by simpa using h5
          rw [if_neg h5] at hlo
          repeat refine prun_step hT rfl ?_
          exact ret_ends (ends_flat rfl rfl ⟨by rw [hlo]; rfl, rfl⟩)
        · have h5 : textOk e.text = true := by simpa using h5
          rw [if_pos h5] at hlo
          repeat (first | refine prun_step hT rfl ?_ | refine prun_q (od_cat rfl rfl (by first | omega | (simp only [List.length_append, List.length_cons, List.length_nil]; omega))) rfl rfl ?_)
          refine prun_draw hT (by kernel_rfl) ?_
          repeat refine plex_step hT rfl ?_
          refine plex_q (od_eqs hT evUnder evHeld evGuard rfl rfl rfl rfl rfl) rfl rfl ?_
          repeat refine plex_step hT rfl ?_
          refine plex_nil (by kernel_rfl) ?_
          repeat refine prun_step hT rfl ?_
          refine ret_ends (ends_flat rfl rfl ⟨?_, rfl⟩)
          rw [hlo]
          first
            | (have h3 : x.word = dbl := by simpa [dbl] using h3
               rw [if_pos h3]
               exact congrArg (fun b => PV.tup [.str (out ++ ([32] ++ e.text)), .bool b]) (eqEv { m with keep := 1, text := e.text } e))
            | (have h3 : ¬ x.word = dbl := by simpa [dbl] using h3
               rw [if_neg h3]
               exact congrArg (fun b => PV.tup [.str (out ++ ([32] ++ e.text)), .bool b]) (eqEv { m with text := e.text } e))
      · have h4 : ¬ x.word = own := by simpa [own] using h4
        rw [if_neg h4] at hlo
        repeat refine prun_step hT rfl ?_
        refine prun_draw hT (by kernel_rfl) ?_
        repeat refine plex_step hT rfl ?_
        refine plex_q (od_eqs hT evUnder evHeld evGuard rfl rfl rfl rfl rfl) rfl rfl ?_
        repeat refine plex_step hT rfl ?_
        refine plex_nil (by kernel_rfl) ?_
        repeat refine prun_step hT rfl ?_
        refine ret_ends (ends_flat rfl rfl ⟨?_, rfl⟩)
        rw [hlo]
        first
          | (have h3 : x.word = dbl := by simpa [dbl] using h3
             rw [if_pos h3]
             exact congrArg (fun b => PV.tup [.str out, .bool b]) (eqEv { m with keep := 1 } e))
          | (have h3 : ¬ x.word = dbl := by simpa [dbl] using h3
             rw [if_neg h3]
             exact congrArg (fun b => PV.tup [.str out, .bool b]) (eqEv m e))

end Go.PMS
/- Contracts of Go's library, as the kit's shelf states them, turned into the reading's. -/
namespace Go.PM
open Go.RowKit Go.Sort

def St.gw (s : St) (k : Nat) (os : Array Obj) : St := { s with w := grow (s.w.drewN k) os }

theorem St.gw_heap (s : St) (k : Nat) (os : Array Obj) {b : Nat} (hb : b < s.w.heap.size) : (s.gw k os).w.heap[b]? = s.w.heap[b]? := by
  show (s.w.heap ++ os)[b]? = _
  rw [Array.getElem?_append_left hb]

theorem St.gw_ext (s : St) (k : Nat) (os : Array Obj) : Ext s (s.gw k os) where
  os := rfl
  tape := rfl
  output := rfl
  size := by show s.w.heap.size ≤ (s.w.heap ++ os).size; simp
  frame _ hb _ := s.gw_heap k os hb
  stab _ h := h
  prov _ h := .inl h
  live _ _ h := h
  ids _ blk h := ⟨blk, h, rfl, Nat.le_refl _, fun _ => rfl⟩

theorem St.gw_ok {B : Base} {s : St} (k : Nat) (os : Array Obj) (ho : s.ok B) : (s.gw k os).ok B where
  lt b hb := Nat.lt_of_lt_of_le (ho.lt b hb) (s.gw_ext k os).size
  blk id blk h := (ho.blk id blk h).keep (s.gw_ext k os) ho rfl (fun b c h1 h2 => s.gw_heap k os (St.blk_lt ho h h1 h2)) (fun b c h1 h2 hl hS => by
    obtain ⟨b', c', k1, _, k3⟩ := ho.blk id blk h
    rw [h1] at k1
    obtain ⟨rfl, rfl⟩ : b = b' ∧ c = c' := by simpa using k1
    exact (k3 h2).2.2.1 hl hS)
  inj := ho.inj
  glob b hb := ⟨(ho.glob b hb).1, (s.gw_heap k os (ho.lt b (ho.glob b hb).1)).trans (ho.glob b hb).2⟩

/-- A library function that only adds to the heap: its contract in the reading's words. -/
theorem pspec_of_grow {B : Base} {f : FuncId} {args : List PV} {p : PV} (hent : Enters B.P f)
    (h : ∀ (s : St) (cargs : List Value), s.ok B → VRs s args cargs → Calls B.P f cargs.toArray s.w fun e w' => ∃ v, e = .returned v ∧ (∃ k os, w' = grow (s.w.drewN k) os) ∧ ∀ k os, VR (s.gw k os) p v) :
    PSpec B f args [] fun r H => r = p ∧ H = [] :=
  ⟨hent, fun s cargs ho hH hv => (h s cargs ho hv).mono fun _ _ ⟨v, h1, ⟨k, os, h2⟩, h3⟩ => ⟨v, s.gw k os, p, [], h1, h2.symm, St.gw_ok k os ho, s.gw_ext k os, h3 k os, fun i => hH i, rfl, rfl⟩⟩
end Go.PM
/- Contracts of the library at this seat: of what the kit's tool laid, what is wanted here. -/
namespace Go.Proofs
open Go.Shelf
def Tryd.laysM171_ren : Go.Shelf.Ren := ⟨fun | 171 => 36 | 243 => 44 | 246 => 51 | 283 => 56 | 284 => 57 | 285 => 58 | 286 => 59 | 129 => 66 | 317 => 65 | 318 => 67 | 319 => 68 | 320 => 69 | 337 => 72 | 338 => 73 | n => n, fun | 3 => 3 | 9 => 9 | 2 => 2 | 4 => 4 | 171 => 89 | 0 => 0 | 53 => 90 | 37 => 42 | 5 => 5 | 173 => 93 | 212 => 98 | 51 => 99 | 20 => 20 | 213 => 100 | 46 => 96 | 232 => 110 | 233 => 111 | n => n, fun | 17 => 1 | 18 => 4 | 19 => 5 | n => n⟩
theorem Tryd.laysM171 : Go.Proofs.LaysM.n171 Tryd.prog Tryd.laysM171_ren := {
  mixed := by kernel_rfl
  f129 := Tryd.func66.trans (congrArg some (by kernel_rfl))
  f171 := Tryd.func36.trans (congrArg some (by kernel_rfl))
  f243 := Tryd.func44.trans (congrArg some (by kernel_rfl))
  f246 := Tryd.func51.trans (congrArg some (by kernel_rfl))
  f283 := Tryd.func56.trans (congrArg some (by kernel_rfl))
  f284 := Tryd.func57.trans (congrArg some (by kernel_rfl))
  f285 := Tryd.func58.trans (congrArg some (by kernel_rfl))
  f286 := Tryd.func59.trans (congrArg some (by kernel_rfl))
  f317 := Tryd.func65.trans (congrArg some (by kernel_rfl))
  f318 := Tryd.func67.trans (congrArg some (by kernel_rfl))
  f319 := Tryd.func68.trans (congrArg some (by kernel_rfl))
  f320 := Tryd.func69.trans (congrArg some (by kernel_rfl))
  f337 := Tryd.func72.trans (congrArg some (by kernel_rfl))
  f338 := Tryd.func73.trans (congrArg some (by kernel_rfl))
  t0 := Tryd.underlying0
  a0 := Tryd.isAgg0
  z0 := Tryd.sizeOf0
  v0 := Tryd.zeroValue0
  t2 := Tryd.underlying2
  a2 := Tryd.isAgg2
  z2 := Tryd.sizeOf2
  v2 := Tryd.zeroValue2
  t3 := Tryd.underlying3
  a3 := Tryd.isAgg3
  z3 := Tryd.sizeOf3
  v3 := Tryd.zeroValue3
  t4 := Tryd.underlying4
  a4 := Tryd.isAgg4
  z4 := Tryd.sizeOf4
  v4 := Tryd.zeroValue4
  t5 := Tryd.underlying5
  a5 := Tryd.isAgg5
  z5 := Tryd.sizeOf5
  v5 := Tryd.zeroValue5
  t9 := Tryd.underlying9
  a9 := Tryd.isAgg9
  z9 := Tryd.sizeOf9
  v9 := Tryd.zeroValue9
  t20 := Tryd.underlying20
  a20 := Tryd.isAgg20
  z20 := Tryd.sizeOf20
  v20 := Tryd.zeroValue20
  t37 := Tryd.underlying42
  a37 := Tryd.isAgg42
  z37 := Tryd.sizeOf42
  v37 := Tryd.zeroValue42
  t46 := Tryd.underlying96
  a46 := Tryd.isAgg96
  z46 := Tryd.sizeOf96
  v46 := Tryd.zeroValue96
  t51 := Tryd.underlying99
  a51 := Tryd.isAgg99
  z51 := Tryd.sizeOf99
  v51 := Tryd.zeroValue99
  t53 := Tryd.underlying90
  a53 := Tryd.isAgg90
  z53 := Tryd.sizeOf90
  v53 := Tryd.zeroValue90
  t171 := Tryd.underlying89
  a171 := Tryd.isAgg89
  z171 := Tryd.sizeOf89
  v171 := Tryd.zeroValue89
  t173 := Tryd.underlying93
  a173 := Tryd.isAgg93
  z173 := Tryd.sizeOf93
  v173 := Tryd.zeroValue93
  t212 := Tryd.underlying98
  a212 := Tryd.isAgg98
  z212 := Tryd.sizeOf98
  v212 := Tryd.zeroValue98
  t213 := Tryd.underlying100
  a213 := Tryd.isAgg100
  z213 := Tryd.sizeOf100
  t232 := Tryd.underlying110
  a232 := Tryd.isAgg110
  z232 := Tryd.sizeOf110
  v232 := Tryd.zeroValue110
  t233 := Tryd.underlying111
  a233 := Tryd.isAgg111
  z233 := Tryd.sizeOf111
  v233 := Tryd.zeroValue111
  g17 := by kernel_rfl
  g18 := by kernel_rfl
  g19 := by kernel_rfl
  i0 := by kernel_rfl
  i2 := by kernel_rfl
  i3 := by kernel_rfl
  i4 := by kernel_rfl
  i5 := by kernel_rfl
  i9 := by kernel_rfl
  i20 := by kernel_rfl
  i37 := by kernel_rfl
  i46 := by kernel_rfl
  i51 := by kernel_rfl
  i53 := by kernel_rfl
  i171 := by kernel_rfl
  i173 := by kernel_rfl
  i212 := by kernel_rfl
  i232 := by kernel_rfl
  i233 := by kernel_rfl
  m17 := by kernel_rfl
  m18 := by kernel_rfl
  m19 := by kernel_rfl }
open Go.RowKit Go.Sort Go.Lib in
theorem Tryd.strconv_Itoa (n : Int) (h0 : -9223372036854775808 ≤ n) (h1 : n ≤ 9223372036854775807) (w : World) (htab : Lib.TabIs Tryd.prog w "internal/strconv.uint64pow10" .u64 Lib.pow10Tab) :
    Calls Tryd.prog 36 #[.int .i64 n] w fun e w' => e = .returned (.string ⟨(Lib.itoa n).toArray⟩) ∧ ∃ k os, w' = grow (w.drewN k) os := Any.strconv_Itoa Tryd.laysM171 n h0 h1 w htab
def Tryd.lays146_ren : Go.Shelf.Ren := ⟨fun | 146 => 25 | 221 => 39 | 268 => 46 | 138 => 47 | 143 => 48 | 195 => 52 | 197 => 53 | 218 => 54 | 219 => 55 | 260 => 60 | 217 => 61 | 225 => 62 | 224 => 63 | 267 => 64 | 266 => 70 | 314 => 71 | n => n, fun | 9 => 9 | 31 => 58 | 3 => 3 | 4 => 4 | 0 => 0 | 105 => 86 | 21 => 21 | 5 => 5 | 46 => 96 | 119 => 103 | 139 => 106 | 138 => 105 | 146 => 107 | 51 => 99 | n => n, fun | 1 => 0 | 3 => 2 | 4 => 3 | n => n⟩
theorem Tryd.lays146 : Go.Proofs.Lays.n146 Tryd.prog Tryd.lays146_ren := {
  mixed := by kernel_rfl
  f138 := Tryd.func47.trans (congrArg some (by kernel_rfl))
  f143 := Tryd.func48.trans (congrArg some (by kernel_rfl))
  f146 := Tryd.func25.trans (congrArg some (by kernel_rfl))
  f195 := Tryd.func52.trans (congrArg some (by kernel_rfl))
  f197 := Tryd.func53.trans (congrArg some (by kernel_rfl))
  f217 := Tryd.func61.trans (congrArg some (by kernel_rfl))
  f218 := Tryd.func54.trans (congrArg some (by kernel_rfl))
  f219 := Tryd.func55.trans (congrArg some (by kernel_rfl))
  f221 := Tryd.func39.trans (congrArg some (by kernel_rfl))
  f224 := Tryd.func63.trans (congrArg some (by kernel_rfl))
  f225 := Tryd.func62.trans (congrArg some (by kernel_rfl))
  f260 := Tryd.func60.trans (congrArg some (by kernel_rfl))
  f266 := Tryd.func70.trans (congrArg some (by kernel_rfl))
  f267 := Tryd.func64.trans (congrArg some (by kernel_rfl))
  f268 := Tryd.func46.trans (congrArg some (by kernel_rfl))
  f314 := Tryd.func71.trans (congrArg some (by kernel_rfl))
  t0 := Tryd.underlying0
  a0 := Tryd.isAgg0
  z0 := Tryd.sizeOf0
  v0 := Tryd.zeroValue0
  t3 := Tryd.underlying3
  a3 := Tryd.isAgg3
  z3 := Tryd.sizeOf3
  v3 := Tryd.zeroValue3
  t4 := Tryd.underlying4
  a4 := Tryd.isAgg4
  z4 := Tryd.sizeOf4
  v4 := Tryd.zeroValue4
  t5 := Tryd.underlying5
  a5 := Tryd.isAgg5
  z5 := Tryd.sizeOf5
  v5 := Tryd.zeroValue5
  t9 := Tryd.underlying9
  a9 := Tryd.isAgg9
  z9 := Tryd.sizeOf9
  v9 := Tryd.zeroValue9
  t21 := Tryd.underlying21
  a21 := Tryd.isAgg21
  z21 := Tryd.sizeOf21
  v21 := Tryd.zeroValue21
  t31 := Tryd.underlying58
  a31 := Tryd.isAgg58
  z31 := Tryd.sizeOf58
  v31 := Tryd.zeroValue58
  t46 := Tryd.underlying96
  a46 := Tryd.isAgg96
  z46 := Tryd.sizeOf96
  v46 := Tryd.zeroValue96
  t51 := Tryd.underlying99
  a51 := Tryd.isAgg99
  z51 := Tryd.sizeOf99
  v51 := Tryd.zeroValue99
  t105 := Tryd.underlying86
  a105 := Tryd.isAgg86
  z105 := Tryd.sizeOf86
  v105 := Tryd.zeroValue86
  t119 := Tryd.underlying103
  a119 := Tryd.isAgg103
  z119 := Tryd.sizeOf103
  t138 := Tryd.underlying105
  a138 := Tryd.isAgg105
  z138 := Tryd.sizeOf105
  v138 := Tryd.zeroValue105
  t139 := Tryd.underlying106
  a139 := Tryd.isAgg106
  z139 := Tryd.sizeOf106
  v139 := Tryd.zeroValue106
  t146 := Tryd.underlying107
  a146 := Tryd.isAgg107
  z146 := Tryd.sizeOf107
  v146 := Tryd.zeroValue107
  g1 := by kernel_rfl
  g3 := by kernel_rfl
  g4 := by kernel_rfl }
open Go.RowKit Go.Lib in
theorem Tryd.strings_Split (s sep : ByteArray) (m : Int) (w : World) (hs : s.size < 4294967281) (hm : w.cell? ⟨0, 0, none⟩ = some (.int .i64 m)) (h1 : 1 ≤ sep.size) :
    Calls Tryd.prog 25 #[.string s, .string sep] w fun e w' =>
      e = .returned (.slice (some ⟨w.heap.size, 0, none⟩) (Lib.countB s sep + 1) (Lib.countB s sep + 1)) ∧ w' = w.alloc (.cells ((Lib.splitB sep 0 (Lib.countB s sep) s).map Value.string).toArray 9) := Any.strings_Split Tryd.lays146 (by kernel_rfl) s sep m w hs hm h1
def Tryd.lays147_ren : Go.Shelf.Ren := ⟨fun | 147 => 40 | 221 => 39 | 268 => 46 | 138 => 47 | 143 => 48 | 195 => 52 | 197 => 53 | 218 => 54 | 219 => 55 | 260 => 60 | 217 => 61 | 225 => 62 | 224 => 63 | 267 => 64 | 266 => 70 | 314 => 71 | n => n, fun | 9 => 9 | 3 => 3 | 31 => 58 | 4 => 4 | 0 => 0 | 105 => 86 | 21 => 21 | 5 => 5 | 46 => 96 | 119 => 103 | 139 => 106 | 138 => 105 | 146 => 107 | 51 => 99 | n => n, fun | 1 => 0 | 3 => 2 | 4 => 3 | n => n⟩
theorem Tryd.lays147 : Go.Proofs.Lays.n147 Tryd.prog Tryd.lays147_ren := {
  mixed := by kernel_rfl
  f138 := Tryd.func47.trans (congrArg some (by kernel_rfl))
  f143 := Tryd.func48.trans (congrArg some (by kernel_rfl))
  f147 := Tryd.func40.trans (congrArg some (by kernel_rfl))
  f195 := Tryd.func52.trans (congrArg some (by kernel_rfl))
  f197 := Tryd.func53.trans (congrArg some (by kernel_rfl))
  f217 := Tryd.func61.trans (congrArg some (by kernel_rfl))
  f218 := Tryd.func54.trans (congrArg some (by kernel_rfl))
  f219 := Tryd.func55.trans (congrArg some (by kernel_rfl))
  f221 := Tryd.func39.trans (congrArg some (by kernel_rfl))
  f224 := Tryd.func63.trans (congrArg some (by kernel_rfl))
  f225 := Tryd.func62.trans (congrArg some (by kernel_rfl))
  f260 := Tryd.func60.trans (congrArg some (by kernel_rfl))
  f266 := Tryd.func70.trans (congrArg some (by kernel_rfl))
  f267 := Tryd.func64.trans (congrArg some (by kernel_rfl))
  f268 := Tryd.func46.trans (congrArg some (by kernel_rfl))
  f314 := Tryd.func71.trans (congrArg some (by kernel_rfl))
  t0 := Tryd.underlying0
  a0 := Tryd.isAgg0
  z0 := Tryd.sizeOf0
  v0 := Tryd.zeroValue0
  t3 := Tryd.underlying3
  a3 := Tryd.isAgg3
  z3 := Tryd.sizeOf3
  v3 := Tryd.zeroValue3
  t4 := Tryd.underlying4
  a4 := Tryd.isAgg4
  z4 := Tryd.sizeOf4
  v4 := Tryd.zeroValue4
  t5 := Tryd.underlying5
  a5 := Tryd.isAgg5
  z5 := Tryd.sizeOf5
  v5 := Tryd.zeroValue5
  t9 := Tryd.underlying9
  a9 := Tryd.isAgg9
  z9 := Tryd.sizeOf9
  v9 := Tryd.zeroValue9
  t21 := Tryd.underlying21
  a21 := Tryd.isAgg21
  z21 := Tryd.sizeOf21
  v21 := Tryd.zeroValue21
  t31 := Tryd.underlying58
  a31 := Tryd.isAgg58
  z31 := Tryd.sizeOf58
  v31 := Tryd.zeroValue58
  t46 := Tryd.underlying96
  a46 := Tryd.isAgg96
  z46 := Tryd.sizeOf96
  v46 := Tryd.zeroValue96
  t51 := Tryd.underlying99
  a51 := Tryd.isAgg99
  z51 := Tryd.sizeOf99
  v51 := Tryd.zeroValue99
  t105 := Tryd.underlying86
  a105 := Tryd.isAgg86
  z105 := Tryd.sizeOf86
  v105 := Tryd.zeroValue86
  t119 := Tryd.underlying103
  a119 := Tryd.isAgg103
  z119 := Tryd.sizeOf103
  t138 := Tryd.underlying105
  a138 := Tryd.isAgg105
  z138 := Tryd.sizeOf105
  v138 := Tryd.zeroValue105
  t139 := Tryd.underlying106
  a139 := Tryd.isAgg106
  z139 := Tryd.sizeOf106
  v139 := Tryd.zeroValue106
  t146 := Tryd.underlying107
  a146 := Tryd.isAgg107
  z146 := Tryd.sizeOf107
  v146 := Tryd.zeroValue107
  g1 := by kernel_rfl
  g3 := by kernel_rfl
  g4 := by kernel_rfl }
open Go.RowKit Go.Lib in
theorem Tryd.strings_SplitN (s sep : ByteArray) (n : Nat) (m : Int) (w : World) (hs : s.size < 4294967281) (hm : w.cell? ⟨0, 0, none⟩ = some (.int .i64 m)) (h1 : 1 ≤ sep.size) (hn : 1 ≤ n) (hn63 : n ≤ 9223372036854775807) :
    Calls Tryd.prog 40 #[.string s, .string sep, .int .i64 n] w fun e w' =>
      e = .returned (.slice (some ⟨w.heap.size, 0, none⟩) (Lib.splitB sep 0 (min n (s.size + 1) - 1) s).length (min n (s.size + 1))) ∧ w' = w.alloc (.cells (Lib.cellsOf (Lib.splitB sep 0 (min n (s.size + 1) - 1) s) (min n (s.size + 1))) 9) := Any.strings_SplitN Tryd.lays147 (by kernel_rfl) s sep n m w hs hm h1 hn hn63
end Go.Proofs
namespace Go.PMS
open Go Go.Proofs Go.Shelf Go.RowKit Go.Sort
theorem sh_strconv_Itoa (n : Int) (h0 : -9223372036854775808 ≤ n) (h1 : n ≤ 9223372036854775807) (w : World) (htab : Lib.TabIs Tryd.prog w "internal/strconv.uint64pow10" .u64 Lib.pow10Tab) :
    Calls Tryd.prog 36 #[.int .i64 n] w fun e w' => e = .returned (.string ⟨(Lib.itoa n).toArray⟩) ∧ ∃ k os, w' = grow (w.drewN k) os := by
  first | exact Tryd.strconv_Itoa .. | (apply Tryd.strconv_Itoa <;> assumption)
theorem sh_strings_Split (s sep : ByteArray) (m : Int) (w : World) (hs : s.size < 4294967281) (hm : w.cell? ⟨0, 0, none⟩ = some (.int .i64 m)) (h1 : 1 ≤ sep.size) :
    Calls Tryd.prog 25 #[.string s, .string sep] w fun e w' =>
      e = .returned (.slice (some ⟨w.heap.size, 0, none⟩) (Lib.countB s sep + 1) (Lib.countB s sep + 1)) ∧ w' = w.alloc (.cells ((Lib.splitB sep 0 (Lib.countB s sep) s).map Value.string).toArray 9) := by
  first | exact Tryd.strings_Split .. | (apply Tryd.strings_Split <;> assumption)
theorem sh_strings_SplitN (s sep : ByteArray) (n : Nat) (m : Int) (w : World) (hs : s.size < 4294967281) (hm : w.cell? ⟨0, 0, none⟩ = some (.int .i64 m)) (h1 : 1 ≤ sep.size) (hn : 1 ≤ n) (hn63 : n ≤ 9223372036854775807) :
    Calls Tryd.prog 40 #[.string s, .string sep, .int .i64 n] w fun e w' =>
      e = .returned (.slice (some ⟨w.heap.size, 0, none⟩) (Lib.splitB sep 0 (min n (s.size + 1) - 1) s).length (min n (s.size + 1))) ∧ w' = w.alloc (.cells (Lib.cellsOf (Lib.splitB sep 0 (min n (s.size + 1) - 1) s) (min n (s.size + 1))) 9) := by
  first | exact Tryd.strings_SplitN .. | (apply Tryd.strings_SplitN <;> assumption)
end Go.PMS
namespace Go.PMS
open Go Go.PM Go.Proofs Go.RowKit
variable {W : World} {gs : Nat}
set_option maxRecDepth 20000

theorem decN_lib (n : Nat) : decN n = Lib.decDigits n := by
  induction n using Nat.strongRecOn with
  | _ n ih =>
    rw [decN, Lib.decDigits]
    split
    · rfl
    · rw [ih _ (by omega)]; rfl

theorem dec_lib (n : Int) : dec n = Lib.itoa n := by
  unfold dec Lib.itoa
  split
  · rw [decN_lib]
  · rw [decN_lib]; congr 1; omega

theorem itoa_spec (n : Int) (h0 : -9223372036854775808 ≤ n) (h1 : n ≤ 9223372036854775807)
    (htab : ∀ s : St, s.ok (bs W gs) → Lib.TabIs PP s.w "internal/strconv.uint64pow10" .u64 Lib.pow10Tab) :
    PSpec (bs W gs) n_strconv_Itoa [.int .i64 n] [] (fun r H => r = .str (dec n) ∧ H = []) := by
  refine pspec_of_grow ⟨b_strconv_Itoa, rfl, rfl, rfl⟩ fun s cargs ho hv => ?_
  obtain ⟨u, r, rfl, h2, h3⟩ := hv
  cases h3
  have h2 : u = .int .i64 n := VR_int.1 (VR_of1 h2)
  subst h2
  refine (sh_strconv_Itoa n h0 h1 s.w (htab s ho)).mono fun e w' ⟨e1, k, os, e2⟩ => ⟨_, e1, ⟨k, os, e2⟩, fun k os => VR_str.2 (by rw [dec_lib])⟩

theorem tab_keep (hgs : W.heap.size ≤ gs) {name : String} {k : IntKind} {zs : List Int} (h : Lib.TabIs PP W name k zs) (s : St) (ho : s.ok (bs W gs)) : Lib.TabIs PP s.w name k zs := by
  unfold Lib.TabIs World.var? at h ⊢
  cases hg : PP.globalNamed name with
  | none => rw [hg] at h; simp at h
  | some g =>
    rw [hg] at h
    simp only [Option.bind_some] at h ⊢
    have hlt : g < W.heap.size := by
      rcases Nat.lt_or_ge g W.heap.size with h' | h'
      · exact h'
      · rw [Array.getElem?_eq_none h'] at h; simp at h
    rw [show s.w.heap[g]? = W.heap[g]? from (ho.glob g (Nat.lt_of_lt_of_le hlt hgs)).2]
    exact h

end Go.PMS
