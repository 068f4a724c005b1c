/- The values, the memory and the relation to the machine of a small pure reading of the program; no program in sight. -/
import Derived.WalkKit
import Derived.Deep.Quiet
import Derived.Deep.MidRow
import Derived.Deep.AppendSrc
import Derived.Laws.StructEq
import Derived.Deep.Upon
import Derived.Laws.Slices
import Derived.Laws.MakeOwn
import Derived.Laws.BytesString
import Derived.Laws.IdiomStrings
namespace Go.PM
open Go.RowKit

/-- A value as the pure reading has it. -/
inductive PV where
  | any
  | int (k : IntKind) (n : Int)
  | bool (b : Bool)
  | str (s : List UInt8)
  | agg (fs : List PV)
  | tup (fs : List PV)
  | snap (z : Nat) (xs : List PV)
  | sref (id l0 off len : Nat)
  | ptr (id l0 i off : Nat)
  | sp (e : PV) (off : Nat)
  | nilp
  | nils
  deriving Inhabited

/-- A block of memory that the reading knows by a number of its own. -/
structure Blk where
  z : Nat
  live : Bool
  data : Bool
  elems : List PV

abbrev Heap := List (Nat × Blk)
abbrev Env := List (Nat × PV)

def Heap.get : Heap → Nat → Option Blk
  | [], _ => none
  | (k, b) :: h, n => if k = n then some b else Heap.get h n

def Env.get : Env → Nat → PV
  | [], _ => .any
  | (k, v) :: e, n => if k = n then v else Env.get e n

section
variable (w : World) (S : Nat → Prop)
mutual
/-- A value's cells. `R`: what is asked of references. -/
def CR (R : PV → Value → Prop) : PV → List Value → Prop
  | .int k n, cs => cs = [.int k n]
  | .bool b, cs => cs = [.bool b]
  | .str s, cs => cs = [.string ⟨s.toArray⟩]
  | .agg fs, cs => CRl R fs cs
  | .tup _, _ => False
  | .any, _ => False
  | .snap z xs, cs => ∃ a cap, cs = [.slice a xs.length cap] ∧ xs.length ≤ cap ∧ (xs = [] ∨ ∃ b off, a = some ⟨b, off, none⟩ ∧ S b ∧ CRrow z b off xs)
  | .sref id l0 off len, cs => ∃ v, cs = [v] ∧ R (.sref id l0 off len) v
  | .ptr id l0 i off, cs => ∃ v, cs = [v] ∧ R (.ptr id l0 i off) v
  | .sp e off, cs => ∃ v, cs = [v] ∧ R (.sp e off) v
  | .nilp, cs => ∃ v, cs = [v] ∧ R .nilp v
  | .nils, cs => cs = [.slice none 0 0]
def CRl (R : PV → Value → Prop) : List PV → List Value → Prop
  | [], cs => cs = []
  | f :: fs, cs => ∃ v r, cs = v :: r ∧ CR R f [v] ∧ CRl R fs r
/-- Elements of data, one behind the other, in block `b` from cell `off` on. -/
def CRrow (z b : Nat) : Nat → List PV → Prop
  | _, [] => True
  | off, x :: xs => (∃ ecs, ecs.length = z ∧ CR (fun _ _ => False) x ecs ∧ ∀ j c, ecs[j]? = some c → w.cell? ⟨b, off + j, none⟩ = some c) ∧ CRrow z b (off + z) xs
end
end

theorem CR_mono {w w' : World} {S S' : Nat → Prop} (hS : ∀ b, S b → S' b) (hw : ∀ b, S b → w'.heap[b]? = w.heap[b]?) : ∀ (p : PV) (R R' : PV → Value → Prop) (cs : List Value),
    (∀ p v, R p v → R' p v) → CR w S R p cs → CR w' S' R' p cs := by
  intro p
  induction p using PV.rec (motive_2 := fun l => (∀ R R' cs, (∀ p v, R p v → R' p v) → CRl w S R l cs → CRl w' S' R' l cs) ∧ (∀ z b off, S b → CRrow w S z b off l → CRrow w' S' z b off l)) with
  | any => intro R R' cs _ h; exact h
  | int k n => intro R R' cs _ h; simpa only [CR] using h
  | bool b => intro R R' cs _ h; simpa only [CR] using h
  | str s => intro R R' cs _ h; simpa only [CR] using h
  | agg fs ih => intro R R' cs hR h; simp only [CR] at h ⊢; exact ih.1 R R' cs hR h
  | tup fs ih => intro R R' cs _ h; simp only [CR] at h
  | snap z xs ih =>
    intro R R' cs _ h
    simp only [CR] at h ⊢
    obtain ⟨a, cap, h1, h2, h3⟩ := h
    refine ⟨a, cap, h1, h2, ?_⟩
    rcases h3 with h3 | ⟨b, off, h4, h5, h6⟩
    · exact .inl h3
    · exact .inr ⟨b, off, h4, hS b h5, ih.2 z b off h5 h6⟩
  | sref id l0 off len => intro R R' cs hR h; simp only [CR] at h ⊢; obtain ⟨v, h1, h2⟩ := h; exact ⟨v, h1, hR _ _ h2⟩
  | ptr id l0 i off => intro R R' cs hR h; simp only [CR] at h ⊢; obtain ⟨v, h1, h2⟩ := h; exact ⟨v, h1, hR _ _ h2⟩
  | sp e off ih => intro R R' cs hR h; simp only [CR] at h ⊢; obtain ⟨v, h1, h2⟩ := h; exact ⟨v, h1, hR _ _ h2⟩
  | nilp => intro R R' cs hR h; simp only [CR] at h ⊢; obtain ⟨v, h1, h2⟩ := h; exact ⟨v, h1, hR _ _ h2⟩
  | nils => intro R R' cs _ h; simpa only [CR] using h
  | nil => exact ⟨fun R R' cs _ h => by simpa only [CRl] using h, fun z b off _ _ => by simp only [CRrow]⟩
  | cons f fs ihf ihs =>
    refine ⟨fun R R' cs hR h => ?_, fun z b off hb h => ?_⟩
    · simp only [CRl] at h ⊢
      obtain ⟨c1, c2, h1, h2, h3⟩ := h
      exact ⟨c1, c2, h1, ihf R R' _ hR h2, ihs.1 R R' c2 hR h3⟩
    · simp only [CRrow] at h ⊢
      obtain ⟨⟨ecs, h1, h2, h3⟩, h4⟩ := h
      exact ⟨⟨ecs, h1, ihf _ _ ecs (fun _ _ h => h) h2, fun j c hj => by rw [World.cell?_of_block (w := w) (hw b hb)]; exact h3 j c hj⟩, ihs.2 z b (off + z) hb h4⟩

end Go.PM

namespace Go.PM
open Go.RowKit

/-- A type, as far as the reading looks at it. -/
inductive TK where
  | int (k : IntKind) | bool | str | slice (e : Nat) | array (n e : Nat) | struct (fs : List (Nat × Nat)) | ptr (e : Nat) | other
  deriving DecidableEq
structure TyE where
  kind : TK
  size : Nat
  bytes : Nat
  zero : List PV

/-- What stays fixed: the program, the world whose first `gs` blocks (the package-level variables) are never written. -/
structure Base where
  P : Program
  W : World
  gs : Nat
  T : List (Option TyE)

/-- The machine's world beside the reading's memory: which block a key stands for, with how much room; which blocks are data that nobody writes. -/
structure St where
  w : World
  μ : Nat → Option (Nat × Nat)
  S : Nat → Prop
  H : Heap

/-- References. -/
def RR (s : St) : PV → Value → Prop
  | .sref id l0 off len, v => (∃ a m c, v = .slice a m c) ∧ ∃ blk, s.H.get id = some blk ∧ l0 ≤ blk.elems.length ∧ (blk.elems.length = l0 →
      ∃ b c a cap, s.μ id = some (b, c) ∧ v = .slice a len cap ∧ off + len ≤ l0 ∧ len ≤ cap ∧ off + cap = c ∧ (cap = 0 ∨ a = some ⟨b, off * blk.z, none⟩))
  | .ptr id l0 i off, v => (∃ a, v = .pointer a) ∧ ∃ blk, s.H.get id = some blk ∧ l0 ≤ blk.elems.length ∧ (blk.elems.length = l0 →
      ∃ b c, s.μ id = some (b, c) ∧ 0 < c ∧ v = .pointer (some ⟨b, i * blk.z + off, none⟩) ∧ i < l0)
  | .sp e off, v => ∃ b o ecs, v = .pointer (some ⟨b, o + off, none⟩) ∧ s.S b ∧ CR s.w s.S (fun _ _ => False) e ecs ∧ ∀ j c, ecs[j]? = some c → s.w.cell? ⟨b, o + j, none⟩ = some c
  | .nilp, v => v = .pointer none
  | _, _ => False

/-- What is asked of references in a block's elements. -/
def St.R (s : St) (data : Bool) : PV → Value → Prop := if data then fun _ _ => False else RR s

/-- One value that is no tuple. -/
def VR1 (s : St) : PV → Value → Prop
  | .any, _ => True
  | .agg fs, v => ∃ cs : Array Value, v = .agg cs ∧ CRl s.w s.S (RR s) fs cs.toList
  | p, v => CR s.w s.S (RR s) p [v]

def VRs (s : St) : List PV → List Value → Prop
  | [], us => us = []
  | p :: ps, us => ∃ u r, us = u :: r ∧ VR1 s p u ∧ VRs s ps r

def VR (s : St) : PV → Value → Prop
  | .tup ps, v => ∃ us : List Value, v = .tuple us.toArray ∧ VRs s ps us
  | p, v => VR1 s p v

end Go.PM

namespace Go.PM
open Go.RowKit

/-- The key of a block whose type is known. -/
def tk (t : Nat) : Nat := 1000000 + t

/-- A block's elements stand in the machine's block. -/
def BlkR (s : St) (id : Nat) (blk : Blk) (data : Bool) : Prop :=
  ∃ b c, s.μ id = some (b, c) ∧ blk.elems.length ≤ c ∧ (0 < c →
    (∃ cells ty fr, s.w.heap[b]? = some (.cells cells ty fr) ∧ cells.size = c * blk.z ∧ (blk.live = true → fr.1 < fr.2 → cells.size ≤ fr.1) ∧ ∀ t, id = tk t → ty = t) ∧
    (∀ i x, blk.elems[i]? = some x → ∃ ecs, ecs.length = blk.z ∧ CR s.w s.S (s.R data) x ecs ∧ ∀ j v, ecs[j]? = some v → s.w.cell? ⟨b, i * blk.z + j, none⟩ = some v) ∧
    (blk.live = true → ¬ s.S b) ∧ (blk.live = false → s.S b))

def St.liveImg (s : St) (b : Nat) : Prop := ∃ id blk c, s.H.get id = some blk ∧ blk.live = true ∧ s.μ id = some (b, c) ∧ 0 < c

structure St.ok (B : Base) (s : St) : Prop where
  lt : ∀ b, s.S b → b < s.w.heap.size
  blk : ∀ id blk, s.H.get id = some blk → BlkR s id blk blk.data
  inj : ∀ id id' blk blk' b c c', s.H.get id = some blk → s.H.get id' = some blk' → blk.live = true → blk'.live = true → s.μ id = some (b, c) → s.μ id' = some (b, c') → 0 < c → 0 < c' → id = id'
  glob : ∀ b, b < B.gs → s.S b ∧ s.w.heap[b]? = B.W.heap[b]?

structure Ext (s s' : St) : Prop where
  os : s'.w.os = s.w.os
  tape : s'.w.tape = s.w.tape
  output : s'.w.output = s.w.output
  size : s.w.heap.size ≤ s'.w.heap.size
  frame : ∀ b, b < s.w.heap.size → ¬ s.liveImg b → s'.w.heap[b]? = s.w.heap[b]?
  stab : ∀ b, s.S b → s'.S b
  prov : ∀ b, s'.S b → s.S b ∨ s.w.heap.size ≤ b ∨ s.liveImg b
  live : ∀ b, b < s.w.heap.size → s'.liveImg b → s.liveImg b
  ids : ∀ id blk, s.H.get id = some blk → ∃ blk', s'.H.get id = some blk' ∧ blk'.z = blk.z ∧ blk.elems.length ≤ blk'.elems.length ∧ (blk'.elems.length = blk.elems.length → s'.μ id = s.μ id)

theorem St.ok.not_live {B : Base} {s : St} (h : s.ok B) {b : Nat} (hb : s.S b) : ¬ s.liveImg b := by
  rintro ⟨id, blk, c, h1, h2, h3, h4⟩
  obtain ⟨b', c', h5, _, h6⟩ := h.blk id blk h1
  rw [h3] at h5
  obtain ⟨rfl, rfl⟩ : b = b' ∧ c = c' := by simpa using h5
  exact (h6 h4).2.2.1 h2 hb

theorem Ext.keep {B : Base} {s s' : St} (h : Ext s s') (ho : s.ok B) {b : Nat} (hb : s.S b) : s'.w.heap[b]? = s.w.heap[b]? :=
  h.frame b (ho.lt b hb) (ho.not_live hb)

theorem Ext.refl (s : St) : Ext s s := ⟨rfl, rfl, rfl, Nat.le_refl _, fun _ _ _ => rfl, fun _ h => h, fun _ h => .inl h, fun _ _ h => h, fun _ blk h => ⟨blk, h, rfl, Nat.le_refl _, fun _ => rfl⟩⟩

theorem Ext.trans {a b c : St} (h : Ext a b) (k : Ext b c) : Ext a c where
  os := k.os.trans h.os
  tape := k.tape.trans h.tape
  output := k.output.trans h.output
  size := Nat.le_trans h.size k.size
  frame x hx hl := (k.frame x (Nat.lt_of_lt_of_le hx h.size) (fun hb => hl (h.live x hx hb))).trans (h.frame x hx hl)
  stab x hx := k.stab x (h.stab x hx)
  prov x hx := by
    rcases k.prov x hx with h1 | h1 | h1
    · exact h.prov x h1
    · exact .inr (.inl (Nat.le_trans h.size h1))
    · by_cases hlt : x < a.w.heap.size
      · exact .inr (.inr (h.live x hlt h1))
      · exact .inr (.inl (by omega))
  live x hx hl := h.live x hx (k.live x (Nat.lt_of_lt_of_le hx h.size) hl)
  ids id blk hb := by
    obtain ⟨b1, h1, h2, h3, h4⟩ := h.ids id blk hb
    obtain ⟨b2, k1, k2, k3, k4⟩ := k.ids id b1 h1
    exact ⟨b2, k1, k2.trans h2, Nat.le_trans h3 k3, fun e => by rw [k4 (by omega), h4 (by omega)]⟩

theorem RR_ext {B : Base} {s s' : St} (h : Ext s s') (ho : s.ok B) : ∀ (p : PV) (v : Value), RR s p v → RR s' p v := by
  intro p v
  cases p with
  | sref id l0 off len =>
    rintro ⟨hv, blk, h1, h2, h3⟩
    obtain ⟨blk', k1, k2, k3, k4⟩ := h.ids id blk h1
    refine ⟨hv, blk', k1, by omega, fun e => ?_⟩
    rw [k4 (by omega), k2]
    exact h3 (by omega)
  | ptr id l0 i off =>
    rintro ⟨hv, blk, h1, h2, h3⟩
    obtain ⟨blk', k1, k2, k3, k4⟩ := h.ids id blk h1
    refine ⟨hv, blk', k1, by omega, fun e => ?_⟩
    rw [k4 (by omega), k2]
    exact h3 (by omega)
  | sp e off =>
    rintro ⟨b, o, ecs, h1, h2, h3, h4⟩
    exact ⟨b, o, ecs, h1, h.stab b h2, CR_mono h.stab (fun b hb => h.keep ho hb) _ _ _ _ (fun _ _ h => h) h3, fun j c hj => by rw [World.cell?_of_block (w := s.w) (h.keep ho h2)]; exact h4 j c hj⟩
  | nilp => exact fun h => h
  | _ => exact fun h => h.elim

theorem VR1_ext {B : Base} {s s' : St} (h : Ext s s') (ho : s.ok B) (p : PV) (v : Value) (hv : VR1 s p v) : VR1 s' p v := by
  have key : ∀ (p : PV) cs, CR s.w s.S (RR s) p cs → CR s'.w s'.S (RR s') p cs := fun p cs hc => CR_mono h.stab (fun b hb => h.keep ho hb) p _ _ cs (fun p v => RR_ext h ho p v) hc
  cases p with
  | any => trivial
  | agg fs =>
    obtain ⟨cs, h1, h2⟩ := hv
    exact ⟨cs, h1, by simpa only [CR] using key (.agg fs) cs.toList (by simpa only [CR] using h2)⟩
  | _ => exact key _ _ hv

theorem VRs_ext {B : Base} {s s' : St} (h : Ext s s') (ho : s.ok B) : ∀ (ps : List PV) (us : List Value), VRs s ps us → VRs s' ps us
  | [], _, hv => hv
  | _ :: ps, _, ⟨u, r, h1, h2, h3⟩ => ⟨u, r, h1, VR1_ext h ho _ _ h2, VRs_ext h ho ps r h3⟩

theorem VR_ext {B : Base} {s s' : St} (h : Ext s s') (ho : s.ok B) (p : PV) (v : Value) (hv : VR s p v) : VR s' p v := by
  cases p with
  | tup ps => obtain ⟨us, h1, h2⟩ := hv; exact ⟨us, h1, VRs_ext h ho ps us h2⟩
  | _ => simp only [VR] at hv ⊢; exact VR1_ext h ho _ _ hv

end Go.PM
/- What one operation does to the small reading of the program: the judgement, and the operations that only compute. -/
namespace Go.PM
open Go.RowKit

/-! ### types -/
def zeroOk : PV → Value → Bool
  | .int k n, .int k' n' => k == k' && n == n'
  | .bool b, .bool b' => b == b'
  | .str [], .string s => s.data.isEmpty
  | .nils, .slice none 0 0 => true
  | .nilp, .pointer none => true
  | _, _ => false

def zerosOk : List PV → List Value → Bool
  | [], [] => true
  | p :: ps, v :: vs => zeroOk p v && zerosOk ps vs
  | _, _ => false

def TyE.isAgg (e : TyE) : Bool := match e.kind with | .struct _ | .array _ _ => true | _ => false

def kindOk : TK → TypeDesc → Bool
  | .int k, .int k' => k == k'
  | .bool, .bool => true
  | .str, .string => true
  | .slice e, .slice e' => e == e'
  | .array n e, .array n' e' => n == n' && e == e'
  | .struct fs, .struct fs' => fs == fs'.toList.map fun f => (f.offset, f.type)
  | .ptr e, .pointer e' => e == e'
  | .other, d => match d with | .struct _ | .array _ _ => false | _ => true
  | _, _ => false

def tyOk (P : Program) (t : Nat) (e : TyE) : Bool :=
  match P.info? t, P.underlying t with
  | some i, some d => i.size == e.size && i.bytes == e.bytes && kindOk e.kind d &&
      (match i.zero with
       | some z => (e.zero.isEmpty || zerosOk e.zero z.cells.toList) && ((match z with | .agg _ => true | _ => false) == e.isAgg)
       | none => false)
  | _, _ => false

def Base.good (B : Base) : Prop := B.P.follows .mixedOrders = true ∧ ∀ t e, B.T[t]? = some (some e) → tyOk B.P t e = true

structure Ty (P : Program) (t : Nat) (e : TyE) : Prop where
  ok : ∃ i d z, P.info? t = some i ∧ P.underlying t = some d ∧ i.size = e.size ∧ i.bytes = e.bytes ∧ kindOk e.kind d = true ∧ i.zero = some z ∧
    (e.zero = [] ∨ zerosOk e.zero z.cells.toList = true) ∧ ((match z with | .agg _ => true | _ => false) = e.isAgg)

theorem Base.good.ty {B : Base} (h : B.good) {t : Nat} {e : TyE} (ht : B.T[t]? = some (some e)) : Ty B.P t e := by
  have h := h.2 t e ht
  unfold tyOk at h
  split at h
  · rename_i i d hi hd
    simp only [Bool.and_eq_true, beq_iff_eq] at h
    obtain ⟨⟨⟨h1, h2⟩, h3⟩, h4⟩ := h
    split at h4
    · rename_i z hz
      simp only [Bool.and_eq_true, Bool.or_eq_true, beq_iff_eq, List.isEmpty_iff] at h4
      exact ⟨i, d, z, hi, hd, h1, h2, h3, hz, h4.1, h4.2⟩
    · cases h4
  · cases h

/-! ### environments -/
def constPV : Value → PV
  | .int k n => .int k n
  | .bool b => .bool b
  | .string s => .str s.data.toList
  | .slice none 0 0 => .nils
  | .pointer none => .nilp
  | _ => .any

def Env.ev (e : Env) : Operand → PV
  | .tmp t => e.get t
  | .const v => constPV v
  | _ => .any

def Env.put (e : Env) : Option Nat → PV → Env
  | some d, v => (d, v) :: e
  | none, _ => e

structure EnvR (s : St) (N : Nat) (env : Env) (tmps : Array Value) : Prop where
  size : tmps.size = N
  get : ∀ t, VR s (env.get t) (tmps.getD t undef)

def St.has (s : St) (H : Heap) : Prop := ∀ k, s.H.get k = H.get k

theorem VR_const (s : St) (v : Value) : VR s (constPV v) v := by
  unfold constPV
  split <;> simp [VR, VR1, CR, RR]

theorem EnvR.ev {s : St} {N : Nat} {env : Env} {a : Act} (h : EnvR s N env a.tmps) (x : Operand) : VR s (env.ev x) (a.eval x) := by
  cases x with
  | tmp t => exact h.get t
  | const v => exact VR_const s v
  | global g => trivial
  | func f => trivial

theorem VR_undef (s : St) (v : Value) : VR s .any v := trivial

theorem EnvR.put {s : St} {N : Nat} {env : Env} {a : Act} (h : EnvR s N env a.tmps) {d : Option Nat} {p : PV} {v : Value} (hd : ∀ k, d = some k → k < N) (hv : VR s p v) : EnvR s N (env.put d p) (a.put d v).tmps := by
  cases d with
  | none => exact h
  | some k =>
    have hk := hd k rfl
    refine ⟨by simpa [Act.put] using h.size, fun t => ?_⟩
    have hs := h.size
    simp only [Env.put, Env.get, Act.put]
    by_cases e : k = t
    · subst e
      simp only [if_true]
      rw [Array.getD_eq_getD_getElem?, Array.getElem?_setIfInBounds_self_of_lt (by omega)]
      exact hv
    · rw [if_neg e, Array.getD_eq_getD_getElem?, Array.getElem?_setIfInBounds_ne e, ← Array.getD_eq_getD_getElem?]
      exact h.get t

theorem EnvR.ext {B : Base} {s s' : St} {N : Nat} {env : Env} {tmps : Array Value} (h : EnvR s N env tmps) (ho : s.ok B) (hx : Ext s s') : EnvR s' N env tmps :=
  ⟨h.size, fun t => VR_ext hx ho _ _ (h.get t)⟩

/-! ### the judgement on one operation -/
/-- What the operation yields. -/
def Yields (P : Program) (o : Oper) (a : Act) (w : World) (K : Value → World → Prop) : Prop :=
  match (execOp a.eval o).run P w with
  | .ok (.value v) w' => K v w'
  | .ok .skip w' => K undef w'
  | .ok (.enter f args) w' => Calls P f args w' fun e w'' => ∃ v, e = .returned v ∧ K v w''
  | _ => False

theorem Yields.mono {P : Program} {o : Oper} {a : Act} {w : World} {K K' : Value → World → Prop} (h : Yields P o a w K) (hk : ∀ v w, K v w → K' v w) : Yields P o a w K' := by
  unfold Yields at *
  split <;> simp_all
  exact h.mono fun e w' ⟨v, h1, h2⟩ => ⟨v, h1, hk v w' h2⟩

theorem Yields.wp {P : Program} {o : Oper} {a : Act} {w : World} {K : Value → World → Prop} {next : Act → World → Prop} {Q : Exit → Act → World → Prop} (h : Yields P o a w K) (hk : ∀ v w, K v w → next (a.put o.dst v) w) : o.wp P a w next Q := by
  unfold Yields at h
  unfold Oper.wp Oper.upon
  generalize (execOp a.eval o).run P w = r at *
  cases r with
  | ok n w' =>
    cases n <;> simp only at h ⊢ <;> first | exact hk _ _ h | exact h.elim | skip
    exact h.mono fun e w'' ⟨v, h1, h2⟩ => by subst h1; exact hk _ _ h2
  | halt x w' => exact h.elim

/-- Whatever stands for (env, H), the operation yields something that stands for what K says. -/
def OpW (B : Base) (o : Oper) (env : Env) (H : Heap) (K : PV → Heap → Prop) : Prop :=
  ∀ (s : St) (a : Act) (N : Nat), s.ok B → s.has H → EnvR s N env a.tmps →
    Yields B.P o a s.w fun v w' => ∃ s' p H', s'.w = w' ∧ s'.ok B ∧ Ext s s' ∧ VR s' p v ∧ s'.has H' ∧ K p H'

/-- The operation's exact and local effect: it looks at its operands and at the blocks `rd` alone. -/
def OpD (B : Base) (o : Oper) (env : Env) (rd : List Nat) (H : Heap) (p : PV) (δ : Heap) : Prop :=
  ∀ (env' : Env) (H' : Heap), (∀ x ∈ o.op.operands, env'.ev x = env.ev x) → (∀ k ∈ rd, H'.get k = H.get k) → OpW B o env' H' fun p' H'' => p' = p ∧ H'' = δ ++ H'

theorem OpD.w {B : Base} {o : Oper} {env : Env} {rd : List Nat} {H : Heap} {p : PV} {δ : Heap} (h : OpD B o env rd H p δ) : OpW B o env H fun p' H'' => p' = p ∧ H'' = δ ++ H :=
  h env H (fun _ _ => rfl) (fun _ _ => rfl)

/-- An operation that leaves the world alone. -/
theorem opw_quiet {B : Base} {o : Oper} {env : Env} {H : Heap} {p : PV} (h : ∀ (s : St) (a : Act) (N : Nat), s.ok B → s.has H → EnvR s N env a.tmps → ∃ v, (execOp a.eval o).run B.P s.w = .ok (.value v) s.w ∧ VR s p v) :
    OpW B o env H fun p' H'' => p' = p ∧ H'' = [] ++ H := by
  intro s a N ho hH hE
  obtain ⟨v, h1, h2⟩ := h s a N ho hH hE
  unfold Yields
  rw [h1]
  exact ⟨s, p, H, rfl, ho, Ext.refl s, h2, hH, rfl, rfl⟩

/-- The same of an operation that asks no block. -/
theorem opd_pure {B : Base} {o : Oper} {env : Env} {H : Heap} {p : PV} (h : ∀ (s : St) (a : Act), s.ok B → (∀ x ∈ o.op.operands, VR s (env.ev x) (a.eval x)) → ∃ v, (execOp a.eval o).run B.P s.w = .ok (.value v) s.w ∧ VR s p v) :
    OpD B o env [] H p [] := by
  intro env' H' he _
  exact opw_quiet fun s a N ho _ hE => h s a ho fun x hx => by rw [← he x hx]; exact hE.ev x

end Go.PM
/- The operations that only compute: each one's effect on the small reading. -/
namespace Go.PM
open Go.RowKit

section inv
variable {s : St} {v : Value}
@[simp] theorem VR_int {k : IntKind} {n : Int} : VR s (.int k n) v ↔ v = .int k n := by simp [VR, VR1, CR]
@[simp] theorem VR_bool {b : Bool} : VR s (.bool b) v ↔ v = .bool b := by simp [VR, VR1, CR]
@[simp] theorem VR_str {l : List UInt8} : VR s (.str l) v ↔ v = .string ⟨l.toArray⟩ := by simp [VR, VR1, CR]
@[simp] theorem VR_nils : VR s .nils v ↔ v = .slice none 0 0 := by simp [VR, VR1, CR]
@[simp] theorem VR_nilp : VR s .nilp v ↔ v = .pointer none := by simp [VR, VR1, CR, RR]
@[simp] theorem VR_any : VR s .any v ↔ True := by simp [VR, VR1]
theorem VR_agg {fs : List PV} : VR s (.agg fs) v ↔ ∃ cs : Array Value, v = .agg cs ∧ CRl s.w s.S (RR s) fs cs.toList := Iff.rfl
theorem VR_tup {ps : List PV} : VR s (.tup ps) v ↔ ∃ us : List Value, v = .tuple us.toArray ∧ VRs s ps us := Iff.rfl
theorem VR_ptr {id l0 i off : Nat} : VR s (.ptr id l0 i off) v ↔ RR s (.ptr id l0 i off) v := by simp [VR, VR1, CR]
theorem VR_sp {e : PV} {off : Nat} : VR s (.sp e off) v ↔ RR s (.sp e off) v := by simp [VR, VR1, CR]
theorem VR_sref {id l0 off len : Nat} : VR s (.sref id l0 off len) v ↔ RR s (.sref id l0 off len) v := by simp [VR, VR1, CR]
end inv

theorem CRl_length {w : World} {S : Nat → Prop} {R : PV → Value → Prop} : ∀ {fs : List PV} {cs : List Value}, CRl w S R fs cs → cs.length = fs.length
  | [], _, h => by simp only [CRl] at h; simp [h]
  | f :: fs, _, h => by
    simp only [CRl] at h
    obtain ⟨v, r, rfl, _, h⟩ := h
    simp [CRl_length h]

theorem CRl_get {w : World} {S : Nat → Prop} {R : PV → Value → Prop} : ∀ {fs : List PV} {cs : List Value}, CRl w S R fs cs → ∀ {j : Nat} {f : PV}, fs[j]? = some f → ∃ v, cs[j]? = some v ∧ CR w S R f [v]
  | [], _, _, _, _, hj => by simp at hj
  | f :: fs, _, h, j, g, hj => by
    simp only [CRl] at h
    obtain ⟨v, r, rfl, h1, h⟩ := h
    cases j with
    | zero => obtain rfl : f = g := by simpa using hj
              exact ⟨v, by simp, h1⟩
    | succ j => obtain ⟨u, h2, h3⟩ := CRl_get h (j := j) (by simpa using hj)
                exact ⟨u, by simpa using h2, h3⟩

theorem CRl_of {w : World} {S : Nat → Prop} {R : PV → Value → Prop} : ∀ {fs : List PV} {cs : List Value}, cs.length = fs.length → (∀ (j : Nat) (f : PV) (v : Value), fs[j]? = some f → cs[j]? = some v → CR w S R f [v]) → CRl w S R fs cs
  | [], cs, h, _ => by simp only [CRl]; simpa using h
  | f :: fs, [], h, _ => by simp at h
  | f :: fs, c :: cs, h, hg => by
    simp only [CRl]
    exact ⟨c, cs, rfl, hg 0 f c (by simp) (by simp), CRl_of (by simpa using h) fun j g v h1 h2 => hg (j + 1) g v (by simpa using h1) (by simpa using h2)⟩

/-- A value that is one cell. -/
def PV.scal : PV → Bool
  | .agg _ | .tup _ | .any => false
  | _ => true

theorem VR_of_CR {s : St} {p : PV} {v : Value} (hp : p.scal = true) (h : CR s.w s.S (RR s) p [v]) : VR s p v := by
  cases p <;> first | (simp [PV.scal] at hp; done) | simpa only [VR, VR1] using h

theorem CR_of_VR {s : St} {p : PV} {v : Value} (hp : p.scal = true) (h : VR s p v) : CR s.w s.S (RR s) p [v] := by
  cases p <;> first | (simp [PV.scal] at hp; done) | simpa only [VR, VR1] using h

section ops
variable {B : Base} {d : Option Nat} {ty : TypeId} {ps : String} {af : Array Edge} {g : Option (Nat × Bool)} {env : Env} {H : Heap}

theorem od_move {x : Operand} {p : PV} (hx : env.ev x = p) : OpD B ⟨d, .move x, ty, ps, af, g⟩ env [] H p [] :=
  opd_pure fun s a _ h => ⟨_, rfl, hx ▸ h x (by simp [Op.operands])⟩

theorem od_assign {x : Operand} {p : PV} (hx : env.ev x = p) : OpD B ⟨d, .assign x, ty, ps, af, g⟩ env [] H p [] :=
  opd_pure fun s a _ h => ⟨_, rfl, hx ▸ h x (by simp [Op.operands])⟩

theorem od_pick_true {c x y : Operand} {p : PV} (hc : env.ev c = .bool true) (hx : env.ev x = p) : OpD B ⟨d, .pick c x y, ty, ps, af, g⟩ env [] H p [] :=
  opd_pure fun s a _ h => by
    have h1 := h c (by simp [Op.operands])
    rw [hc] at h1
    exact ⟨a.eval x, by simp [execOp, VR_bool.1 h1, asBool], hx ▸ h x (by simp [Op.operands])⟩

theorem od_pick_false {c x y : Operand} {p : PV} (hc : env.ev c = .bool false) (hy : env.ev y = p) : OpD B ⟨d, .pick c x y, ty, ps, af, g⟩ env [] H p [] :=
  opd_pure fun s a _ h => by
    have h1 := h c (by simp [Op.operands])
    rw [hc] at h1
    exact ⟨a.eval y, by simp [execOp, VR_bool.1 h1, asBool], hy ▸ h y (by simp [Op.operands])⟩

theorem od_not {t : TypeId} {x : Operand} {b : Bool} (hx : env.ev x = .bool b) : OpD B ⟨d, .unOp .not t x, ty, ps, af, g⟩ env [] H (.bool !b) [] :=
  opd_pure fun s a _ h => by
    have h1 := h x (by simp [Op.operands])
    rw [hx] at h1
    exact ⟨_, by simp [execOp, VR_bool.1 h1, Op.unary], VR_bool.2 rfl⟩

theorem od_neg {t : TypeId} {x : Operand} {k : IntKind} {n : Int} (hx : env.ev x = .int k n) : OpD B ⟨d, .unOp .neg t x, ty, ps, af, g⟩ env [] H (.int k (k.wrap (0 - n))) [] :=
  opd_pure fun s a _ h => by
    have h1 := h x (by simp [Op.operands])
    rw [hx] at h1
    exact ⟨_, by simp [execOp, VR_int.1 h1, Op.unary, Op.intArith], VR_int.2 rfl⟩

/-- The value of an operation on two whole numbers. -/
def binInt (op : BinOp) (k : IntKind) (x y : Int) : Option PV :=
  match op with
  | .add => some (.int k (k.wrap (x + y)))
  | .sub => some (.int k (k.wrap (x - y)))
  | .mul => some (.int k (k.wrap (x * y)))
  | .and => some (.int k (bits .and k x y))
  | .or => some (.int k (bits .or k x y))
  | .xor => some (.int k (bits .xor k x y))
  | .eql => some (.bool (x == y))
  | .neq => some (.bool (x != y))
  | .lss => some (.bool (decide (x < y)))
  | .leq => some (.bool (decide (x ≤ y)))
  | .gtr => some (.bool (decide (x > y)))
  | .geq => some (.bool (decide (x ≥ y)))
  | _ => none

theorem od_bin {op : BinOp} {t t' : TypeId} {x y : Operand} {k : IntKind} {m n : Int} {p : PV} (hx : env.ev x = .int k m) (hy : env.ev y = .int k n) (hp : binInt op k m n = some p) :
    OpD B ⟨d, .binOp op t x y t', ty, ps, af, g⟩ env [] H p [] :=
  opd_pure fun s a _ h => by
    have h1 := h x (by simp [Op.operands])
    have h2 := h y (by simp [Op.operands])
    rw [hx] at h1
    rw [hy] at h2
    have e1 := VR_int.1 h1
    have e2 := VR_int.1 h2
    cases op <;> simp only [binInt, Option.some.injEq, reduceCtorEq] at hp <;> subst hp <;>
      (refine ⟨_, by simp only [execOp, e1, e2, eqGuard_at_int, binOp_add, binOp_sub, binOp_mul, binOp_and, binOp_or, binOp_xor, binOp_eql, binOp_neq, binOp_lss, binOp_leq, binOp_gtr, binOp_geq, Op.intArith, intBits_and, intBits_or, intBits_xor, Sem.run_bind, Sem.run_pure, Result.andThen_ok]; rfl, ?_⟩; first | exact VR_int.2 rfl | exact VR_bool.2 rfl)

theorem od_quo {t t' : TypeId} {x y : Operand} {k : IntKind} {m n : Int} (hx : env.ev x = .int k m) (hy : env.ev y = .int k n) (hn : n ≠ 0) :
    OpD B ⟨d, .binOp .quo t x y t', ty, ps, af, g⟩ env [] H (.int k (k.wrap (m.tdiv n))) [] :=
  opd_pure fun s a _ h => by
    have h1 := h x (by simp [Op.operands])
    have h2 := h y (by simp [Op.operands])
    rw [hx] at h1
    rw [hy] at h2
    exact ⟨_, by simp [execOp, VR_int.1 h1, VR_int.1 h2, Op.intDiv, hn, binOp_quo, eqGuard_quo], VR_int.2 rfl⟩

theorem od_rem {t t' : TypeId} {x y : Operand} {k : IntKind} {m n : Int} (hx : env.ev x = .int k m) (hy : env.ev y = .int k n) (hn : n ≠ 0) :
    OpD B ⟨d, .binOp .rem t x y t', ty, ps, af, g⟩ env [] H (.int k (m.tmod n)) [] :=
  opd_pure fun s a _ h => by
    have h1 := h x (by simp [Op.operands])
    have h2 := h y (by simp [Op.operands])
    rw [hx] at h1
    rw [hy] at h2
    exact ⟨_, by simp [execOp, VR_int.1 h1, VR_int.1 h2, Op.intDiv, hn, binOp_rem, eqGuard_rem], VR_int.2 rfl⟩

theorem od_eqb {t t' : TypeId} {x y : Operand} {m n : Bool} (hT : B.good) {e : TyE} (ht : B.T[t]? = some (some e)) (hk : e.kind = .bool) (hx : env.ev x = .bool m) (hy : env.ev y = .bool n) :
    OpD B ⟨d, .binOp .eql t x y t', ty, ps, af, g⟩ env [] H (.bool (m == n)) [] :=
  opd_pure fun s a _ h => by
    have h1 := h x (by simp [Op.operands])
    have h2 := h y (by simp [Op.operands])
    rw [hx] at h1
    rw [hy] at h2
    obtain ⟨i, dd, z, _, hu, _, _, hkk, _⟩ := (hT.ty ht).ok
    rw [hk] at hkk
    obtain rfl : dd = .bool := by cases dd <;> simp [kindOk] at hkk <;> rfl
    exact ⟨_, by simp [execOp, VR_bool.1 h1, VR_bool.1 h2, eqGuard_at_bool, binOp, Op.equal, Op.maxDepth, run_equalIn_bool' s.w _ _ _ _ hu], VR_bool.2 rfl⟩

theorem od_neb {t t' : TypeId} {x y : Operand} {m n : Bool} (hT : B.good) {e : TyE} (ht : B.T[t]? = some (some e)) (hk : e.kind = .bool) (hx : env.ev x = .bool m) (hy : env.ev y = .bool n) :
    OpD B ⟨d, .binOp .neq t x y t', ty, ps, af, g⟩ env [] H (.bool (!(m == n))) [] :=
  opd_pure fun s a _ h => by
    have h1 := h x (by simp [Op.operands])
    have h2 := h y (by simp [Op.operands])
    rw [hx] at h1
    rw [hy] at h2
    obtain ⟨i, dd, z, _, hu, _, _, hkk, _⟩ := (hT.ty ht).ok
    rw [hk] at hkk
    obtain rfl : dd = .bool := by cases dd <;> simp [kindOk] at hkk <;> rfl
    exact ⟨_, by simp [execOp, VR_bool.1 h1, VR_bool.1 h2, eqGuard_at_bool, binOp, Op.equal, Op.maxDepth, run_equalIn_bool' s.w _ _ _ _ hu], VR_bool.2 rfl⟩

/-- The value of an operation on two strings. -/
def binStr (op : BinOp) (x y : List UInt8) : Option PV :=
  match op with
  | .eql => some (.bool (x == y))
  | .neq => some (.bool (!(x == y)))
  | .lss => some (.bool (Op.bytesLess x y))
  | _ => none

theorem toList_mk (l : List UInt8) : (⟨l.toArray⟩ : ByteArray).toList = l := by
  rw [ByteArray.toList_eq]

theorem od_strs {op : BinOp} {t t' : TypeId} {x y : Operand} {m n : List UInt8} {p : PV} (hx : env.ev x = .str m) (hy : env.ev y = .str n) (hp : binStr op m n = some p) :
    OpD B ⟨d, .binOp op t x y t', ty, ps, af, g⟩ env [] H p [] :=
  opd_pure fun s a _ h => by
    have h1 := h x (by simp [Op.operands])
    have h2 := h y (by simp [Op.operands])
    rw [hx] at h1
    rw [hy] at h2
    have e1 := VR_str.1 h1
    have e2 := VR_str.1 h2
    cases op <;> simp only [binStr, Option.some.injEq, reduceCtorEq] at hp <;> subst hp <;>
      exact ⟨_, by simp only [execOp, e1, e2, eqGuard_at_string, binOp, Op.stringOp, toList_mk, Sem.run_bind, Sem.run_pure, Result.andThen_ok], VR_bool.2 rfl⟩

theorem od_cat {t t' : TypeId} {x y : Operand} {m n : List UInt8} (hx : env.ev x = .str m) (hy : env.ev y = .str n) (hl : m.length + n.length ≤ 9223372036854775807) :
    OpD B ⟨d, .binOp .add t x y t', ty, ps, af, g⟩ env [] H (.str (m ++ n)) [] :=
  opd_pure fun s a _ h => by
    have h1 := h x (by simp [Op.operands])
    have h2 := h y (by simp [Op.operands])
    rw [hx] at h1
    rw [hy] at h2
    have hz : ¬ ((((⟨m.toArray⟩ : ByteArray).size + (⟨n.toArray⟩ : ByteArray).size : Nat) : Int) > IntKind.i64.max) := by
      simp [ByteArray.size]; omega
    refine ⟨.string (⟨m.toArray⟩ ++ ⟨n.toArray⟩), by simp only [execOp, VR_str.1 h1, VR_str.1 h2, eqGuard_at_string, binOp, Op.stringOp, if_neg hz, Sem.run_bind, Sem.run_pure, Result.andThen_ok], VR_str.2 ?_⟩
    congr 1

theorem od_conv {t t' : TypeId} {x : Operand} {k k' : IntKind} {n : Int} (hT : B.good) {e e' : TyE} (ht : B.T[t]? = some (some e)) (ht' : B.T[t']? = some (some e')) (hk : e'.kind = .int k') (hx : env.ev x = .int k n) :
    OpD B ⟨d, .convert t t' x, ty, ps, af, g⟩ env [] H (.int k' (k'.wrap n)) [] :=
  opd_pure fun s a _ h => by
    have h1 := h x (by simp [Op.operands])
    rw [hx] at h1
    obtain ⟨i, dd, z, _, hu, _⟩ := (hT.ty ht).ok
    obtain ⟨i', dd', z', _, hu', _, _, hkk, _⟩ := (hT.ty ht').ok
    rw [hk] at hkk
    obtain rfl : dd' = .int k' := by cases dd' <;> simp [kindOk] at hkk; simp [hkk]
    have hd : B.P.underlying t' = some (.int (B.P.intKind t')) := by simp [Program.intKind, hu']
    have hkk' : B.P.intKind t' = k' := by simp [Program.intKind, hu']
    have := run_convert_int (P := B.P) s.w t t' k n (by simp [hu]) hd
    rw [hkk'] at this
    exact ⟨_, by simp only [execOp, VR_int.1 h1, Sem.run_bind, this, Sem.run_pure, Result.andThen_ok], VR_int.2 rfl⟩

theorem od_nilCheck_ptr {x : Operand} {id l0 i off : Nat} {blk : Blk} (hx : env.ev x = .ptr id l0 i off) (hb : H.get id = some blk) (hl : blk.elems.length = l0) : OpD B ⟨d, .nilCheck x, ty, ps, af, g⟩ env [id] H (.ptr id l0 i off) [] := by
  intro env' H' he hr
  refine opw_quiet fun s a N ho hH hE => ?_
  have h1 := hE.ev x
  rw [he x (by simp [Op.operands]), hx] at h1
  obtain ⟨_, blk', h2, h3, h4⟩ := VR_ptr.1 h1
  rw [hH, hr id (by simp), hb] at h2
  obtain rfl : blk = blk' := by simpa using h2
  obtain ⟨b, c, _, _, h5, _⟩ := h4 hl
  exact ⟨a.eval x, by simp [execOp, h5], h1⟩

theorem od_nilCheck_sp {x : Operand} {e : PV} {off : Nat} (hx : env.ev x = .sp e off) : OpD B ⟨d, .nilCheck x, ty, ps, af, g⟩ env [] H (.sp e off) [] :=
  opd_pure fun s a _ h => by
    have h1 := h x (by simp [Op.operands])
    rw [hx] at h1
    have h2 := VR_sp.1 h1
    obtain ⟨b, o, ecs, h3, _⟩ := h2
    exact ⟨a.eval x, by simp [execOp, h3], h1⟩

theorem od_extract {x : Operand} {i : Nat} {fs : List PV} {p : PV} (hx : env.ev x = .tup fs) (hp : fs[i]? = some p) (hs : p.scal = true ∨ (∃ cs, p = .agg cs) ∨ p = .any) : OpD B ⟨d, .extract x i, ty, ps, af, g⟩ env [] H p [] :=
  opd_pure fun s a _ h => by
    have h1 := h x (by simp [Op.operands])
    rw [hx] at h1
    obtain ⟨us, h2, h3⟩ := VR_tup.1 h1
    have key : ∀ (fs : List PV) (us : List Value) (i : Nat), VRs s fs us → fs[i]? = some p → ∃ u, us[i]? = some u ∧ VR1 s p u := by
      intro fs
      induction fs with
      | nil => intro us i _ h; simp at h
      | cons f fs ih =>
        rintro us i ⟨u, r, rfl, h4, h5⟩ h
        cases i with
        | zero => obtain rfl : f = p := by simpa using h
                  exact ⟨u, by simp, h4⟩
        | succ i => simpa using ih r i h5 (by simpa using h)
    obtain ⟨u, h4, h5⟩ := key fs us i h3 hp
    refine ⟨u, by simp [execOp, h2, Instr.extract, h4], ?_⟩
    rcases hs with hs | ⟨cs, rfl⟩ | rfl
    · cases p <;> first | (simp [PV.scal] at hs; done) | exact h5
    · exact h5
    · trivial

end ops
end Go.PM
/- The operations that read memory, or take an aggregate apart. -/
namespace Go.PM
open Go.RowKit

def PV.cells : PV → List PV
  | .agg cs => cs
  | p => [p]

theorem CR_cells {w : World} {S : Nat → Prop} {R : PV → Value → Prop} {p : PV} {cs : List Value} : CR w S R p cs → CRl w S R p.cells cs := by
  intro h
  cases p with
  | agg fs => simpa only [CR, PV.cells] using h
  | tup => simp only [CR] at h
  | any => simp only [CR] at h
  | _ =>
    have : ∃ v, cs = [v] := by
      simp only [CR] at h
      first
        | exact ⟨_, h⟩
        | exact ⟨h.choose, h.choose_spec.1⟩
        | (obtain ⟨a, cap, h1, _⟩ := h; exact ⟨_, h1⟩)
    obtain ⟨v, rfl⟩ := this
    simp only [PV.cells, CRl]
    exact ⟨v, [], rfl, h, rfl⟩

theorem CR_of_cells {w : World} {S : Nat → Prop} {R : PV → Value → Prop} {p : PV} {cs : List Value} (h : CRl w S R p.cells cs) : CR w S R p cs := by
  cases p with
  | agg fs => simpa only [CR, PV.cells] using h
  | _ =>
    simp only [PV.cells, CRl] at h
    obtain ⟨v, r, rfl, h1, rfl⟩ := h
    exact h1

theorem CR_length {w : World} {S : Nat → Prop} {R : PV → Value → Prop} {p : PV} {cs : List Value} (h : CR w S R p cs) : cs.length = p.cells.length := CRl_length (CR_cells h)

theorem CR_R {w : World} {S : Nat → Prop} {R R' : PV → Value → Prop} (hR : ∀ p v, R p v → R' p v) {p : PV} {cs : List Value} (h : CR w S R p cs) : CR w S R' p cs :=
  CR_mono (fun _ h => h) (fun _ _ => rfl) p R R' cs hR h

theorem CRl_sub {w : World} {S : Nat → Prop} {R : PV → Value → Prop} {fs : List PV} {cs : List Value} (h : CRl w S R fs cs) (o n : Nat) : CRl w S R ((fs.drop o).take n) ((cs.drop o).take n) := by
  have hl := CRl_length h
  refine CRl_of (by simp [hl]) fun j f v h1 h2 => ?_
  rw [List.getElem?_take] at h1 h2
  split at h1 <;> simp_all
  obtain ⟨u, h3, h4⟩ := CRl_get h h1
  rw [h2] at h3
  obtain rfl : v = u := by simpa using h3
  exact h4

/-- What a type's read yields of cells from an offset on. -/
def subP (e : TyE) (cs : List PV) (off : Nat) : Option PV :=
  if e.isAgg then (if off + e.size ≤ cs.length then some (.agg ((cs.drop off).take e.size)) else none)
  else match cs[off]? with
    | some p => if p.scal then some p else none
    | none => none

theorem Ty.agg {P : Program} {t : TypeId} {e : TyE} (h : Ty P t e) (w : World) : (isAgg t).run P w = .ok e.isAgg w := by
  obtain ⟨i, d, z, _, hu, _, _, hk, _⟩ := h.ok
  unfold isAgg
  rw [Sem.run_bind, run_underlying hu w]
  unfold TyE.isAgg
  cases hkk : e.kind <;> cases d <;> simp_all [kindOk]

theorem Ty.size {P : Program} {t : TypeId} {e : TyE} (h : Ty P t e) (w : World) : (sizeOf t).run P w = .ok e.size w := by
  obtain ⟨i, d, z, hi, _, hs, _⟩ := h.ok
  simp [sizeOf, typeInfo, hi, hs]

theorem Ty.info {P : Program} {t : TypeId} {e : TyE} (h : Ty P t e) : ∃ i, P.info? t = some i ∧ i.size = e.size ∧ i.bytes = e.bytes := by
  obtain ⟨i, d, z, hi, _, hs, hb, _⟩ := h.ok
  exact ⟨i, hi, hs, hb⟩

theorem Ty.slice {P : Program} {t : TypeId} {e : TyE} (h : Ty P t e) {x : Nat} (hk : e.kind = .slice x) : P.underlying t = some (.slice x) := by
  obtain ⟨i, d, z, _, hu, _, _, hkk, _⟩ := h.ok
  rw [hk] at hkk
  cases d <;> simp [kindOk] at hkk
  rw [hu, hkk]

theorem Ty.array {P : Program} {t : TypeId} {e : TyE} (h : Ty P t e) {n x : Nat} (hk : e.kind = .array n x) : P.underlying t = some (.array n x) := by
  obtain ⟨i, d, z, _, hu, _, _, hkk, _⟩ := h.ok
  rw [hk] at hkk
  cases d <;> simp [kindOk] at hkk
  rw [hu, hkk.1, hkk.2]

theorem Ty.str {P : Program} {t : TypeId} {e : TyE} (h : Ty P t e) (hk : e.kind = .str) : P.underlying t = some .string := by
  obtain ⟨i, d, z, _, hu, _, _, hkk, _⟩ := h.ok
  rw [hk] at hkk
  cases d <;> simp [kindOk] at hkk
  exact hu

theorem Ty.struct {P : Program} {t : TypeId} {e : TyE} (h : Ty P t e) {fs : List (Nat × Nat)} (hk : e.kind = .struct fs) : ∃ fields, P.underlying t = some (.struct fields) ∧ fs = fields.toList.map fun f => (f.offset, f.type) := by
  obtain ⟨i, d, z, _, hu, _, _, hkk, _⟩ := h.ok
  rw [hk] at hkk
  cases d <;> simp [kindOk] at hkk
  exact ⟨_, hu, hkk⟩

/-- A read of a variable whose cells lie there. -/
theorem run_loadVar_sub {P : Program} {t : TypeId} {e : TyE} (h : Ty P t e) {s : St} {R : PV → Value → Prop} (hR : ∀ p v, R p v → RR s p v) {cs : List PV} {us : List Value} (hc : CRl s.w s.S R cs us) {b o off : Nat}
    (hm : ∀ j v, us[j]? = some v → s.w.cell? ⟨b, o + j, none⟩ = some v) {p : PV} (hp : subP e cs off = some p) : ∃ v, (loadVar t ⟨b, o + off, none⟩).run P s.w = .ok v s.w ∧ VR s p v := by
  have hl := CRl_length hc
  unfold subP at hp
  split at hp
  · rename_i ha
    split at hp
    · rename_i hle
      obtain rfl : _ = p := by simpa using hp
      obtain ⟨i, d, z, hi, hu, hs, _, hk, _⟩ := h.ok
      have hsub := CRl_sub hc off e.size
      have hlen : ((us.drop off).take e.size).length = e.size := by simp; omega
      refine ⟨.agg ((us.drop off).take e.size).toArray, run_loadVar_mid (P := P) s.w b (o + off) t _ d (fun j v hv => ?_) hu ?_ (by simp only [hi, Option.map_some, hs, hlen]), ?_⟩
      · rw [List.getElem?_take] at hv
        split at hv <;> simp_all
        rw [Nat.add_assoc]
        exact hm _ _ hv
      · unfold TyE.isAgg at ha
        cases hkk : e.kind <;> cases d <;> simp_all [kindOk, TypeDesc.isRow]
      · exact VR_agg.2 ⟨_, rfl, by have := CR_mono (w := s.w) (w' := s.w) (S := s.S) (S' := s.S) (fun _ h => h) (fun _ _ => rfl) (.agg ((cs.drop off).take e.size)) R _ _ hR (by simpa only [CR] using hsub); simpa only [CR] using this⟩
    · cases hp
  · rename_i ha
    split at hp
    · rename_i q hq
      split at hp
      · rename_i hs
        obtain rfl : q = p := by simpa using hp
        obtain ⟨v, h1, h2⟩ := CRl_get hc hq
        have hag := h.agg s.w
        have hcell := hm _ _ h1
        refine ⟨v, ?_, VR_of_CR hs (CR_R hR h2)⟩
        simp only [Bool.not_eq_true] at ha
        simp [loadVar, hag, ha, hcell]
      · cases hp
    · cases hp

theorem St.R_le (s : St) (b : Bool) (p : PV) (v : Value) : s.R b p v → RR s p v := by
  unfold St.R
  split
  · exact fun h => h.elim
  · exact fun h => h

section ops
variable {B : Base} {d : Option Nat} {ty : TypeId} {ps : String} {af : Array Edge} {g : Option (Nat × Bool)} {env : Env} {H : Heap}

theorem od_load {t : TypeId} {x : Operand} {id l0 i off : Nat} {blk : Blk} {y p : PV} {e : TyE} (hT : B.good) (ht : B.T[t]? = some (some e)) (hx : env.ev x = .ptr id l0 i off) (hb : H.get id = some blk) (hl : blk.elems.length = l0) (hi : blk.elems[i]? = some y)
    (hp : subP e y.cells off = some p) : OpD B ⟨d, .load t x, ty, ps, af, g⟩ env [id] H p [] := by
  intro env' H' he hr
  refine opw_quiet fun s a N ho hH hE => ?_
  have h1 := hE.ev x
  rw [he x (by simp [Op.operands]), hx] at h1
  obtain ⟨_, blk', h2, h3, h4⟩ := VR_ptr.1 h1
  rw [hH, hr id (by simp), hb] at h2
  obtain rfl : blk = blk' := by simpa using h2
  obtain ⟨b, c, h5, h6, h7, h8⟩ := h4 hl
  obtain ⟨b', c', k1, k2, k3⟩ := ho.blk id blk (by rw [hH, hr id (by simp), hb])
  rw [h5] at k1
  obtain ⟨rfl, rfl⟩ : b = b' ∧ c = c' := by simpa using k1
  obtain ⟨_, k5, _⟩ := k3 h6
  obtain ⟨ecs, k6, k7, k8⟩ := k5 i y hi
  obtain ⟨v, k9, k10⟩ := run_loadVar_sub (hT.ty ht) (fun p v => St.R_le s _ p v) (CR_cells k7) k8 hp
  exact ⟨v, by simp only [execOp, h7, Instr.loadAt, Instr.sureAddr, Sem.run_bind, Sem.run_pure, Result.andThen_ok, k9], k10⟩

theorem od_load_sp {t : TypeId} {x : Operand} {off : Nat} {y p : PV} {e : TyE} (hT : B.good) (ht : B.T[t]? = some (some e)) (hx : env.ev x = .sp y off)
    (hp : subP e y.cells off = some p) : OpD B ⟨d, .load t x, ty, ps, af, g⟩ env [] H p [] :=
  opd_pure fun s a _ h => by
    have h1 := h x (by simp [Op.operands])
    rw [hx] at h1
    obtain ⟨b, o, ecs, h3, h4, h5, h6⟩ := VR_sp.1 h1
    obtain ⟨v, k9, k10⟩ := run_loadVar_sub (s := s) (hT.ty ht) (fun p v h => h.elim) (CR_cells h5) h6 hp
    exact ⟨v, by simp only [execOp, h3, Instr.loadAt, Instr.sureAddr, Sem.run_bind, Sem.run_pure, Result.andThen_ok, k9], k10⟩

theorem run_fieldAt {P : Program} {t ft : TypeId} {e fe : TyE} (h : Ty P t e) {fs : List (Nat × Nat)} (hk : e.kind = .struct fs) {f fo : Nat} (hf : fs[f]? = some (fo, ft)) (hft : Ty P ft fe) (hz : fe.size ≠ 0) (w : World) (b o : Nat) :
    (Instr.fieldAt t (.pointer (some ⟨b, o, none⟩)) f).run P w = .ok (.pointer (some ⟨b, o + fo, none⟩)) w := by
  obtain ⟨fields, hu, rfl⟩ := h.struct hk
  simp only [List.getElem?_map, Option.map_eq_some_iff, Prod.mk.injEq] at hf
  obtain ⟨x, hx, rfl, rfl⟩ := hf
  have hx' : fields[f]? = some x := by simpa using hx
  have hsz := hft.size w
  simp [Instr.fieldAt, Sem.run_bind, run_underlying hu w, hx', Instr.sureAddr, fieldPlace, hsz, hz, Addr.add_mid]

theorem od_fieldAddr {t ft : TypeId} {x : Operand} {f fo id l0 i off : Nat} {blk : Blk} {e fe : TyE} {fs : List (Nat × Nat)} (hT : B.good) (ht : B.T[t]? = some (some e)) (hk : e.kind = .struct fs) (hf : fs[f]? = some (fo, ft)) (hft : B.T[ft]? = some (some fe)) (hz : fe.size ≠ 0)
    (hx : env.ev x = .ptr id l0 i off) (hb : H.get id = some blk) (hl : blk.elems.length = l0) : OpD B ⟨d, .fieldAddr t x f, ty, ps, af, g⟩ env [id] H (.ptr id l0 i (off + fo)) [] := by
  intro env' H' he hr
  refine opw_quiet fun s a N ho hH hE => ?_
  have h1 := hE.ev x
  rw [he x (by simp [Op.operands]), hx] at h1
  obtain ⟨_, blk', h2, h3, h4⟩ := VR_ptr.1 h1
  have h2' := h2
  rw [hH, hr id (by simp), hb] at h2'
  obtain rfl : blk = blk' := by simpa using h2'
  obtain ⟨b, c, h5, h6, h7, h8⟩ := h4 hl
  refine ⟨.pointer (some ⟨b, i * blk.z + off + fo, none⟩), by simp only [execOp, h7, run_fieldAt (hT.ty ht) hk hf (hT.ty hft) hz s.w, Sem.run_bind, Sem.run_pure, Result.andThen_ok], VR_ptr.2 ⟨⟨_, rfl⟩, blk, h2, h3, fun _ => ⟨b, c, h5, h6, by rw [Nat.add_assoc], h8⟩⟩⟩

theorem od_fieldAddr_sp {t ft : TypeId} {x : Operand} {f fo off : Nat} {y : PV} {e fe : TyE} {fs : List (Nat × Nat)} (hT : B.good) (ht : B.T[t]? = some (some e)) (hk : e.kind = .struct fs) (hf : fs[f]? = some (fo, ft)) (hft : B.T[ft]? = some (some fe)) (hz : fe.size ≠ 0)
    (hx : env.ev x = .sp y off) : OpD B ⟨d, .fieldAddr t x f, ty, ps, af, g⟩ env [] H (.sp y (off + fo)) [] :=
  opd_pure fun s a _ h => by
    have h1 := h x (by simp [Op.operands])
    rw [hx] at h1
    obtain ⟨b, o, ecs, h3, h4, h5, h6⟩ := VR_sp.1 h1
    exact ⟨.pointer (some ⟨b, o + off + fo, none⟩), by simp only [execOp, h3, run_fieldAt (hT.ty ht) hk hf (hT.ty hft) hz s.w, Sem.run_bind, Sem.run_pure, Result.andThen_ok], VR_sp.2 ⟨b, o, ecs, by rw [Nat.add_assoc], h4, h5, h6⟩⟩

theorem CRrow_get {w : World} {S : Nat → Prop} {z b : Nat} : ∀ {xs : List PV} {off : Nat}, CRrow w S z b off xs → ∀ {i : Nat} {x : PV}, xs[i]? = some x →
    ∃ ecs, ecs.length = z ∧ CR w S (fun _ _ => False) x ecs ∧ ∀ j c, ecs[j]? = some c → w.cell? ⟨b, off + i * z + j, none⟩ = some c
  | [], _, _, _, _, h => by simp at h
  | x :: xs, off, h, i, y, hi => by
    simp only [CRrow] at h
    cases i with
    | zero => obtain rfl : x = y := by simpa using hi
              simpa using h.1
    | succ i => have := CRrow_get h.2 (i := i) (by simpa using hi)
                rwa [show off + z + i * z = off + (i + 1) * z by rw [Nat.succ_mul]; omega] at this

theorem CRrow_of {w : World} {S : Nat → Prop} {z b : Nat} : ∀ {xs : List PV} {off : Nat}, (∀ i x, xs[i]? = some x → ∃ ecs, ecs.length = z ∧ CR w S (fun _ _ => False) x ecs ∧ ∀ j c, ecs[j]? = some c → w.cell? ⟨b, off + i * z + j, none⟩ = some c) → CRrow w S z b off xs
  | [], _, _ => by simp only [CRrow]
  | x :: xs, off, h => by
    simp only [CRrow]
    refine ⟨by simpa using h 0 x (by simp), CRrow_of fun i y hi => ?_⟩
    have := h (i + 1) y (by simpa using hi)
    rwa [show off + (i + 1) * z = off + z + i * z by rw [Nat.succ_mul]; omega] at this

theorem run_indexAt {P : Program} {t et : TypeId} {e ee : TyE} (h : Ty P t e) (hk : e.kind = .slice et) (he : Ty P et ee) (w : World) (b o len cap : Nat) (k : IntKind) (n : Int) (h0 : 0 ≤ n) (h1 : n < len) :
    (Instr.indexAt t (.slice (some ⟨b, o, none⟩) len cap) (.int k n)).run P w = .ok (.pointer (some ⟨b, o + n.toNat * ee.size, none⟩)) w := by
  have hu := h.slice hk
  have hel : P.elem t = et := by simp [Program.elem, hu]
  have := run_indexAt_slice (P := P) w t ⟨b, o, none⟩ len cap k n (by rw [hel]; exact hu)
  rw [hel, if_pos ⟨h0, h1⟩, he.size w] at this
  rw [this]
  simp [Addr.add_mid]

theorem od_indexAddr {t et : TypeId} {x y : Operand} {k : IntKind} {n : Int} {z : Nat} {xs : List PV} {p : PV} {e ee : TyE} (hT : B.good) (ht : B.T[t]? = some (some e)) (hk : e.kind = .slice et) (he : B.T[et]? = some (some ee)) (hz : ee.size = z)
    (hx : env.ev x = .snap z xs) (hy : env.ev y = .int k n) (h0 : 0 ≤ n) (hp : xs[n.toNat]? = some p) : OpD B ⟨d, .indexAddr t x y, ty, ps, af, g⟩ env [] H (.sp p 0) [] :=
  opd_pure fun s a _ h => by
    have h1 := h x (by simp [Op.operands])
    have h2 := h y (by simp [Op.operands])
    rw [hx] at h1
    rw [hy] at h2
    have hlt : n.toNat < xs.length := by
      rcases Nat.lt_or_ge n.toNat xs.length with h | h
      · exact h
      · rw [List.getElem?_eq_none h] at hp; cases hp
    have h3 : CR s.w s.S (RR s) (.snap z xs) [a.eval x] := CR_of_VR rfl h1
    simp only [CR] at h3
    obtain ⟨ad, cap, h4, h5, h6⟩ := h3
    rcases h6 with rfl | ⟨b, off, rfl, h7, h8⟩
    · simp at hlt
    · obtain ⟨ecs, k1, k2, k3⟩ := CRrow_get h8 hp
      have h4' : a.eval x = .slice (some ⟨b, off, none⟩) xs.length cap := by simpa using h4
      subst hz
      exact ⟨.pointer (some ⟨b, off + n.toNat * ee.size, none⟩), by simp only [execOp, h4', VR_int.1 h2, run_indexAt (hT.ty ht) hk (hT.ty he) s.w b off xs.length cap k n h0 (by omega), Sem.run_bind, Sem.run_pure, Result.andThen_ok], VR_sp.2 ⟨b, off + n.toNat * ee.size, ecs, rfl, h7, k2, k3⟩⟩

theorem od_indexAddr_ref {t et : TypeId} {x y : Operand} {k : IntKind} {n : Int} {id l0 off len : Nat} {blk : Blk} {e ee : TyE} (hT : B.good) (ht : B.T[t]? = some (some e)) (hk : e.kind = .slice et) (he : B.T[et]? = some (some ee))
    (hx : env.ev x = .sref id l0 off len) (hy : env.ev y = .int k n) (hb : H.get id = some blk) (hl : blk.elems.length = l0) (hz : ee.size = blk.z) (h0 : 0 ≤ n) (h1 : n < len) : OpD B ⟨d, .indexAddr t x y, ty, ps, af, g⟩ env [id] H (.ptr id l0 (off + n.toNat) 0) [] := by
  intro env' H' hev hr
  refine opw_quiet fun s a N ho hH hE => ?_
  have h2 := hE.ev x
  have h3 := hE.ev y
  rw [hev x (by simp [Op.operands]), hx] at h2
  rw [hev y (by simp [Op.operands]), hy] at h3
  obtain ⟨_, blk', k1, k2, k3⟩ := VR_sref.1 h2
  have k1' := k1
  rw [hH, hr id (by simp), hb] at k1'
  obtain rfl : blk = blk' := by simpa using k1'
  obtain ⟨b, c, ad, cap, m1, m2, m3, m4, m5, m6⟩ := k3 hl
  have hcap : cap ≠ 0 := by omega
  rcases m6 with m6 | m6
  · exact absurd m6 hcap
  · subst m6
    refine ⟨.pointer (some ⟨b, off * blk.z + n.toNat * ee.size, none⟩), by simp only [execOp, m2, VR_int.1 h3, run_indexAt (hT.ty ht) hk (hT.ty he) s.w b _ len cap k n h0 h1, Sem.run_bind, Sem.run_pure, Result.andThen_ok], VR_ptr.2 ⟨⟨_, rfl⟩, blk, k1, k2, fun _ => ⟨b, c, m1, by omega, ?_, by omega⟩⟩⟩
    rw [hz, Nat.add_mul, Nat.add_zero]

theorem od_indexAddr_arr {t et : TypeId} {x y : Operand} {k : IntKind} {n : Int} {id l0 i off m : Nat} {blk : Blk} {e ee : TyE} (hT : B.good) (ht : B.T[t]? = some (some e)) (hk : e.kind = .array m et) (he : B.T[et]? = some (some ee))
    (hx : env.ev x = .ptr id l0 i off) (hy : env.ev y = .int k n) (hb : H.get id = some blk) (hl : blk.elems.length = l0) (h0 : 0 ≤ n) (h1 : n < m) : OpD B ⟨d, .indexAddr t x y, ty, ps, af, g⟩ env [id] H (.ptr id l0 i (off + n.toNat * ee.size)) [] := by
  intro env' H' hev hr
  refine opw_quiet fun s a N ho hH hE => ?_
  have h2 := hE.ev x
  have h3 := hE.ev y
  rw [hev x (by simp [Op.operands]), hx] at h2
  rw [hev y (by simp [Op.operands]), hy] at h3
  obtain ⟨_, blk', k1, k2, k3⟩ := VR_ptr.1 h2
  have k1' := k1
  rw [hH, hr id (by simp), hb] at k1'
  obtain rfl : blk = blk' := by simpa using k1'
  obtain ⟨b, c, m1, m2, m3, m4⟩ := k3 hl
  have hu := (hT.ty ht).array hk
  have hel : B.P.elem t = et := by simp [Program.elem, hu]
  have hal : B.P.arrayLen t = m := by simp [Program.arrayLen, hu]
  have hrun := run_indexAt_array (P := B.P) s.w t ⟨b, i * blk.z + off, none⟩ k n (by rw [hel, hal]; exact hu)
  rw [hel, hal, if_pos ⟨h0, h1⟩, (hT.ty he).size s.w] at hrun
  simp only [Result.andThen, Addr.add_mid] at hrun
  exact ⟨.pointer (some ⟨b, i * blk.z + off + n.toNat * ee.size, none⟩), by simp only [execOp, m3, VR_int.1 h3, hrun, Sem.run_bind, Sem.run_pure, Result.andThen_ok], VR_ptr.2 ⟨⟨_, rfl⟩, blk, k1, k2, fun _ => ⟨b, c, m1, m2, by rw [Nat.add_assoc], m4⟩⟩⟩

end ops
end Go.PM
/- The operations that make or write memory. -/
namespace Go.PM
open Go.RowKit

theorem BlkR.keep {B : Base} {s s' : St} {id : Nat} {blk : Blk} {data : Bool} (hx : Ext s s') (ho : s.ok B) (h : BlkR s id blk data) (hμ : s'.μ id = s.μ id)
    (hb : ∀ b c, s.μ id = some (b, c) → 0 < c → s'.w.heap[b]? = s.w.heap[b]?) (hS : ∀ b c, s.μ id = some (b, c) → 0 < c → blk.live = true → ¬ s'.S b) : BlkR s' id blk data := by
  obtain ⟨b, c, h1, h2, h3⟩ := h
  refine ⟨b, c, hμ.trans h1, h2, fun hc => ?_⟩
  obtain ⟨⟨cells, ty, fr, k1, k2, k3⟩, k4, k5, k6⟩ := h3 hc
  have hh := hb b c h1 hc
  refine ⟨⟨cells, ty, fr, hh.trans k1, k2, k3⟩, fun i x hi => ?_, hS b c h1 hc, fun hl => hx.stab b (k6 hl)⟩
  obtain ⟨ecs, m1, m2, m3⟩ := k4 i x hi
  refine ⟨ecs, m1, CR_mono hx.stab (fun b hb => hx.keep ho hb) _ _ _ _ (fun p v hR => ?_) m2, fun j v hj => ?_⟩
  · unfold St.R at hR ⊢
    split
    · rename_i hd; rw [if_pos hd] at hR; exact hR
    · rename_i hd; rw [if_neg hd] at hR; exact RR_ext hx ho _ _ hR
  · rw [World.cell?_of_block (w := s.w) (a := ⟨b, i * blk.z + j, none⟩) hh]
    exact m3 j v hj

theorem Heap.get_cons (k : Nat) (b : Blk) (H : Heap) (n : Nat) : Heap.get ((k, b) :: H) n = if k = n then some b else H.get n := rfl

theorem heap_alloc_lt (w : World) (o : Obj) {b : Nat} (h : b < w.heap.size) : (w.alloc o).heap[b]? = w.heap[b]? := Below.heap_alloc _ _ _ h

theorem St.blk_lt {B : Base} {s : St} (ho : s.ok B) {id : Nat} {blk : Blk} (h : s.H.get id = some blk) {b c : Nat} (hμ : s.μ id = some (b, c)) (hc : 0 < c) : b < s.w.heap.size := by
  obtain ⟨b', c', h1, _, h3⟩ := ho.blk id blk h
  rw [hμ] at h1
  obtain ⟨rfl, rfl⟩ : b = b' ∧ c = c' := by simpa using h1
  obtain ⟨⟨cells, ty, fr, k1, _⟩, _⟩ := h3 hc
  rcases Nat.lt_or_ge b s.w.heap.size with h | h
  · exact h
  · rw [Array.getElem?_eq_none h] at k1; cases k1

/-- A new block of the reading's own. -/
def St.add (s : St) (o : Obj) (id c : Nat) (blk : Blk) : St :=
  { w := s.w.alloc o, μ := fun k => if k = id then some (s.w.heap.size, c) else s.μ k, S := s.S, H := (id, blk) :: s.H }

theorem St.add_ext {s : St} {o : Obj} {id c : Nat} {blk : Blk} (hid : ∀ bk, s.H.get id = some bk → bk.z = blk.z ∧ bk.elems.length < blk.elems.length) : Ext s (s.add o id c blk) where
  os := rfl
  tape := rfl
  output := rfl
  size := by simp [St.add]
  frame b hb _ := heap_alloc_lt _ _ hb
  stab b hb := hb
  prov b hb := .inl hb
  live b hb := by
    rintro ⟨k, bk, c', h1, h2, h3, h4⟩
    simp only [St.add, Heap.get_cons] at h1 h3
    by_cases e : k = id
    · subst e
      simp at h3
      omega
    · rw [if_neg (Ne.symm e)] at h1
      rw [if_neg e] at h3
      exact ⟨k, bk, c', h1, h2, h3, h4⟩
  ids k bk hk := by
    by_cases e : k = id
    · subst e
      obtain ⟨h1, h2⟩ := hid bk hk
      exact ⟨blk, by simp [St.add, Heap.get_cons], h1.symm, Nat.le_of_lt h2, fun h => by omega⟩
    · refine ⟨bk, by simp only [St.add, Heap.get_cons]; rw [if_neg (Ne.symm e)]; exact hk, rfl, Nat.le_refl _, fun _ => by simp [St.add, e]⟩

theorem tk_lt {id ty : Nat} (h : id < 1000000) : ∀ t, id = tk t → ty = t := fun t ht => by simp only [tk] at ht; omega

theorem fresh_of {s : St} {id : Nat} {P : Blk → Prop} (h : s.H.get id = none) : ∀ bk, s.H.get id = some bk → P bk := fun bk hb => by rw [h] at hb; cases hb

theorem St.add_ok {B : Base} {s : St} (ho : s.ok B) {cells : Array Value} {ty : TypeId} {fr : Nat × Nat} {id c : Nat} {blk : Blk} (hid : ∀ bk, s.H.get id = some bk → bk.z = blk.z ∧ bk.elems.length < blk.elems.length) (hlive : blk.live = true) (hsz : cells.size = c * blk.z) (hfr : fr.1 < fr.2 → cells.size ≤ fr.1) (hty : ∀ t, id = tk t → ty = t)
    (hle : blk.elems.length ≤ c) (hel : ∀ i x, blk.elems[i]? = some x → ∃ ecs, ecs.length = blk.z ∧ CR s.w s.S (s.R blk.data) x ecs ∧ ∀ j v, ecs[j]? = some v → cells[i * blk.z + j]? = some v) : (s.add (.cells cells ty fr) id c blk).ok B := by
  have hx := St.add_ext (o := .cells cells ty fr) (c := c) (blk := blk) hid
  refine ⟨fun b hb => Nat.lt_of_lt_of_le (ho.lt b hb) hx.size, fun k bk hk => ?_, fun k k' bk bk' b c1 c2 hk hk' hl hl' h1 h2 hc1 hc2 => ?_, fun b hb => ⟨(ho.glob b hb).1, ?_⟩⟩
  · simp only [St.add, Heap.get_cons] at hk
    by_cases e : id = k
    · subst e
      rw [if_pos rfl] at hk
      obtain rfl : blk = bk := by simpa using hk
      refine ⟨s.w.heap.size, c, by simp [St.add], hle, fun hc => ⟨⟨cells, ty, fr, by show (s.w.heap.push _)[s.w.heap.size]? = _; simp, hsz, fun _ => hfr, hty⟩, fun i x hi => ?_, fun _ h => ?_, fun h => by simp [hlive] at h⟩⟩
      · obtain ⟨ecs, m1, m2, m3⟩ := hel i x hi
        refine ⟨ecs, m1, CR_mono hx.stab (fun b hb => hx.keep ho hb) _ _ _ _ (fun p v hR => ?_) m2, fun j v hj => ?_⟩
        · unfold St.R at hR ⊢
          split
          · rename_i hd; rw [if_pos hd] at hR; exact hR
          · rename_i hd; rw [if_neg hd] at hR; exact RR_ext hx ho _ _ hR
        · have := m3 j v hj
          show (s.w.alloc _).cell? _ = _
          rw [World.cell?_alloc_mark]
          exact this
      · have := ho.lt _ h; omega
    · rw [if_neg e] at hk
      exact (ho.blk k bk hk).keep hx ho (by simp [St.add, Ne.symm e]) (fun b c' h1 h2 => heap_alloc_lt _ _ (St.blk_lt ho hk h1 h2)) (fun b c' h1 h2 hl hS => by
        obtain ⟨b', c'', k1, _, k3⟩ := ho.blk k bk hk
        rw [h1] at k1
        obtain ⟨rfl, rfl⟩ : b = b' ∧ c' = c'' := by simpa using k1
        exact (k3 h2).2.2.1 hl hS)
  · simp only [St.add, Heap.get_cons] at hk hk' h1 h2
    by_cases e : id = k <;> by_cases e' : id = k'
    · omega
    · subst e
      rw [if_neg e'] at hk'
      rw [if_neg (Ne.symm e')] at h2
      rw [if_pos rfl] at h1
      have := St.blk_lt ho hk' h2 hc2
      simp at h1
      omega
    · subst e'
      rw [if_neg e] at hk
      rw [if_neg (Ne.symm e)] at h1
      rw [if_pos rfl] at h2
      have := St.blk_lt ho hk h1 hc1
      simp at h2
      omega
    · rw [if_neg e] at hk
      rw [if_neg e'] at hk'
      rw [if_neg (Ne.symm e)] at h1
      rw [if_neg (Ne.symm e')] at h2
      exact ho.inj k k' bk bk' b c1 c2 hk hk' hl hl' h1 h2 hc1 hc2
  · rw [← (ho.glob b hb).2]
    exact hx.keep ho (ho.glob b hb).1

theorem has_cons {s : St} {H : Heap} (h : s.has H) {s' : St} {id : Nat} {blk : Blk} (hs : s'.H = (id, blk) :: s.H) : s'.has ((id, blk) :: H) := by
  intro k
  rw [hs, Heap.get_cons, Heap.get_cons, h k]

/-- A pointer to the new variable. -/
theorem VR_add_ptr {s : St} {o : Obj} {id c : Nat} {blk : Blk} (hc : 0 < c) (hl : 0 < blk.elems.length) : VR (s.add o id c blk) (.ptr id blk.elems.length 0 0) (.pointer (some ⟨s.w.heap.size, 0, none⟩)) :=
  VR_ptr.2 ⟨⟨_, rfl⟩, blk, by simp [St.add, Heap.get_cons], Nat.le_refl _, fun _ => ⟨s.w.heap.size, c, by simp [St.add], hc, by simp, hl⟩⟩

theorem zerosOk_CRl {w : World} {S : Nat → Prop} {s : St} : ∀ {ps : List PV} {vs : List Value}, zerosOk ps vs = true → CRl w S (RR s) ps vs
  | [], [], _ => by simp [CRl]
  | [], _ :: _, h => by simp [zerosOk] at h
  | _ :: _, [], h => by simp [zerosOk] at h
  | p :: ps, v :: vs, h => by
    simp only [zerosOk, Bool.and_eq_true] at h
    simp only [CRl]
    refine ⟨v, vs, rfl, ?_, zerosOk_CRl h.2⟩
    have h1 := h.1
    unfold zeroOk at h1
    split at h1 <;> simp_all [CR, RR]
    rename_i s
    obtain ⟨⟨l⟩⟩ := s
    simp at h1
    simp [h1]

def TyE.zp (e : TyE) : PV := if e.isAgg then .agg e.zero else e.zero.headD .any

theorem cells_scal {s : St} {p : PV} {v : Value} (hp : p.scal = true) (h : VR s p v) : v.cells.toList = [v] := by
  have h2 := CR_of_VR hp h
  cases p <;> first | (simp [PV.scal] at hp; done) | skip
  all_goals
    simp only [CR, List.cons.injEq, and_true] at h2
    first
      | (rw [h2]; rfl)
      | (obtain ⟨_, _, h3, _⟩ := h2; rw [h3]; rfl)
      | (obtain ⟨u, rfl, h3⟩ := h2
         simp only [RR] at h3
         first
           | (rw [h3]; rfl)
           | (obtain ⟨⟨_, _, _, h4⟩, _⟩ := h3; rw [h4]; rfl)
           | (obtain ⟨⟨_, h4⟩, _⟩ := h3; rw [h4]; rfl)
           | (obtain ⟨_, _, _, h4, _⟩ := h3; rw [h4]; rfl))

section ops
variable {B : Base} {d : Option Nat} {ty : TypeId} {ps : String} {af : Array Edge} {g : Option (Nat × Bool)} {env : Env} {H : Heap}

theorem zp_CR {s : St} {P : Program} {t : TypeId} {e : TyE} (h : Ty P t e) (hz : e.zero ≠ []) (hl : e.zero.length = e.size) (ha : e.isAgg = true ∨ e.size = 1) :
    ∃ z, (zeroValue t).run P s.w = .ok z s.w ∧ z.cells.toList.length = e.size ∧ CR s.w s.S (RR s) e.zp z.cells.toList := by
  obtain ⟨i, dd, z, hi, _, hs, _, _, hzz, h1, h2⟩ := h.ok
  have h1 := h1.resolve_left hz
  have hc : CRl s.w s.S (RR s) e.zero z.cells.toList := zerosOk_CRl h1
  refine ⟨z, by simp [zeroValue, typeInfo, hi, hzz], by rw [CRl_length hc, hl], ?_⟩
  unfold TyE.zp
  split
  · simpa only [CR] using hc
  · rename_i hn
    have h1 : e.zero.length = 1 := by rcases ha with ha | ha; exact absurd ha hn; omega
    obtain ⟨x, hx⟩ := List.length_eq_one_iff.1 h1
    rw [hx] at hc
    simp only [CRl] at hc
    obtain ⟨v, r, h3, h4, h5⟩ := hc
    rw [h3, h5, hx]
    exact h4

theorem od_alloc {t : TypeId} (id : Nat) {e : TyE} (hT : B.good) (ht : B.T[t]? = some (some e)) (hz : e.zero ≠ []) (hl : e.zero.length = e.size) (ha : e.isAgg = true ∨ e.size = 1) (hid : H.get id = none) (hk1 : ∀ u, id = tk u → t = u := by intro u hu; simp only [tk] at hu; omega) :
    OpD B ⟨d, .alloc t, ty, ps, af, g⟩ env [id] H (.ptr id 1 0 0) [(id, ⟨e.size, true, false, [e.zp]⟩)] := by
  intro env' H' he hr s a N ho hH hE
  obtain ⟨z, h1, h2, h3⟩ := zp_CR (s := s) (hT.ty ht) hz hl ha
  have hid' : s.H.get id = none := by rw [hH, hr id (by simp), hid]
  have hrun : (execOp a.eval (⟨d, .alloc t, ty, ps, af, g⟩ : Oper)).run B.P s.w = .ok (.value (.pointer (some ⟨s.w.heap.size, 0, none⟩))) (s.w.alloc (.cells z.cells t)) := by
    simp only [execOp, Instr.alloc, Sem.run_bind, h1, Result.andThen_ok]
    simp [newVar, newRow]
  unfold Yields
  rw [hrun]
  refine ⟨s.add (.cells z.cells t) id 1 ⟨e.size, true, false, [e.zp]⟩, _, _, rfl, St.add_ok ho (fresh_of hid') rfl (by simpa using h2) (by simp) hk1 (by simp) (fun i x hi => ?_), St.add_ext (fresh_of hid'), VR_add_ptr (by simp) (by simp), has_cons hH rfl, rfl, rfl⟩
  cases i with
  | zero =>
    obtain rfl : e.zp = x := by simpa using hi
    exact ⟨z.cells.toList, h2, by simpa [St.R] using h3, fun j v hj => by simpa using hj⟩
  | succ i => simp at hi

theorem od_box {t : TypeId} (id : Nat) {x : Operand} {p : PV} (hx : env.ev x = p) (hp : p.scal = true ∨ ∃ cs, p = .agg cs) (hid : H.get id = none) (hk1 : ∀ u, id = tk u → t = u := by intro u hu; simp only [tk] at hu; omega) :
    OpD B ⟨d, .box t x, ty, ps, af, g⟩ env [id] H (.ptr id 1 0 0) [(id, ⟨p.cells.length, true, false, [p]⟩)] := by
  intro env' H' he hr s a N ho hH hE
  have h1 := hE.ev x
  rw [he x (by simp [Op.operands]), hx] at h1
  have hid' : s.H.get id = none := by rw [hH, hr id (by simp), hid]
  have hcr : CR s.w s.S (RR s) p (a.eval x).cells.toList := by
    rcases hp with hp | ⟨cs, rfl⟩
    · rw [cells_scal hp h1]
      exact CR_of_VR hp h1
    · obtain ⟨us, h2, h3⟩ := VR_agg.1 h1
      rw [h2]
      simpa only [CR, Value.cells] using h3
  have hrun : (execOp a.eval (⟨d, .box t x, ty, ps, af, g⟩ : Oper)).run B.P s.w = .ok (.value (.pointer (some ⟨s.w.heap.size, 0, none⟩))) (s.w.alloc (.cells (a.eval x).cells t)) := by
    simp only [execOp, Instr.box]
    simp [newVar, newRow]
  unfold Yields
  rw [hrun]
  have hlen := CR_length hcr
  refine ⟨s.add (.cells (a.eval x).cells t) id 1 ⟨p.cells.length, true, false, [p]⟩, _, _, rfl, St.add_ok ho (fresh_of hid') rfl (by simpa using hlen) (by simp) hk1 (by simp) (fun i y hi => ?_), St.add_ext (fresh_of hid'), VR_add_ptr (by simp) (by simp), has_cons hH rfl, rfl, rfl⟩
  cases i with
  | zero =>
    obtain rfl : p = y := by simpa using hi
    exact ⟨(a.eval x).cells.toList, by simpa using hlen, by simpa [St.R] using hcr, fun j v hj => by simpa using hj⟩
  | succ i => simp at hi
end ops
end Go.PM
/- Stores. -/
namespace Go.PM
open Go.RowKit

theorem St.R_ext {B : Base} {s s' : St} (hx : Ext s s') (ho : s.ok B) (data : Bool) (p : PV) (v : Value) (hR : s.R data p v) : s'.R data p v := by
  unfold St.R at hR ⊢
  split
  · rename_i hd; rw [if_pos hd] at hR; exact hR
  · rename_i hd; rw [if_neg hd] at hR; exact RR_ext hx ho _ _ hR

/-- The machine wrote into a live block. -/
structure Wrote (B : Base) (s : St) (w' : World) (id b c : Nat) (blk blk' : Blk) : Prop where
  get : s.H.get id = some blk
  live : blk.live = true
  μ : s.μ id = some (b, c)
  pos : 0 < c
  os : w'.os = s.w.os
  tape : w'.tape = s.w.tape
  output : w'.output = s.w.output
  size : w'.heap.size = s.w.heap.size
  other : ∀ k, k < s.w.heap.size → k ≠ b → w'.heap[k]? = s.w.heap[k]?
  cells : ∃ cells ty fr, w'.heap[b]? = some (.cells cells ty fr) ∧ cells.size = c * blk.z ∧ (fr.1 < fr.2 → cells.size ≤ fr.1) ∧ ∀ t, id = tk t → ty = t
  z : blk'.z = blk.z
  live' : blk'.live = true
  data : blk'.data = blk.data
  le : blk.elems.length ≤ blk'.elems.length
  le' : blk'.elems.length ≤ c
  elems : ∀ i x, blk'.elems[i]? = some x → ∃ ecs, ecs.length = blk.z ∧ CR s.w s.S (s.R blk.data) x ecs ∧ ∀ j v, ecs[j]? = some v → w'.cell? ⟨b, i * blk.z + j, none⟩ = some v

def St.wrote (s : St) (w' : World) (id : Nat) (blk' : Blk) : St := { w := w', μ := s.μ, S := s.S, H := (id, blk') :: s.H }

theorem Wrote.ext {B : Base} {s : St} {w' : World} {id b c : Nat} {blk blk' : Blk} (h : Wrote B s w' id b c blk blk') : Ext s (s.wrote w' id blk') where
  os := h.os
  tape := h.tape
  output := h.output
  size := by simp [St.wrote, h.size]
  frame k hk hl := h.other k hk fun e => hl (e ▸ ⟨id, blk, c, h.get, h.live, h.μ, h.pos⟩)
  stab b hb := hb
  prov b hb := .inl hb
  live k hk := by
    rintro ⟨i, bk, c', h1, h2, h3, h4⟩
    simp only [St.wrote, Heap.get_cons] at h1 h3
    by_cases e : id = i
    · subst e
      rw [h.μ] at h3
      obtain ⟨rfl, rfl⟩ : b = k ∧ c = c' := by simpa using h3
      exact ⟨id, blk, c, h.get, h.live, h.μ, h.pos⟩
    · rw [if_neg e] at h1
      exact ⟨i, bk, c', h1, h2, h3, h4⟩
  ids i bk hi := by
    by_cases e : id = i
    · subst e
      rw [h.get] at hi
      obtain rfl : blk = bk := by simpa using hi
      exact ⟨blk', by simp [St.wrote, Heap.get_cons], h.z, h.le, fun _ => rfl⟩
    · exact ⟨bk, by simp only [St.wrote, Heap.get_cons]; rw [if_neg e]; exact hi, rfl, Nat.le_refl _, fun _ => rfl⟩

theorem Wrote.ok {B : Base} {s : St} {w' : World} {id b c : Nat} {blk blk' : Blk} (h : Wrote B s w' id b c blk blk') (ho : s.ok B) : (s.wrote w' id blk').ok B := by
  have hx := h.ext
  have hnS : ¬ s.S b := by
    obtain ⟨b', c', h1, _, h3⟩ := ho.blk id blk h.get
    rw [h.μ] at h1
    obtain ⟨rfl, rfl⟩ : b = b' ∧ c = c' := by simpa using h1
    exact (h3 h.pos).2.2.1 h.live
  refine ⟨fun k hk => Nat.lt_of_lt_of_le (ho.lt k hk) hx.size, fun k bk hk => ?_, fun k k' bk bk' b1 c1 c2 hk hk' hl hl' h1 h2 hc1 hc2 => ?_, fun k hk => ⟨(ho.glob k hk).1, ?_⟩⟩
  · simp only [St.wrote, Heap.get_cons] at hk
    by_cases e : id = k
    · subst e
      rw [if_pos rfl] at hk
      obtain rfl : blk' = bk := by simpa using hk
      refine ⟨b, c, h.μ, h.le', fun _ => ⟨?_, fun i x hi => ?_, fun _ => hnS, fun hl => by rw [h.live'] at hl; cases hl⟩⟩
      · obtain ⟨cells, ty, fr, k1, k2, k3, k4⟩ := h.cells
        exact ⟨cells, ty, fr, k1, by rw [h.z]; exact k2, fun _ => k3, k4⟩
      · obtain ⟨ecs, m1, m2, m3⟩ := h.elems i x hi
        rw [h.z, h.data]
        exact ⟨ecs, m1, CR_mono hx.stab (fun b hb => hx.keep ho hb) _ _ _ _ (fun p v hR => St.R_ext hx ho _ _ _ hR) m2, m3⟩
    · rw [if_neg e] at hk
      refine (ho.blk k bk hk).keep hx ho rfl (fun b1 c1 h1 h2 => ?_) (fun b1 c1 h1 h2 hl hS => ?_)
      · refine h.other b1 (St.blk_lt ho hk h1 h2) fun hb => ?_
        subst hb
        by_cases hl : bk.live = true
        · exact e (ho.inj id k blk bk b1 c c1 h.get hk h.live hl h.μ h1 h.pos h2)
        · obtain ⟨b', c', k1, _, k3⟩ := ho.blk k bk hk
          rw [h1] at k1
          obtain ⟨rfl, rfl⟩ : b1 = b' ∧ c1 = c' := by simpa using k1
          exact hnS ((k3 h2).2.2.2 (by simpa using hl))
      · obtain ⟨b', c', k1, _, k3⟩ := ho.blk k bk hk
        rw [h1] at k1
        obtain ⟨rfl, rfl⟩ : b1 = b' ∧ c1 = c' := by simpa using k1
        exact (k3 h2).2.2.1 hl hS
  · have key : ∀ k bk, (s.wrote w' id blk').H.get k = some bk → bk.live = true → ∃ bk0, s.H.get k = some bk0 ∧ bk0.live = true := by
      intro k bk hk hl
      simp only [St.wrote, Heap.get_cons] at hk
      by_cases e : id = k
      · exact ⟨blk, e ▸ h.get, h.live⟩
      · rw [if_neg e] at hk; exact ⟨bk, hk, hl⟩
    obtain ⟨b0, g1, g2⟩ := key k bk hk hl
    obtain ⟨b0', g1', g2'⟩ := key k' bk' hk' hl'
    exact ho.inj k k' b0 b0' b1 c1 c2 g1 g1' g2 g2' h1 h2 hc1 hc2
  · rw [← (ho.glob k hk).2]
    exact hx.keep ho (ho.glob k hk).1

theorem setCell_block (w : World) (b o : Nat) (v : Value) {cells : Array Value} {ty : TypeId} {fr : Nat × Nat} (h : w.heap[b]? = some (.cells cells ty fr)) : ∃ cells', (w.setCell ⟨b, o, none⟩ v).heap[b]? = some (.cells cells' ty fr) ∧ cells'.size = cells.size := by
  refine ⟨cells.setIfInBounds o v, ?_, by simp⟩
  simp [World.setCell, Array.getElem?_modify, h]

theorem setCells_block (b : Nat) {ty : TypeId} {fr : Nat × Nat} : ∀ (vs : List Value) (o : Nat) (w : World) {cells : Array Value}, w.heap[b]? = some (.cells cells ty fr) → ∃ cells', (w.setCells b o vs).heap[b]? = some (.cells cells' ty fr) ∧ cells'.size = cells.size
  | [], _, w, cells, h => ⟨cells, h, rfl⟩
  | v :: r, o, w, cells, h => by
    obtain ⟨c1, h1, h2⟩ := setCell_block w b o v h
    obtain ⟨c2, h3, h4⟩ := setCells_block b r (o + 1) _ h1
    exact ⟨c2, h3, h4.trans h2⟩

theorem setCells_size (b : Nat) : ∀ (vs : List Value) (o : Nat) (w : World), (w.setCells b o vs).heap.size = w.heap.size
  | [], _, _ => rfl
  | v :: r, o, w => by rw [World.setCells, setCells_size b r (o + 1)]; simp [World.setCell]

theorem setCells_tape (b : Nat) : ∀ (vs : List Value) (o : Nat) (w : World), (w.setCells b o vs).tape = w.tape
  | [], _, _ => rfl
  | v :: r, o, w => by rw [World.setCells, setCells_tape b r (o + 1)]; rfl

/-- Data: no reference inside. -/
def PV.isD : PV → Bool
  | .sref .. | .ptr .. | .sp .. | .nilp => false
  | .agg fs => isDs fs
  | _ => true
where isDs : List PV → Bool
  | [] => true
  | f :: fs => (match f with | .sref .. | .ptr .. | .sp .. | .nilp | .agg _ => false | _ => true) && isDs fs

theorem CR_isD {w : World} {S : Nat → Prop} {R R' : PV → Value → Prop} {p : PV} {cs : List Value} (hp : p.isD = true) (h : CR w S R p cs) : CR w S R' p cs := by
  cases p with
  | agg fs =>
    simp only [CR] at h ⊢
    simp only [PV.isD] at hp
    induction fs generalizing cs with
    | nil => simpa only [CRl] using h
    | cons f fs ih =>
      simp only [CRl] at h ⊢
      simp only [PV.isD.isDs, Bool.and_eq_true] at hp
      obtain ⟨v, r, h1, h2, h3⟩ := h
      refine ⟨v, r, h1, ?_, ih hp.2 h3⟩
      have h4 := hp.1
      cases f <;> first | (simp at h4; done) | (simp only [CR] at h2 ⊢; done) | (simp only [CR] at h2 ⊢; exact h2)
  | sref => simp [PV.isD] at hp
  | ptr => simp [PV.isD] at hp
  | sp => simp [PV.isD] at hp
  | nilp => simp [PV.isD] at hp
  | _ => first | (simp only [CR] at h ⊢; done) | (simp only [CR] at h ⊢; exact h)

/-- An element of which a part is written. -/
def spliceP (y : PV) (off : Nat) (p : PV) : PV :=
  match y with
  | .agg fs => (match p with
    | .agg cs => .agg (fs.take off ++ cs ++ fs.drop (off + cs.length))
    | p => .agg (fs.set off p))
  | _ => p

def PV.ok1 : PV → Bool
  | .tup _ | .any => false
  | _ => true

theorem VR_cells {s : St} {p : PV} {v : Value} (hp : p.ok1 = true) (h : VR s p v) : CR s.w s.S (RR s) p v.cells.toList := by
  cases hs : p.scal with
  | true => rw [cells_scal hs h]; exact CR_of_VR hs h
  | false =>
    cases p <;> simp [PV.scal] at hs <;> simp [PV.ok1] at hp
    obtain ⟨us, h2, h3⟩ := VR_agg.1 h
    rw [h2]
    simpa only [CR, Value.cells] using h3

theorem CR_one {w : World} {S : Nat → Prop} {s : St} {p : PV} {cs : List Value} (h : CR w S (RR s) p cs) : ∀ v ∈ cs, v.oneCell' = true := by
  have key : ∀ (p : PV) (v : Value), CR w S (RR s) p [v] → (∀ fs, p ≠ .agg fs) → v.oneCell' = true := by
    intro p v h hne
    cases p with
    | agg fs => exact absurd rfl (hne fs)
    | _ =>
      simp only [CR, List.cons.injEq, and_true] at h <;>
      first
        | (rw [h]; rfl)
        | (obtain ⟨_, _, h3, _⟩ := h; rw [h3]; rfl)
        | (obtain ⟨u, rfl, h3⟩ := h
           simp only [RR] at h3
           first
             | (rw [h3]; rfl)
             | (obtain ⟨⟨_, _, _, h4⟩, _⟩ := h3; rw [h4]; rfl)
             | (obtain ⟨⟨_, h4⟩, _⟩ := h3; rw [h4]; rfl)
             | (obtain ⟨_, _, _, h4, _⟩ := h3; rw [h4]; rfl))
  have all : ∀ (n : Nat) (p : PV) (cs : List Value), SizeOf.sizeOf p ≤ n → CR w S (RR s) p cs → ∀ v ∈ cs, v.oneCell' = true := by
    intro n
    induction n with
    | zero => intro p cs hn; cases p <;> simp at hn
    | succ n ih =>
      intro p cs hn h v hv
      have hc := CR_cells h
      cases p with
      | agg fs =>
        simp only [PV.cells] at hc
        obtain ⟨j, hj, rfl⟩ := List.mem_iff_getElem.1 hv
        have hl := CRl_length hc
        obtain ⟨u, h1, h2⟩ := CRl_get hc (j := j) (f := fs[j]'(by omega)) (by simp)
        rw [List.getElem?_eq_getElem hj] at h1
        obtain rfl : cs[j] = u := by simpa using h1
        have hm : fs[j]'(by omega) ∈ fs := List.getElem_mem _
        have := List.sizeOf_lt_of_mem hm
        simp at hn
        exact ih _ _ (by omega) h2 _ (by simp)
      | _ =>
        simp only [PV.cells, CRl] at hc
        obtain ⟨u, r, h1, h2, h3⟩ := hc
        subst h3
        subst h1
        obtain rfl : v = u := by simpa using hv
        exact key _ _ h2 (by simp)
  exact all _ p cs (Nat.le_refl _) h

theorem CRl_splice {w : World} {S : Nat → Prop} {R : PV → Value → Prop} {fs pc : List PV} {off : Nat} {es us : List Value} (cy : CRl w S R fs es) (cp : CRl w S R pc us) (hle : off + pc.length ≤ fs.length) :
    ∃ es', es'.length = es.length ∧ CRl w S R (fs.take off ++ pc ++ fs.drop (off + pc.length)) es' ∧ (∀ j, j < us.length → es'[off + j]? = us[j]?) ∧ ∀ j, (j < off ∨ off + us.length ≤ j) → es'[j]? = es[j]? := by
  have ly := CRl_length cy
  have lp := CRl_length cp
  refine ⟨es.take off ++ us ++ es.drop (off + us.length), by simp; omega, ?_, fun j hj => ?_, fun j hj => ?_⟩
  · have h1 := CRl_sub cy 0 off
    have h3 := CRl_sub cy (off + pc.length) es.length
    refine CRl_of (by simp; omega) fun j f v hf hv => ?_
    rw [List.append_assoc, List.getElem?_append] at hf hv
    have l1 : (List.take off fs).length = off := by simp; omega
    have l2 : (List.take off es).length = off := by simp; omega
    rw [l1] at hf
    rw [l2] at hv
    by_cases hlt : j < off
    · rw [if_pos hlt] at hf hv
      obtain ⟨u, h4, h5⟩ := CRl_get (by simpa using h1) hf
      rw [hv] at h4
      obtain rfl : v = u := by simpa using h4
      exact h5
    · rw [if_neg hlt, List.getElem?_append] at hv hf
      by_cases hlt' : j - off < pc.length
      · rw [if_pos hlt'] at hf
        rw [if_pos (by omega)] at hv
        obtain ⟨u, h4, h5⟩ := CRl_get cp hf
        rw [hv] at h4
        obtain rfl : v = u := by simpa using h4
        exact h5
      · rw [if_neg hlt'] at hf
        rw [if_neg (by omega)] at hv
        have hf' : (List.take es.length (List.drop (off + pc.length) fs))[j - off - pc.length]? = some f := by
          rw [List.take_of_length_le (by simp; omega)]; exact hf
        obtain ⟨u, h4, h5⟩ := CRl_get h3 hf'
        rw [List.take_of_length_le (by simp)] at h4
        rw [lp, h4] at hv
        obtain rfl : u = v := by simpa using hv
        exact h5
  · have l2 : (List.take off es).length = off := by simp; omega
    rw [List.append_assoc, List.getElem?_append_right (by omega), List.getElem?_append_left (by omega), l2]
    congr 1
    omega
  · have l2 : (List.take off es).length = off := by simp; omega
    rcases hj with hj | hj
    · rw [List.append_assoc, List.getElem?_append_left (by omega), List.getElem?_take, if_pos hj]
    · rw [List.append_assoc, List.getElem?_append_right (by omega), List.getElem?_append_right (by omega), List.getElem?_drop, l2]
      congr 1
      omega

theorem CR_splice {w : World} {S : Nat → Prop} {R : PV → Value → Prop} {y p : PV} {off : Nat} {es us : List Value} (hy : CR w S R y es) (hp : CR w S R p us) (hp1 : p.ok1 = true) (hy1 : y.ok1 = true) (hpc : p.cells ≠ []) (hle : off + p.cells.length ≤ y.cells.length) :
    ∃ es', es'.length = es.length ∧ CR w S R (spliceP y off p) es' ∧ (∀ j, j < us.length → es'[off + j]? = us[j]?) ∧ ∀ j, (j < off ∨ off + us.length ≤ j) → es'[j]? = es[j]? := by
  have ly := CR_length hy
  have lp := CR_length hp
  have cy := CR_cells hy
  have cp := CR_cells hp
  have fin : ∀ (q : PV) (fs : List PV), y = .agg fs → q = .agg (fs.take off ++ p.cells ++ fs.drop (off + p.cells.length)) → ∃ es', es'.length = es.length ∧ CR w S R q es' ∧ (∀ j, j < us.length → es'[off + j]? = us[j]?) ∧ ∀ j, (j < off ∨ off + us.length ≤ j) → es'[j]? = es[j]? := by
    rintro q fs rfl rfl
    have cy' : CRl w S R fs es := cy
    obtain ⟨es', h1, h2, h3⟩ := CRl_splice cy' cp hle
    exact ⟨es', h1, by simpa only [CR] using h2, h3⟩
  cases y with
  | tup => simp [PV.ok1] at hy1
  | any => simp [PV.ok1] at hy1
  | agg fs =>
    cases p with
    | tup => simp [PV.ok1] at hp1
    | any => simp [PV.ok1] at hp1
    | agg cs => exact fin _ fs rfl rfl
    | _ =>
      refine fin _ fs rfl ?_
      simp only [PV.cells, List.length_singleton] at hle
      simp only [spliceP, PV.cells, List.length_singleton]
      rw [List.set_eq_take_append_cons_drop, if_pos (by omega)]
      simp
  | _ =>
    simp only [PV.cells, List.length_singleton] at hle ly
    have hpp : 0 < p.cells.length := by cases hq : p.cells with
      | nil => exact absurd hq hpc
      | cons => simp
    simp only [PV.cells] at hpp
    have hoff : off = 0 := by omega
    subst hoff
    have lp' : us.length = 1 := by rw [lp]; simp only [PV.cells]; omega
    exact ⟨us, by omega, hp, fun j _ => by simp, fun j hj => by
      rw [List.getElem?_eq_none (by omega), List.getElem?_eq_none (by omega)]⟩

section ops
variable {B : Base} {d : Option Nat} {ty : TypeId} {ps : String} {af : Array Edge} {g : Option (Nat × Bool)} {env : Env} {H : Heap}

theorem od_store {t : TypeId} {x y : Operand} {id l0 i off : Nat} {blk : Blk} {q p : PV} {e : TyE} (hT : B.good) (ht : B.T[t]? = some (some e)) (hx : env.ev x = .ptr id l0 i off) (hy : env.ev y = p) (hb : H.get id = some blk) (hlv : blk.live = true)
    (hl : blk.elems.length = l0) (hi : blk.elems[i]? = some q) (hp1 : p.ok1 = true) (hq1 : q.ok1 = true) (hpc : p.cells ≠ []) (hsz : p.cells.length = e.size) (hle : off + p.cells.length ≤ q.cells.length) (hd : blk.data = true → p.isD = true) :
    OpD B ⟨d, .store t x y, ty, ps, af, g⟩ env [id] H .any [(id, { blk with elems := blk.elems.set i (spliceP q off p) })] := by
  intro env' H' he hr s a N ho hH hE
  have h1 := hE.ev x
  have hv := hE.ev y
  rw [he x (by simp [Op.operands]), hx] at h1
  rw [he y (by simp [Op.operands]), hy] at hv
  obtain ⟨_, blk', h2, h3, h4⟩ := VR_ptr.1 h1
  have h2' := h2
  rw [hH, hr id (by simp), hb] at h2'
  obtain rfl : blk = blk' := by simpa using h2'
  obtain ⟨b, c, h5, h6, h7, h8⟩ := h4 hl
  obtain ⟨b', c', k1, k2, k3⟩ := ho.blk id blk h2
  rw [h5] at k1
  obtain ⟨rfl, rfl⟩ : b = b' ∧ c = c' := by simpa using k1
  obtain ⟨⟨cells, cty, fr, k4, k5, k6, kty⟩, k7, k8, k9⟩ := k3 h6
  have k6 := k6 hlv
  have hcv := VR_cells hp1 hv
  have hone := CR_one hcv
  have hlv' := CR_length hcv
  have hcvR : CR s.w s.S (s.R blk.data) p (a.eval y).cells.toList := by
    unfold St.R
    split
    · rename_i hdd; exact CR_isD (hd hdd) hcv
    · exact hcv
  obtain ⟨es, m1, m2, m3⟩ := k7 i q hi
  obtain ⟨es', n1, n2, n3, n4⟩ := CR_splice m2 hcvR hp1 hq1 hpc hle
  have hblk := setCells_block b (a.eval y).cells.toList (i * blk.z + off) s.w k4
  have hbl := St.blk_lt ho h2 h5 h6
  have hilt : i < blk.elems.length := by rw [hl]; exact h8
  have hzq : q.cells.length = blk.z := by rw [← CR_length m2, m1]
  have hcellsz : ∀ j, j < blk.z → i * blk.z + j < cells.size := by
    intro j hj
    rw [k5]
    calc i * blk.z + j < i * blk.z + blk.z := by omega
      _ = (i + 1) * blk.z := by rw [Nat.succ_mul]
      _ ≤ c * blk.z := Nat.mul_le_mul_right _ (by omega)
  have hcell : ∀ j, j < blk.z → (s.w.cell? ⟨b, i * blk.z + j, none⟩).isSome = true := by
    intro j hj
    have := hcellsz j hj
    simp [World.cell?, k4, this]
  have hfroz : ∀ j, j < blk.z → s.w.frozen? ⟨b, i * blk.z + j, none⟩ = false := by
    intro j hj
    have := hcellsz j hj
    simp only [World.frozen?, k4]
    simp only [Bool.and_eq_false_imp, decide_eq_true_eq, decide_eq_false_iff_not]
    intro h9 h10
    have := k6 (by omega)
    omega
  have hsz' : (a.eval y).cells.size = e.size := by rw [← hsz, ← hlv']; simp
  have hwr : Wrote B s (s.w.setCells b (i * blk.z + off) (a.eval y).cells.toList) id b c blk { blk with elems := blk.elems.set i (spliceP q off p) } := by
    refine ⟨h2, hlv, h5, h6, World.os_setCells _ _ _ _, setCells_tape _ _ _ _, World.output_setCells _ _ _ _, setCells_size _ _ _ _, fun k hk hne => World.heap_setCells_other _ _ _ _ hk hne, ?_, rfl, hlv, rfl, by simp, by simpa using k2, fun j x hj => ?_⟩
    · obtain ⟨cells', q1, q2⟩ := hblk
      exact ⟨cells', cty, fr, q1, q2.trans k5, by rw [q2]; exact k6, kty⟩
    · simp only at hj
      rw [List.getElem?_set] at hj
      by_cases e1 : i = j
      · subst e1
        rw [if_pos rfl, if_pos hilt] at hj
        obtain rfl : spliceP q off p = x := by simpa using hj
        refine ⟨es', by rw [n1, m1], n2, fun l v hlv => ?_⟩
        by_cases hin : off ≤ l ∧ l < off + (a.eval y).cells.toList.length
        · have e2 := n3 (l - off) (by omega)
          rw [show off + (l - off) = l by omega, hlv] at e2
          have hq3 := World.cell?_setCells_in b (a.eval y).cells.toList (i * blk.z + off) s.w (fun j hj => by
            have := hcell (off + j) (by rw [← hzq]; omega)
            rwa [← Nat.add_assoc] at this) (l - off) (by omega)
          rw [show i * blk.z + off + (l - off) = i * blk.z + l by omega] at hq3
          rw [List.getElem?_eq_getElem (show l - off < (a.eval y).cells.toList.length by omega)] at e2
          rw [hq3, e2]
        · have e2 := n4 l (by omega)
          rw [hlv] at e2
          rw [World.cell?_setCells_out]
          · exact m3 l v e2.symm
          · intro _ _; simp only; omega
      · rw [if_neg e1] at hj
        obtain ⟨ecs, q1, q2, q3⟩ := k7 j x hj
        refine ⟨ecs, q1, q2, fun l v hl => ?_⟩
        rw [World.cell?_setCells_out]
        · exact q3 l v hl
        · intro _ _
          have hl' : l < blk.z := by
            rcases Nat.lt_or_ge l ecs.length with h | h
            · omega
            · rw [List.getElem?_eq_none h] at hl; cases hl
          simp only
          rcases Nat.lt_or_ge j i with h | h
          · left
            have : (j + 1) * blk.z ≤ i * blk.z := Nat.mul_le_mul_right _ (by omega)
            rw [Nat.succ_mul] at this
            omega
          · right
            have : (i + 1) * blk.z ≤ j * blk.z := Nat.mul_le_mul_right _ (by omega)
            rw [Nat.succ_mul] at this
            have : (a.eval y).cells.toList.length = p.cells.length := hlv'
            omega
  have hrun : (execOp a.eval (⟨d, .store t x y, ty, ps, af, g⟩ : Oper)).run B.P s.w = .ok .skip (s.w.setCells b (i * blk.z + off) (a.eval y).cells.toList) := by
    have hst := run_storeCells_cells (P := B.P) b (i * blk.z + off) (a.eval y).cells.toList 0 s.w (fun j hj => by
      have := hcell (off + j) (by rw [← hzq]; omega)
      rw [Nat.add_zero]
      rwa [← Nat.add_assoc] at this) (fun j hj => by
      have := hfroz (off + j) (by rw [← hzq]; omega)
      rw [Nat.add_zero]
      rwa [← Nat.add_assoc] at this) hone
    rw [Nat.add_zero] at hst
    have hs := (hT.ty ht).size s.w
    simp only [execOp, h7, Instr.storeAt, Instr.sureAddr, storeVar, Sem.run_bind, Sem.run_pure, Result.andThen_ok, hs, hsz', ne_eq, not_true_eq_false, if_false, hst]
  unfold Yields
  rw [hrun]
  exact ⟨_, _, _, rfl, hwr.ok ho, hwr.ext, VR_any.2 trivial, has_cons hH rfl, rfl, rfl⟩
end ops
end Go.PM
/- Lengths, indexes, slices, structs. -/
namespace Go.PM
open Go.RowKit

section ops
variable {B : Base} {d : Option Nat} {ty : TypeId} {ps : String} {af : Array Edge} {g : Option (Nat × Bool)} {env : Env} {H : Heap}

theorem ty_slice_of {B : Base} (hT : B.good) {t et : TypeId} {e : TyE} (ht : B.T[t]? = some (some e)) (hk : e.kind = .slice et) : B.P.underlying t = some (.slice (B.P.elem t)) := by
  have hu := (hT.ty ht).slice hk
  rw [hu]; simp [Program.elem, hu]

theorem snap_val {s : St} {z : Nat} {xs : List PV} {v : Value} (h : VR s (.snap z xs) v) : ∃ a cap, v = .slice a xs.length cap ∧ xs.length ≤ cap ∧ (xs = [] ∨ ∃ b off, a = some ⟨b, off, none⟩ ∧ s.S b ∧ CRrow s.w s.S z b off xs) := by
  have h3 : CR s.w s.S (RR s) (.snap z xs) [v] := CR_of_VR rfl h
  simp only [CR] at h3
  obtain ⟨a, cap, h4, h5⟩ := h3
  exact ⟨a, cap, by simpa using h4, h5⟩

theorem od_len_snap {x : Operand} {t et : TypeId} {z : Nat} {xs : List PV} {e : TyE} (hT : B.good) (ht : B.T[t]? = some (some e)) (hk : e.kind = .slice et) (hx : env.ev x = .snap z xs) :
    OpD B ⟨d, .call { callee := .builtin .len, args := #[x], argTypes := #[t] }, ty, ps, af, g⟩ env [] H (.int .i64 (xs.length : Nat)) [] :=
  opd_pure fun s a _ h => by
    have h1 := h x (by simp [Op.operands, Call.operands])
    rw [hx] at h1
    obtain ⟨ad, cap, rfl', _⟩ := snap_val h1
    refine ⟨_, by simp only [execOp, resolve, invoke, builtin, List.map_toArray, List.map_cons, List.map_nil, rfl', Sem.run_bind, Sem.run_pure, Result.andThen_ok, run_len_slice s.w t ty ad xs.length cap (ty_slice_of hT ht hk)]; rfl, VR_int.2 rfl⟩

theorem od_len_nils {x : Operand} {t et : TypeId} {e : TyE} (hT : B.good) (ht : B.T[t]? = some (some e)) (hk : e.kind = .slice et) (hx : env.ev x = .nils) :
    OpD B ⟨d, .call { callee := .builtin .len, args := #[x], argTypes := #[t] }, ty, ps, af, g⟩ env [] H (.int .i64 0) [] :=
  opd_pure fun s a _ h => by
    have h1 := h x (by simp [Op.operands, Call.operands])
    rw [hx] at h1
    refine ⟨_, by simp only [execOp, resolve, invoke, builtin, List.map_toArray, List.map_cons, List.map_nil, VR_nils.1 h1, Sem.run_bind, Sem.run_pure, Result.andThen_ok, run_len_slice s.w t ty none 0 0 (ty_slice_of hT ht hk)]; rfl, VR_int.2 rfl⟩

theorem od_len_str {x : Operand} {t : TypeId} {l : List UInt8} {e : TyE} (hT : B.good) (ht : B.T[t]? = some (some e)) (hk : e.kind = .str) (hx : env.ev x = .str l) :
    OpD B ⟨d, .call { callee := .builtin .len, args := #[x], argTypes := #[t] }, ty, ps, af, g⟩ env [] H (.int .i64 (l.length : Nat)) [] :=
  opd_pure fun s a _ h => by
    have h1 := h x (by simp [Op.operands, Call.operands])
    rw [hx] at h1
    have hu := (hT.ty ht).str hk
    refine ⟨.int .i64 l.length, ?_, VR_int.2 rfl⟩
    have hr : (Builtin.len_ #[t] ty #[.string ⟨l.toArray⟩]).run B.P s.w = .ok (goInt l.length) s.w := by
      have : (Builtin.len_ #[t] ty #[.string ⟨l.toArray⟩]).run B.P s.w = .ok (goInt (⟨l.toArray⟩ : ByteArray).size) s.w := by simp [Builtin.len_, run_underlying hu]
      rw [this]; simp [ByteArray.size]
    simp only [execOp, resolve, invoke, builtin, List.map_toArray, List.map_cons, List.map_nil, VR_str.1 h1, Sem.run_bind, Sem.run_pure, Result.andThen_ok, hr]
    rfl

theorem od_len_ref {x : Operand} {t et : TypeId} {id l0 off len : Nat} {blk : Blk} {e : TyE} (hT : B.good) (ht : B.T[t]? = some (some e)) (hk : e.kind = .slice et) (hx : env.ev x = .sref id l0 off len) (hb : H.get id = some blk) (hl : blk.elems.length = l0) :
    OpD B ⟨d, .call { callee := .builtin .len, args := #[x], argTypes := #[t] }, ty, ps, af, g⟩ env [id] H (.int .i64 (len : Nat)) [] := by
  intro env' H' hev hr
  refine opw_quiet fun s a N ho hH hE => ?_
  have h2 := hE.ev x
  rw [hev x (by simp [Op.operands, Call.operands]), hx] at h2
  obtain ⟨_, blk', k1, k2, k3⟩ := VR_sref.1 h2
  rw [hH, hr id (by simp), hb] at k1
  obtain rfl : blk = blk' := by simpa using k1
  obtain ⟨b, c, ad, cap, m1, m2, _⟩ := k3 hl
  exact ⟨_, by simp only [execOp, resolve, invoke, builtin, List.map_toArray, List.map_cons, List.map_nil, m2, Sem.run_bind, Sem.run_pure, Result.andThen_ok, run_len_slice s.w t ty ad len cap (ty_slice_of hT ht hk)]; rfl, VR_int.2 rfl⟩

theorem od_index_str {x y : Operand} {t : TypeId} {l : List UInt8} {k : IntKind} {n : Int} {b : UInt8} {e : TyE} (hT : B.good) (ht : B.T[t]? = some (some e)) (hk : e.kind = .str) (hx : env.ev x = .str l) (hy : env.ev y = .int k n) (h0 : 0 ≤ n) (hb : l[n.toNat]? = some b) :
    OpD B ⟨d, .index t x y, ty, ps, af, g⟩ env [] H (.int .u8 b.toNat) [] :=
  opd_pure fun s a _ h => by
    have h1 := h x (by simp [Op.operands])
    have h2 := h y (by simp [Op.operands])
    rw [hx] at h1
    rw [hy] at h2
    have hu := (hT.ty ht).str hk
    have hg : (⟨l.toArray⟩ : ByteArray)[n.toNat]? = some b := by
      have hlt : n.toNat < l.length := by
        rcases Nat.lt_or_ge n.toNat l.length with h | h
        · exact h
        · rw [List.getElem?_eq_none h] at hb; cases hb
      rw [List.getElem?_eq_getElem hlt] at hb
      rw [getElem?_pos _ _ (by simpa [ByteArray.size] using hlt)]
      show some (l.toArray[n.toNat]'(by simpa using hlt)) = some b
      simpa using hb
    refine ⟨.int .u8 b.toNat, ?_, VR_int.2 rfl⟩
    simp only [execOp, VR_str.1 h1, VR_int.1 h2, Instr.index, asIntOf, Sem.run_bind, Sem.run_pure, Result.andThen_ok, run_underlying hu, if_pos h0, hg]

/-- A bound of a slice expression. -/
def bnd (env : Env) (x : Option Operand) (dflt n : Nat) : Prop :=
  match x with
  | none => n = dflt
  | some x => ∃ k m, env.ev x = .int k m ∧ 0 ≤ m ∧ n = m.toNat

theorem run_sliceBounds {P : Program} {w : World} {s : St} {env : Env} {a : Act} (isS : Bool) {len cap l h : Nat} {lo hi : Option Operand} (hE : ∀ x, (lo = some x ∨ hi = some x) → VR s (env.ev x) (a.eval x)) (hl : bnd env lo 0 l) (hh : bnd env hi len h) (h1 : l ≤ h) (h2 : h ≤ cap) :
    (Instr.sliceBounds isS len cap (lo.map a.eval) (hi.map a.eval) none).run P w = .ok (l, h, cap) w := by
  cases lo with
  | none =>
    simp only [bnd] at hl
    subst hl
    cases hi with
    | none =>
      simp only [bnd] at hh
      subst hh
      simp [Instr.sliceBounds]
    | some x =>
      obtain ⟨k, m, e1, e2, e3⟩ := hh
      have := hE x (.inr rfl)
      rw [e1] at this
      have hb := fun code => run_sliceBound (P := P) w k m cap code e2 (by omega)
      simp [Instr.sliceBounds, VR_int.1 this, hb, e3]
  | some y =>
    obtain ⟨k', m', f1, f2, f3⟩ := hl
    have hy := hE y (.inl rfl)
    rw [f1] at hy
    cases hi with
    | none =>
      simp only [bnd] at hh
      subst hh
      have hb := fun code => run_sliceBound (P := P) w k' m' h code f2 (by omega)
      simp [Instr.sliceBounds, VR_int.1 hy, hb, f3]
    | some x =>
      obtain ⟨k, m, e1, e2, e3⟩ := hh
      have := hE x (.inr rfl)
      rw [e1] at this
      have hb := fun code => run_sliceBound (P := P) w k m cap code e2 (by omega)
      have hb' := fun code => run_sliceBound (P := P) w k' m' m.toNat code f2 (by omega)
      simp [Instr.sliceBounds, VR_int.1 this, VR_int.1 hy, hb, hb', e3, f3]

theorem od_slice_str {x : Operand} {lo hi : Option Operand} {t : TypeId} {s0 : List UInt8} {l h : Nat} {e : TyE} (hT : B.good) (ht : B.T[t]? = some (some e)) (hk : e.kind = .str) (hx : env.ev x = .str s0) (hl : bnd env lo 0 l) (hh : bnd env hi s0.length h) (h1 : l ≤ h) (h2 : h ≤ s0.length) :
    OpD B ⟨d, .slice t x lo hi none, ty, ps, af, g⟩ env [] H (.str ((s0.take h).drop l)) [] :=
  opd_pure fun s a _ hv => by
    have e1 := hv x (by simp [Op.operands])
    rw [hx] at e1
    have hu := (hT.ty ht).str hk
    have hb := run_sliceBounds (P := B.P) (w := s.w) (s := s) (env := env) (a := a) false (len := (⟨s0.toArray⟩ : ByteArray).size) (cap := (⟨s0.toArray⟩ : ByteArray).size) (lo := lo) (hi := hi) (l := l) (h := h) (fun y hy => hv y (by rcases hy with rfl | rfl <;> simp [Op.operands])) hl (by simpa [ByteArray.size] using hh) h1 (by simpa [ByteArray.size] using h2)
    refine ⟨.string ((⟨s0.toArray⟩ : ByteArray).extract l h), ?_, VR_str.2 ?_⟩
    · simp only [execOp, VR_str.1 e1, Instr.sliceAt, Instr.slice, Sem.run_bind, Sem.run_pure, Result.andThen_ok, run_underlying hu, Option.map_none, Option.isSome_none, Bool.false_eq_true, if_false, hb]
    · congr 1
      apply ByteArray.ext
      simp [ByteArray.data_extract, List.drop_take]

theorem run_sliceAt {P : Program} {w : World} {s : St} {env : Env} {a : Act} {t et : TypeId} {e ee : TyE} (h : Ty P t e) (hk : e.kind = .slice et) (he : Ty P et ee) {base : Option Addr} {len cap l m : Nat} {lo hi : Option Operand} (hE : ∀ x, (lo = some x ∨ hi = some x) → VR s (env.ev x) (a.eval x)) (hl : bnd env lo 0 l) (hh : bnd env hi len m) (h1 : l ≤ m) (h2 : m ≤ cap) :
    (Instr.sliceAt t (.slice base len cap) (lo.map a.eval) (hi.map a.eval) none).run P w = .ok (.slice (if cap = l then base else base.map (·.add (l * ee.size))) (m - l) (cap - l)) w := by
  have hu := h.slice hk
  have hb := run_sliceBounds (P := P) (w := w) (s := s) (env := env) (a := a) true (len := len) (cap := cap) (lo := lo) (hi := hi) (l := l) (h := m) hE hl hh h1 h2
  simp only [Instr.sliceAt, Instr.slice, Sem.run_bind, Sem.run_pure, Result.andThen_ok, run_underlying hu, hb, he.size w]

theorem od_slice_snap {x : Operand} {lo hi : Option Operand} {t et : TypeId} {z : Nat} {xs : List PV} {l m : Nat} {e ee : TyE} (hT : B.good) (ht : B.T[t]? = some (some e)) (hk : e.kind = .slice et) (he : B.T[et]? = some (some ee)) (hz : ee.size = z) (hx : env.ev x = .snap z xs) (hl : bnd env lo 0 l) (hh : bnd env hi xs.length m) (h1 : l ≤ m) (h2 : m ≤ xs.length) :
    OpD B ⟨d, .slice t x lo hi none, ty, ps, af, g⟩ env [] H (.snap z ((xs.take m).drop l)) [] :=
  opd_pure fun s a _ hv => by
    have e1 := hv x (by simp [Op.operands])
    rw [hx] at e1
    obtain ⟨base, cap, e2, e3, e4⟩ := snap_val e1
    have hrun := run_sliceAt (P := B.P) (w := s.w) (s := s) (env := env) (a := a) (hT.ty ht) hk (hT.ty he) (base := base) (len := xs.length) (cap := cap) (l := l) (m := m) (lo := lo) (hi := hi) (fun y hy => hv y (by rcases hy with rfl | rfl <;> simp [Op.operands])) hl hh h1 (by omega)
    refine ⟨_, by simp only [execOp, e2, Sem.run_bind, Sem.run_pure, Result.andThen_ok, Option.map_none, hrun]; rfl, VR_of_CR rfl ?_⟩
    have hlen : ((xs.take m).drop l).length = m - l := by simp; omega
    simp only [CR]
    refine ⟨_, _, by rw [hlen], by rw [hlen]; omega, ?_⟩
    by_cases hemp : m - l = 0
    · left; exact List.length_eq_zero_iff.1 (by rw [hlen, hemp])
    · right
      rcases e4 with rfl | ⟨b, off, rfl, k1, k2⟩
      · simp at h2; omega
      · refine ⟨b, off + l * z, by rw [if_neg (by omega)]; simp [Addr.add_mid, hz], k1, CRrow_of fun i y hi => ?_⟩
        rw [List.getElem?_drop, List.getElem?_take] at hi
        split at hi
        · obtain ⟨ecs, g1, g2, g3⟩ := CRrow_get k2 hi
          refine ⟨ecs, g1, g2, fun j c hj => ?_⟩
          rw [show off + l * z + i * z + j = off + (l + i) * z + j by rw [Nat.add_mul]; omega]
          exact g3 j c hj
        · cases hi

theorem od_slice_ref {x : Operand} {lo hi : Option Operand} {t et : TypeId} {id l0 off len : Nat} {blk : Blk} {l m : Nat} {e ee : TyE} (hT : B.good) (ht : B.T[t]? = some (some e)) (hk : e.kind = .slice et) (he : B.T[et]? = some (some ee)) (hx : env.ev x = .sref id l0 off len) (hb : H.get id = some blk) (hlen : blk.elems.length = l0) (hz : ee.size = blk.z) (hl : bnd env lo 0 l) (hh : bnd env hi len m) (h1 : l ≤ m) (h2 : m ≤ len) :
    OpD B ⟨d, .slice t x lo hi none, ty, ps, af, g⟩ env [id] H (.sref id l0 (off + l) (m - l)) [] := by
  intro env' H' hev hr
  have hpl : bnd env' lo 0 l := by
    cases lo with
    | none => exact hl
    | some y => obtain ⟨k, n, e1, e2⟩ := hl; exact ⟨k, n, by rw [hev y (by simp [Op.operands]), e1], e2⟩
  have hph : bnd env' hi len m := by
    cases hi with
    | none => exact hh
    | some y => obtain ⟨k, n, e1, e2⟩ := hh; exact ⟨k, n, by rw [hev y (by simp [Op.operands]), e1], e2⟩
  refine opw_quiet fun s a N ho hH hE => ?_
  have e1 := hE.ev x
  rw [hev x (by simp [Op.operands]), hx] at e1
  obtain ⟨_, blk', k1, k2, k3⟩ := VR_sref.1 e1
  have k1' := k1
  rw [hH, hr id (by simp), hb] at k1'
  obtain rfl : blk = blk' := by simpa using k1'
  obtain ⟨b, c, base, cap, m1, m2, m3, m4, m5, m6⟩ := k3 hlen
  have hrun := run_sliceAt (P := B.P) (w := s.w) (s := s) (env := env') (a := a) (hT.ty ht) hk (hT.ty he) (base := base) (len := len) (cap := cap) (l := l) (m := m) (lo := lo) (hi := hi) (fun y _ => hE.ev y) hpl hph h1 (by omega)
  refine ⟨_, by simp only [execOp, m2, Sem.run_bind, Sem.run_pure, Result.andThen_ok, Option.map_none, hrun]; rfl, VR_sref.2 ⟨⟨_, _, _, rfl⟩, blk, k1, k2, fun _ => ⟨b, c, _, _, m1, rfl, by omega, by omega, by omega, ?_⟩⟩⟩
  by_cases hcl : cap = l
  · left; omega
  · right
    rw [if_neg hcl]
    rcases m6 with m6 | m6
    · omega
    · rw [m6]; simp only [Option.map_some, Addr.add_mid, hz]; rw [Nat.add_mul]

theorem od_slice_nils {x : Operand} {lo hi : Option Operand} {t et : TypeId} {e ee : TyE} (hT : B.good) (ht : B.T[t]? = some (some e)) (hk : e.kind = .slice et) (he : B.T[et]? = some (some ee)) (hx : env.ev x = .nils) (hl : bnd env lo 0 0) (hh : bnd env hi 0 0) :
    OpD B ⟨d, .slice t x lo hi none, ty, ps, af, g⟩ env [] H .nils [] :=
  opd_pure fun s a _ hv => by
    have e1 := hv x (by simp [Op.operands])
    rw [hx] at e1
    have hrun := run_sliceAt (P := B.P) (w := s.w) (s := s) (env := env) (a := a) (hT.ty ht) hk (hT.ty he) (base := none) (len := 0) (cap := 0) (l := 0) (m := 0) (lo := lo) (hi := hi) (fun y hy => hv y (by rcases hy with rfl | rfl <;> simp [Op.operands])) hl hh (by omega) (by omega)
    exact ⟨.slice none 0 0, by simp only [execOp, VR_nils.1 e1, Sem.run_bind, Sem.run_pure, Result.andThen_ok, Option.map_none, hrun]; simp, VR_nils.2 rfl⟩

end ops
end Go.PM
/- Aggregates and slices that the code makes. -/
namespace Go.PM
open Go.RowKit

theorem foldl_set_get : ∀ (vs : List Value) (off : Nat) (k : Nat) (cells : Array Value) (j : Nat), off + k + vs.length ≤ cells.size →
    ((vs.zipIdx k).foldl (fun cs (x : Value × Nat) => cs.setIfInBounds (off + x.2) x.1) cells)[j]? = if off + k ≤ j ∧ j < off + k + vs.length then vs[j - (off + k)]? else cells[j]?
  | [], off, k, cells, j, _ => by
    rw [if_neg (by simp only [List.length_nil]; omega)]
    rfl
  | v :: vs, off, k, cells, j, h => by
    simp only [List.length_cons] at h ⊢
    rw [List.zipIdx_cons, List.foldl_cons, foldl_set_get vs off (k + 1) _ j (by simp; omega)]
    by_cases e : off + k = j
    · subst e
      rw [if_neg (by omega), if_pos (by omega), Array.getElem?_setIfInBounds_self_of_lt (by omega)]
      simp
    · rw [Array.getElem?_setIfInBounds_ne e]
      by_cases h1 : off + (k + 1) ≤ j ∧ j < off + (k + 1) + vs.length
      · rw [if_pos h1, if_pos (by omega), show j - (off + k) = j - (off + (k + 1)) + 1 by omega, List.getElem?_cons_succ]
      · rw [if_neg h1, if_neg (by omega)]

theorem foldl_set_toList (vs : List Value) (off : Nat) (cells : Array Value) (h : off + vs.length ≤ cells.size) :
    ((vs.zipIdx 0).foldl (fun cs (x : Value × Nat) => cs.setIfInBounds (off + x.2) x.1) cells).toList = cells.toList.take off ++ vs ++ cells.toList.drop (off + vs.length) := by
  apply List.ext_getElem?
  intro j
  rw [Array.getElem?_toList, foldl_set_get vs off 0 cells j (by omega)]
  have l1 : (List.take off cells.toList).length = off := by simp; omega
  by_cases h1 : off + 0 ≤ j ∧ j < off + 0 + vs.length
  · rw [if_pos h1, List.append_assoc, List.getElem?_append_right (by omega), List.getElem?_append_left (by omega), l1]
    congr 1
  · rw [if_neg h1]
    rcases Nat.lt_or_ge j off with h2 | h2
    · rw [List.append_assoc, List.getElem?_append_left (by omega), List.getElem?_take, if_pos h2, Array.getElem?_toList]
    · rw [List.append_assoc, List.getElem?_append_right (by omega), List.getElem?_append_right (by omega), List.getElem?_drop, l1, show off + vs.length + (j - off - vs.length) = j by omega, Array.getElem?_toList]

/-- One part of an aggregate laid over its cells. -/
def spliceL (cs : List PV) (off : Nat) (p : PV) : List PV :=
  match p with
  | .agg c => cs.take off ++ c ++ cs.drop (off + c.length)
  | p => cs.set off p

theorem spliceL_eq {cs : List PV} {off : Nat} {p : PV} (h : off + p.cells.length ≤ cs.length) : spliceL cs off p = cs.take off ++ p.cells ++ cs.drop (off + p.cells.length) := by
  cases p with
  | agg c => rfl
  | _ =>
    simp only [PV.cells, List.length_singleton] at h
    simp only [spliceL, PV.cells, List.length_singleton]
    rw [List.set_eq_take_append_cons_drop, if_pos (by omega)]
    simp

/-- The cells of an aggregate built out of parts. -/
def fillP (place : Nat → Option (Nat × Nat)) : List PV → List (Nat × PV) → Option (List PV)
  | cs, [] => some cs
  | cs, (i, p) :: r =>
    match place i with
    | some (off, size) => if p.ok1 && p.cells.length == size && decide (off + size ≤ cs.length) then fillP place (spliceL cs off p) r else none
    | none => none

theorem fill_ok {s : St} {place : Nat → Option (Nat × Nat)} : ∀ {qs : List (Nat × PV)} {vs : List (Nat × Value)} {cs cs' : List PV} {cells : Array Value}, qs.map (·.1) = vs.map (·.1) → (∀ (j : Nat) (q : Nat × PV) (v : Nat × Value), qs[j]? = some q → vs[j]? = some v → VR s q.2 v.2) →
    CRl s.w s.S (RR s) cs cells.toList → fillP place cs qs = some cs' → ∃ cells', Instr.fill place cells vs = some cells' ∧ CRl s.w s.S (RR s) cs' cells'.toList
  | [], [], cs, cs', cells, _, _, hc, hf => by
    simp only [fillP, Option.some.injEq] at hf
    subst hf
    exact ⟨cells, rfl, hc⟩
  | [], _ :: _, _, _, _, h, _, _, _ => by simp at h
  | _ :: _, [], _, _, _, h, _, _, _ => by simp at h
  | (i, p) :: qs, (i', v) :: vs, cs, cs', cells, h, hv, hc, hf => by
    simp only [List.map_cons, List.cons.injEq] at h
    obtain ⟨rfl, h⟩ := h
    simp only [fillP] at hf
    cases hp : place i with
    | none => rw [hp] at hf; cases hf
    | some os =>
      obtain ⟨off, size⟩ := os
      rw [hp] at hf
      simp only at hf
      split at hf
      · rename_i hcond
        simp only [Bool.and_eq_true, beq_iff_eq, decide_eq_true_eq] at hcond
        obtain ⟨⟨c1, c2⟩, c3⟩ := hcond
        have hv0 := hv 0 (i, p) (i, v) (by simp) (by simp)
        have hcv := VR_cells c1 hv0
        have hlv := CR_length hcv
        have hl := CRl_length hc
        have hlv' : v.cells.size = size := by rw [← c2, ← hlv]; simp
        have hsz : off + v.cells.size ≤ cells.size := by
          have : cells.size = cs.length := by rw [← hl]; simp
          omega
        have hfold := foldl_set_toList v.cells.toList off cells (by simpa using hsz)
        have lt1 : v.cells.toList.length = v.cells.size := by simp
        have lt2 : cells.toList.length = cells.size := by simp
        have hnew : CRl s.w s.S (RR s) (spliceL cs off p) ((v.cells.zipIdx.foldl (fun cs (x : Value × Nat) => cs.setIfInBounds (off + x.2) x.1) cells).toList) := by
          have e1 : (v.cells.zipIdx.foldl (fun cs (x : Value × Nat) => cs.setIfInBounds (off + x.2) x.1) cells) = (v.cells.toList.zipIdx.foldl (fun cs (x : Value × Nat) => cs.setIfInBounds (off + x.2) x.1) cells) := by
            rw [← Array.foldl_toList]; simp
          rw [e1, hfold, spliceL_eq (by omega)]
          refine CRl_of ?_ fun j f u hf hu => ?_
          · simp only [List.length_append, List.length_take, List.length_drop]; omega
          · have h1 := CRl_sub hc 0 off
            have h3 := CRl_sub hc (off + size) cells.toList.length
            have cp := CR_cells hcv
            have l1 : (List.take off cs).length = off := by simp; omega
            have l2 : (List.take off cells.toList).length = off := by simp; omega
            rw [List.append_assoc, List.getElem?_append] at hf hu
            rw [l1] at hf
            rw [l2] at hu
            by_cases hlt : j < off
            · rw [if_pos hlt] at hf hu
              obtain ⟨x, h4, h5⟩ := CRl_get (by simpa using h1) hf
              rw [hu] at h4
              obtain rfl : u = x := by simpa using h4
              exact h5
            · rw [if_neg hlt, List.getElem?_append] at hf hu
              by_cases hlt' : j - off < p.cells.length
              · rw [if_pos hlt'] at hf
                rw [if_pos (by omega)] at hu
                obtain ⟨x, h4, h5⟩ := CRl_get cp hf
                rw [hu] at h4
                obtain rfl : u = x := by simpa using h4
                exact h5
              · rw [if_neg hlt'] at hf
                rw [if_neg (by omega)] at hu
                have hf' : (List.take cells.toList.length (List.drop (off + size) cs))[j - off - p.cells.length]? = some f := by
                  rw [List.take_of_length_le (by simp only [List.length_drop]; omega), ← c2]; exact hf
                obtain ⟨x, h4, h5⟩ := CRl_get h3 hf'
                rw [List.take_of_length_le (by simp)] at h4
                rw [hlv, show off + p.cells.length = off + size by omega] at hu
                rw [h4] at hu
                obtain rfl : x = u := by simpa using hu
                exact h5
        obtain ⟨cells', g1, g2⟩ := fill_ok (qs := qs) (vs := vs) h (fun j q u hq hu => hv (j + 1) q u (by simpa using hq) (by simpa using hu)) hnew hf
        refine ⟨cells', ?_, g2⟩
        simp only [Instr.fill, hp]
        rw [if_neg (by simp [hlv']; omega)]
        exact g1
      · cases hf

section ops
variable {B : Base} {d : Option Nat} {ty : TypeId} {ps : String} {af : Array Edge} {g : Option (Nat × Bool)} {env : Env} {H : Heap}

/-- Where a struct's fields lie, and how large they are. -/
def placeP (B : Base) (fs : List (Nat × Nat)) (i : Nat) : Option (Nat × Nat) :=
  match fs[i]? with
  | some (off, ft) => (match B.T[ft]? with
    | some (some fe) => some (off, fe.size)
    | _ => none)
  | none => none

theorem fill_place {place place' : Nat → Option (Nat × Nat)} : ∀ {vs : List (Nat × Value)} {cells cells' : Array Value}, (∀ i ∈ vs.map (·.1), ∀ r, place i = some r → place' i = some r) → Instr.fill place cells vs = some cells' → Instr.fill place' cells vs = some cells'
  | [], _, _, _, h => h
  | (i, v) :: vs, cells, cells', hp, h => by
    simp only [Instr.fill] at h ⊢
    cases hq : place i with
    | none => rw [hq] at h; cases h
    | some r =>
      obtain ⟨off, size⟩ := r
      rw [hq] at h
      rw [hp i (by simp) _ hq]
      simp only at h ⊢
      split at h
      · cases h
      · rename_i hc
        rw [if_neg hc]
        exact fill_place (fun i hi => hp i (by simp [hi])) h

theorem run_mapM_sizes {P : Program} {w : World} : ∀ (fs : List Field), (∀ f ∈ fs, (P.info? f.type).isSome = true) →
    (fs.mapM (fun (f : Field) => (do pure (f.offset, ← sizeOf f.type) : Sem (Nat × Nat)))).run P w = .ok (fs.map fun f => (f.offset, P.cellsOf f.type)) w
  | [], _ => by simp
  | f :: fs, h => by
    obtain ⟨i, hi⟩ := Option.isSome_iff_exists.1 (h f (by simp))
    have ih := run_mapM_sizes (P := P) (w := w) fs (fun f hf => h f (by simp [hf]))
    rw [List.mapM_cons]
    simp only [Sem.run_bind, run_sizeOf w hi, Result.andThen_ok, Sem.run_pure, ih, List.map_cons]

theorem od_build {t : TypeId} {parts : Array (Nat × Operand)} {e : TyE} {fs : List (Nat × Nat)} {qs : List (Nat × PV)} {cs : List PV} (hT : B.good) (ht : B.T[t]? = some (some e)) (hk : e.kind = .struct fs) (hz : e.zero ≠ [])
    (hall : fs.all (fun f => match B.T[f.2]? with | some (some _) => true | _ => false) = true) (hq : parts.toList.map (fun x => (x.1, env.ev x.2)) = qs) (hf : fillP (placeP B fs) e.zero qs = some cs) : OpD B ⟨d, .build t parts, ty, ps, af, g⟩ env [] H (.agg cs) [] :=
  opd_pure fun s a _ hv => by
    have h := hT.ty ht
    obtain ⟨fields, hu, rfl⟩ := h.struct hk
    obtain ⟨i, dd, z, hi, _, hs, _, _, hzz, h1, h2⟩ := h.ok
    have h1 := h1.resolve_left hz
    have hc : CRl s.w s.S (RR s) e.zero z.cells.toList := zerosOk_CRl h1
    obtain ⟨cells', g1, g2⟩ := fill_ok (s := s) (vs := parts.toList.map fun x => (x.1, a.eval x.2)) (by rw [← hq]; simp) (fun j q v hq' hv' => by
      rw [← hq] at hq'
      simp only [List.getElem?_map, Option.map_eq_some_iff] at hq' hv'
      obtain ⟨x, k1, rfl⟩ := hq'
      obtain ⟨y, k2, rfl⟩ := hv'
      rw [k1] at k2
      obtain rfl : x = y := by simpa using k2
      exact hv x.2 (by
        simp only [Op.operands]
        have : x ∈ parts.toList := List.mem_of_getElem? k1
        simp only [List.mem_toArray, List.mem_map]
        exact ⟨x, this, rfl⟩)) hc hf
    have hsome : ∀ f ∈ fields.toList, (B.P.info? f.type).isSome = true := by
      intro f hf
      rw [List.all_eq_true] at hall
      have := hall (f.offset, f.type) (by simp only [List.mem_map]; exact ⟨f, hf, rfl⟩)
      simp only at this
      split at this
      · rename_i fe hfe
        obtain ⟨i, hi, _⟩ := (hT.ty hfe).info
        simp [hi]
      · cases this
    have hm := run_mapM_sizes (P := B.P) (w := s.w) fields.toList hsome
    have hm' : (fields.mapM (fun (f : Field) => (do pure (f.offset, ← sizeOf f.type) : Sem (Nat × Nat)))).run B.P s.w = .ok (fields.toList.map fun f => (f.offset, B.P.cellsOf f.type)).toArray s.w := by
      rw [Array.mapM_eq_mapM_toList]
      simp only [← bind_pure_comp, Sem.run_bind, hm, Result.andThen_ok, Sem.run_pure]
    refine ⟨.agg cells', ?_, VR_agg.2 ⟨cells', rfl, g2⟩⟩
    have hfill := fill_place (place' := fun i => (fields.toList.map fun f => (f.offset, B.P.cellsOf f.type)).toArray[i]?) (fun i _ r hr => by
      unfold placeP at hr
      simp only [List.getElem?_map] at hr
      simp only [List.getElem?_toArray, List.getElem?_map]
      cases hfi : fields.toList[i]? with
      | none => rw [hfi] at hr; cases hr
      | some f =>
        rw [hfi] at hr
        simp only [Option.map_some] at hr ⊢
        split at hr
        · rename_i fe hfe
          obtain ⟨i, hi, hsz, _⟩ := (hT.ty hfe).info
          rw [← hr]
          simp [Program.cellsOf, hi, hsz]
        · cases hr) g1
    have hzv : (zeroValue t).run B.P s.w = .ok z s.w := by simp [zeroValue, typeInfo, hi, hzz]
    simp only [execOp, Instr.build, Sem.run_bind, hzv, Result.andThen_ok, run_underlying hu, hm', Array.toList_map, Sem.run_pure]
    have e1 : parts.toList.map (fun (x : Nat × Operand) => match x with | (i, x) => (i, a.eval x)) = parts.toList.map fun x => (x.1, a.eval x.2) := rfl
    rw [e1, hfill]
    simp

end ops
end Go.PM
/- Equality of structs; slices that the code makes. -/
namespace Go.PM
open Go.RowKit

/-- Equality of two cells of data. -/
def eqCell : PV → PV → Bool
  | .int _ a, .int _ b => a == b
  | .bool a, .bool b => a == b
  | .str a, .str b => a == b
  | _, _ => false

def eqCells : List PV → List PV → Bool
  | [], [] => true
  | p :: ps, q :: qs => eqCell p q && eqCells ps qs
  | _, _ => false

/-- A struct's fields are plain cells in their order, from place k on. -/
def plainFs (B : Base) : Nat → List Field → List PV → List PV → Bool
  | _, [], [], [] => true
  | k, f :: fs, p :: ps, q :: qs => f.name != "_" && f.offset == k && (match B.T[f.type]? with
      | some (some e) => (match e.kind, p, q with
        | .int _, .int k1 _, .int k2 _ => k1 == k2
        | .bool, .bool _, .bool _ => true
        | .str, .str _, .str _ => true
        | _, _, _ => false)
      | _ => false) && plainFs B (k + 1) fs ps qs
  | _, _, _, _ => false

theorem run_eqFields {B : Base} (hT : B.good) {s : St} (d : Nat) (xs ys : Array Value) : ∀ (fs : List Field) (k : Nat) (ps qs : List PV), plainFs B k fs ps qs = true →
    (∀ j p, ps[j]? = some p → ∃ v, xs[k + j]? = some v ∧ VR s p v) → (∀ j p, qs[j]? = some p → ∃ v, ys[k + j]? = some v ∧ VR s p v) →
    (Op.eqFields (d + 1) xs ys fs).run B.P s.w = .ok (eqCells ps qs) s.w
  | [], k, [], [], _, _, _ => rfl
  | [], _, [], _ :: _, h, _, _ => by simp [plainFs] at h
  | [], _, _ :: _, _, h, _, _ => by simp [plainFs] at h
  | _ :: _, _, [], _, h, _, _ => by simp [plainFs] at h
  | _ :: _, _, _ :: _, [], h, _, _ => by simp [plainFs] at h
  | f :: fs, k, p :: ps, q :: qs, h, hx, hy => by
    simp only [plainFs, Bool.and_eq_true, bne_iff_ne, ne_eq, beq_iff_eq] at h
    obtain ⟨⟨⟨h1, h2⟩, h3⟩, h4⟩ := h
    obtain ⟨u, hu, hpu⟩ := hx 0 p (by simp)
    obtain ⟨v, hv, hqv⟩ := hy 0 q (by simp)
    have ih := run_eqFields hT d xs ys fs (k + 1) ps qs h4 (fun j p hp => by
      obtain ⟨v, h5, h6⟩ := hx (j + 1) p (by simpa using hp)
      exact ⟨v, by rw [← h5]; congr 1; omega, h6⟩) (fun j p hp => by
      obtain ⟨v, h5, h6⟩ := hy (j + 1) p (by simpa using hp)
      exact ⟨v, by rw [← h5]; congr 1; omega, h6⟩)
    split at h3
    · rename_i e he
      have hty := hT.ty he
      have hag := hty.agg s.w
      have part1 : ∀ (cs : Array Value) (v : Value), e.isAgg = false → cs[k]? = some v → (part f.type cs f.offset).run B.P s.w = .ok v s.w := by
        intro cs v ha hv
        rw [h2]
        simp [part, hag, ha, hv]
      obtain ⟨i, dd, z, _, hun, _, _, hkk, _⟩ := hty.ok
      simp only [Nat.add_zero] at hu hv
      split at h3
      · rename_i k0 k1 a k2 b hk
        obtain rfl := VR_int.1 hpu
        obtain rfl := VR_int.1 hqv
        have ha : e.isAgg = false := by simp [TyE.isAgg, hk]
        obtain ⟨kk, rfl⟩ : ∃ kk, dd = .int kk := by rw [hk] at hkk; cases dd <;> simp [kindOk] at hkk; exact ⟨_, rfl⟩
        obtain rfl : k1 = k2 := by simpa using h3
        simp only [Op.eqFields, if_pos h1, Sem.run_bind, part1 xs _ ha hu, part1 ys _ ha hv, Result.andThen_ok, run_equalIn_int s.w d f.type k1 kk a b hun]
        cases hab : (a == b)
        · simp [eqCells, eqCell, hab]
        · simp [eqCells, eqCell, hab, ih]
      · rename_i a b hk
        obtain rfl := VR_bool.1 hpu
        obtain rfl := VR_bool.1 hqv
        have ha : e.isAgg = false := by simp [TyE.isAgg, hk]
        obtain rfl : dd = .bool := by rw [hk] at hkk; cases dd <;> simp [kindOk] at hkk; rfl
        simp only [Op.eqFields, if_pos h1, Sem.run_bind, part1 xs _ ha hu, part1 ys _ ha hv, Result.andThen_ok, run_equalIn_bool' s.w d f.type a b hun]
        cases hab : (a == b)
        · simp [eqCells, eqCell, hab]
        · simp [eqCells, eqCell, hab, ih]
      · rename_i a b hk
        obtain rfl := VR_str.1 hpu
        obtain rfl := VR_str.1 hqv
        have ha : e.isAgg = false := by simp [TyE.isAgg, hk]
        obtain rfl : dd = .string := by rw [hk] at hkk; cases dd <;> simp [kindOk] at hkk; rfl
        simp only [Op.eqFields, if_pos h1, Sem.run_bind, part1 xs _ ha hu, part1 ys _ ha hv, Result.andThen_ok, run_equalIn_string s.w d f.type _ _ hun, toList_mk]
        cases hab : (a == b)
        · simp [eqCells, eqCell, hab]
        · simp [eqCells, eqCell, hab, ih]
      · cases h3
    · cases h3

section ops
variable {B : Base} {d : Option Nat} {ty : TypeId} {ps : String} {af : Array Edge} {g : Option (Nat × Bool)} {env : Env} {H : Heap}

theorem agg_cells {s : St} {fs : List PV} {v : Value} (h : VR s (.agg fs) v) (hs : fs.all PV.scal = true) : ∃ xs : Array Value, v = .agg xs ∧ ∀ j p, fs[j]? = some p → ∃ u, xs[0 + j]? = some u ∧ VR s p u := by
  obtain ⟨cs, rfl, h2⟩ := VR_agg.1 h
  refine ⟨cs, rfl, fun j p hj => ?_⟩
  obtain ⟨u, h3, h4⟩ := CRl_get h2 hj
  rw [List.all_eq_true] at hs
  exact ⟨u, by simpa using h3, VR_of_CR (hs p (List.mem_of_getElem? hj)) h4⟩

theorem od_eqs {t t' : TypeId} {x y : Operand} {fs gs : List PV} {fields : List Field} (hT : B.good) (hu : B.P.underlying t = some (.struct fields.toArray)) (hh : B.P.stoodInHeld t = false) (hg : B.P.eqGuardType B.P.depth t = false)
    (hx : env.ev x = .agg fs) (hy : env.ev y = .agg gs) (h1 : fs.all PV.scal = true) (h2 : gs.all PV.scal = true) (hp : plainFs B 0 fields fs gs = true) :
    OpD B ⟨d, .binOp .eql t x y t', ty, ps, af, g⟩ env [] H (.bool (eqCells fs gs)) [] :=
  opd_pure fun s a _ h => by
    have e1 := h x (by simp [Op.operands])
    have e2 := h y (by simp [Op.operands])
    rw [hx] at e1
    rw [hy] at e2
    obtain ⟨xs, k1, k2⟩ := agg_cells e1 h1
    obtain ⟨ys, k3, k4⟩ := agg_cells e2 h2
    have hf : B.P.fieldsOf t = fields.toArray := by simp [Program.fieldsOf, hu]
    have hrun := run_eqFields hT (s := s) 9998 xs ys fields 0 fs gs hp k2 k4
    have hin := run_equalIn_agg (P := B.P) s.w 9999 t xs ys (by rw [hf]; exact hu) hh
    rw [hf] at hin
    simp only at hin
    rw [hrun] at hin
    exact ⟨.bool (eqCells fs gs), by simp only [execOp, k1, k3, Sem.run_bind, run_eqGuard_agg s.w .eql t x y xs ys hg, Result.andThen_ok, run_eql_struct, hin, Sem.run_pure], VR_bool.2 rfl⟩

theorem od_nes {t t' : TypeId} {x y : Operand} {fs gs : List PV} {fields : List Field} (hT : B.good) (hu : B.P.underlying t = some (.struct fields.toArray)) (hh : B.P.stoodInHeld t = false) (hg : B.P.eqGuardType B.P.depth t = false)
    (hx : env.ev x = .agg fs) (hy : env.ev y = .agg gs) (h1 : fs.all PV.scal = true) (h2 : gs.all PV.scal = true) (hp : plainFs B 0 fields fs gs = true) :
    OpD B ⟨d, .binOp .neq t x y t', ty, ps, af, g⟩ env [] H (.bool (!eqCells fs gs)) [] :=
  opd_pure fun s a _ h => by
    have e1 := h x (by simp [Op.operands])
    have e2 := h y (by simp [Op.operands])
    rw [hx] at e1
    rw [hy] at e2
    obtain ⟨xs, k1, k2⟩ := agg_cells e1 h1
    obtain ⟨ys, k3, k4⟩ := agg_cells e2 h2
    have hf : B.P.fieldsOf t = fields.toArray := by simp [Program.fieldsOf, hu]
    have hrun := run_eqFields hT (s := s) 9998 xs ys fields 0 fs gs hp k2 k4
    have hin := run_equalIn_agg (P := B.P) s.w 9999 t xs ys (by rw [hf]; exact hu) hh
    rw [hf] at hin
    simp only at hin
    rw [hrun] at hin
    exact ⟨.bool (!eqCells fs gs), by simp only [execOp, k1, k3, Sem.run_bind, run_eqGuard_agg s.w .neq t x y xs ys hg, Result.andThen_ok, run_neq_struct, hin, Sem.run_pure], VR_bool.2 rfl⟩

/-- The whole slice that a new block is. -/
theorem VR_add_ref {s : St} {o : Obj} {id c : Nat} {blk : Blk} (hle : blk.elems.length ≤ c) (cap : Nat) (hcap : cap = c) : VR (s.add o id c blk) (.sref id blk.elems.length 0 blk.elems.length) (.slice (some ⟨s.w.heap.size, 0, none⟩) blk.elems.length cap) :=
  VR_sref.2 ⟨⟨_, _, _, rfl⟩, blk, by simp [St.add, Heap.get_cons], Nat.le_refl _, fun _ => ⟨s.w.heap.size, c, _, _, by simp [St.add], rfl, by omega, by omega, by omega, .inr (by simp)⟩⟩

/-- What is laid into a slice literal, element by element. -/
theorem fill_enum {s : St} {z : Nat} : ∀ {qs : List PV} {vs : List Value} (k : Nat) {cells : Array Value}, qs.length = vs.length → (∀ (j : Nat) (q : PV) (v : Value), qs[j]? = some q → vs[j]? = some v → VR s q v) → (∀ q ∈ qs, q.ok1 = true ∧ q.cells.length = z) →
    (k + qs.length) * z ≤ cells.size → ∃ cells', Instr.fill (fun i => some (i * z, z)) cells ((vs.zipIdx k).map fun x => (x.2, x.1)) = some cells' ∧ cells'.size = cells.size ∧ (∀ j, j < k * z → cells'[j]? = cells[j]?) ∧
      ∀ (i : Nat) (q : PV), qs[i]? = some q → ∃ ecs, ecs.length = z ∧ CR s.w s.S (RR s) q ecs ∧ ∀ j v, ecs[j]? = some v → cells'[(k + i) * z + j]? = some v
  | [], [], k, cells, _, _, _, _ => ⟨cells, rfl, rfl, fun _ _ => rfl, fun i q h => by simp at h⟩
  | [], _ :: _, _, _, h, _, _, _ => by simp at h
  | _ :: _, [], _, _, h, _, _, _ => by simp at h
  | q :: qs, v :: vs, k, cells, hl, hv, hq, hsz => by
    obtain ⟨hq1, hq2⟩ := hq q (by simp)
    have hcv := VR_cells hq1 (hv 0 q v (by simp) (by simp))
    have hlv := CR_length hcv
    have hvs : v.cells.size = z := by rw [← hq2, ← hlv]; simp
    have hsz' : k * z + z ≤ cells.size := by
      have : (k + 1) * z ≤ (k + (q :: qs).length) * z := Nat.mul_le_mul_right _ (by simp)
      rw [Nat.succ_mul] at this
      omega
    have hget := fun j => foldl_set_get v.cells.toList (k * z) 0 cells j (by simp; omega)
    generalize hc2 : (v.cells.toList.zipIdx 0).foldl (fun cs (x : Value × Nat) => cs.setIfInBounds (k * z + x.2) x.1) cells = cells2 at hget
    have hs2 : cells2.size = cells.size := by
      rw [← hc2]
      have : ∀ (l : List (Value × Nat)) (c : Array Value), (l.foldl (fun cs (x : Value × Nat) => cs.setIfInBounds (k * z + x.2) x.1) c).size = c.size := by
        intro l
        induction l with
        | nil => intro c; rfl
        | cons x l ih => intro c; rw [List.foldl_cons, ih]; simp
      exact this _ _
    obtain ⟨cells', g1, g2, g3, g4⟩ := fill_enum (s := s) (z := z) (qs := qs) (vs := vs) (k + 1) (cells := cells2) (by simpa using hl) (fun j q v h1 h2 => hv (j + 1) q v (by simpa using h1) (by simpa using h2)) (fun q h => hq q (by simp [h])) (by
      rw [hs2]; simp only [List.length_cons] at hsz; rw [show k + 1 + qs.length = k + (qs.length + 1) by omega]; exact hsz)
    have hmul : (k + 1) * z = k * z + z := Nat.succ_mul k z
    refine ⟨cells', ?_, g2.trans hs2, fun j hj => ?_, fun i p hi => ?_⟩
    · simp only [List.zipIdx_cons, List.map_cons, Instr.fill]
      rw [if_neg (by simp [hvs]; omega)]
      have : (v.cells.zipIdx.foldl (fun cs (x : Value × Nat) => cs.setIfInBounds (k * z + x.2) x.1) cells) = cells2 := by
        rw [← hc2, ← Array.foldl_toList]; simp
      rw [this]
      exact g1
    · rw [g3 j (by omega), hget j, if_neg (by omega)]
    · cases i with
      | zero =>
        obtain rfl : q = p := by simpa using hi
        refine ⟨v.cells.toList, by simpa using hvs, hcv, fun j u hj => ?_⟩
        have hjl : j < z := by
          rcases Nat.lt_or_ge j v.cells.toList.length with h | h
          · simpa [hvs] using h
          · rw [List.getElem?_eq_none h] at hj; cases hj
        rw [Nat.add_zero, g3 _ (by omega), hget, if_pos (by simp [hvs]; omega)]
        rw [← hj]; congr 1; omega
      | succ i =>
        obtain ⟨ecs, m1, m2, m3⟩ := g4 i p (by simpa using hi)
        exact ⟨ecs, m1, m2, fun j u hj => by rw [show k + (i + 1) = k + 1 + i by omega]; exact m3 j u hj⟩

theorem od_buildSlice {t et : TypeId} (id : Nat) (dt : Bool) {n : Nat} {parts : Array (Nat × Operand)} {e ee : TyE} {qs : List PV} (hT : B.good) (ht : B.T[t]? = some (some e)) (hk : e.kind = .slice et) (he : B.T[et]? = some (some ee))
    (hidx : parts.toList.map (·.1) = List.range n) (hq : parts.toList.map (fun x => env.ev x.2) = qs) (hok : qs.all (fun q => q.ok1 && q.cells.length == ee.size) = true) (hd : dt = true → qs.all PV.isD = true) (hbig : n * ee.size ≤ 16777216) (hid : H.get id = none) (hk1 : id < 1000000 := by omega) :
    OpD B ⟨d, .buildSlice t n parts, ty, ps, af, g⟩ env [id] H (.sref id n 0 n) [(id, ⟨ee.size, true, dt, qs⟩)] := by
  have hlen : qs.length = n := by rw [← hq]; have := congrArg List.length hidx; simpa using this
  intro env' H' hev hr s a N ho hH hE
  have hid' : s.H.get id = none := by rw [hH, hr id (by simp), hid]
  have hvs : ∀ (j : Nat) (q : PV) (v : Value), qs[j]? = some q → (parts.toList.map fun x => a.eval x.2)[j]? = some v → VR s q v := by
    intro j q v h1 h2
    rw [← hq] at h1
    simp only [List.getElem?_map, Option.map_eq_some_iff] at h1 h2
    obtain ⟨x, k1, rfl⟩ := h1
    obtain ⟨y, k2, rfl⟩ := h2
    rw [k1] at k2
    obtain rfl : x = y := by simpa using k2
    rw [← hev x.2 (by
      simp only [Op.operands]
      have : x ∈ parts.toList := List.mem_of_getElem? k1
      simp only [List.mem_toArray, List.mem_map]
      exact ⟨x, this, rfl⟩)]
    exact hE.ev _
  have hqok : ∀ q ∈ qs, q.ok1 = true ∧ q.cells.length = ee.size := by
    intro q hm
    rw [List.all_eq_true] at hok
    simpa using hok q hm
  have hu := (hT.ty ht).slice hk
  obtain ⟨i, dd, z, hi, _, hs, _, _, hzz, _⟩ := (hT.ty he).ok
  have hzv : (zeroValue et).run B.P s.w = .ok z s.w := by simp [zeroValue, typeInfo, hi, hzz]
  let zero : Array Value := if n * ee.size = 0 then #[] else z.cells
  obtain ⟨cells', g1, g2, _, g4⟩ := fill_enum (s := s) (z := ee.size) (qs := qs) (vs := parts.toList.map fun x => a.eval x.2) 0 (cells := (Array.range (n * ee.size)).map (zero[· % zero.size]!)) (by simp [← hq]) hvs hqok (by simp [hlen])
  have hzip : ((parts.toList.map fun x => a.eval x.2).zipIdx 0).map (fun x => (x.2, x.1)) = parts.toList.map fun x => (x.1, a.eval x.2) := by
    apply List.ext_getElem?
    intro j
    have h1 := congrArg (fun l => l[j]?) hidx
    simp only [List.getElem?_map, List.getElem?_zipIdx, Option.map_map] at h1 ⊢
    cases hj : parts.toList[j]? with
    | none => simp
    | some x =>
      rw [hj] at h1
      simp only [Option.map_some] at h1 ⊢
      have hjn : j < n := by
        rcases Nat.lt_or_ge j n with h | h
        · exact h
        · rw [List.getElem?_eq_none (by simpa using h)] at h1; cases h1
      rw [List.getElem?_range hjn] at h1
      obtain ⟨x1, x2⟩ := x
      have h2 : x1 = j := by simpa using h1
      simp [h2]
  rw [hzip] at g1
  have hcsz : cells'.size = n * ee.size := by rw [g2]; simp
  have hrun : (execOp a.eval (⟨d, .buildSlice t n parts, ty, ps, af, g⟩ : Oper)).run B.P s.w = .ok (.value (.slice (some ⟨s.w.heap.size, 0, none⟩) n n)) (s.w.alloc (.cells cells' et)) := by
    have e1 : parts.toList.map (fun (x : Nat × Operand) => match x with | (i, x) => (i, a.eval x)) = parts.toList.map fun x => (x.1, a.eval x.2) := rfl
    simp only [execOp, Instr.buildSlice, Sem.run_bind, run_underlying hu, Result.andThen_ok, (hT.ty he).size s.w, if_neg (show ¬ n * ee.size > 2 ^ 24 by omega), Sem.run_pure, Array.toList_map]
    rw [e1]
    by_cases h : n * ee.size = 0
    · simp only [zero, if_pos h] at g1
      simp only [if_pos h, Sem.run_bind, Sem.run_pure, Result.andThen_ok]
      rw [g1]
      simp [newRow]
    · simp only [zero, if_neg h] at g1
      simp only [if_neg h, Sem.run_bind, hzv, Sem.run_pure, Result.andThen_ok]
      rw [g1]
      simp [newRow]
  unfold Yields
  rw [hrun]
  have hres := VR_add_ref (s := s) (o := .cells cells' et) (id := id) (c := n) (blk := ⟨ee.size, true, dt, qs⟩) (by simp [hlen]) n rfl
  simp only [hlen] at hres
  refine ⟨s.add (.cells cells' et) id n ⟨ee.size, true, dt, qs⟩, _, _, rfl, St.add_ok ho (fresh_of hid') rfl hcsz (by simp) (tk_lt hk1) (by simp [hlen]) (fun i x hi => ?_), St.add_ext (fresh_of hid'), hres, has_cons hH rfl, rfl, rfl⟩
  obtain ⟨ecs, m1, m2, m3⟩ := g4 i x hi
  refine ⟨ecs, m1, ?_, by simpa using m3⟩
  unfold St.R
  split
  · rename_i hdt
    have := hd hdt
    rw [List.all_eq_true] at this
    exact CR_isD (this x (List.mem_of_getElem? hi)) m2
  · exact m2

end ops
end Go.PM
/- append, make, copy, and conversions between bytes and strings. -/
namespace Go.PM
open Go.RowKit

def St.drew (s : St) : St := { s with w := s.w.drew }

theorem St.drew_ext (s : St) : Ext s s.drew := ⟨rfl, rfl, rfl, Nat.le_refl _, fun _ _ _ => rfl, fun _ h => h, fun _ h => .inl h, fun _ _ h => h, fun _ blk h => ⟨blk, h, rfl, Nat.le_refl _, fun _ => rfl⟩⟩

theorem St.drew_ok {B : Base} {s : St} (ho : s.ok B) : s.drew.ok B where
  lt := ho.lt
  blk id blk h := (ho.blk id blk h).keep s.drew_ext ho rfl (fun _ _ _ _ => rfl) (fun b c h1 h2 hl hS => by
    obtain ⟨b', c', k1, _, k3⟩ := ho.blk id blk h
    rw [h1] at k1
    obtain ⟨rfl, rfl⟩ : b = b' ∧ c = c' := by simpa using k1
    exact (k3 h2).2.2.1 hl hS)
  inj := ho.inj
  glob := ho.glob

/-- The same memory, said otherwise. -/
def St.re (s : St) (H : Heap) : St := { s with H := H }

theorem St.re_ext {s : St} {H : Heap} (h : s.has H) : Ext s (s.re H) := by
  have hl : ∀ b, (s.re H).liveImg b ↔ s.liveImg b := by
    intro b
    unfold St.liveImg
    have h' : ∀ k, H.get k = s.H.get k := fun k => (h k).symm
    simp only [St.re, h']
  exact ⟨rfl, rfl, rfl, Nat.le_refl _, fun _ _ _ => rfl, fun _ h => h, fun _ h => .inl h, fun b _ hb => (hl b).1 hb, fun id blk hb => ⟨blk, by show H.get id = some blk; rw [← h id]; exact hb, rfl, Nat.le_refl _, fun _ => rfl⟩⟩

theorem St.re_ok {B : Base} {s : St} {H : Heap} (h : s.has H) (ho : s.ok B) : (s.re H).ok B where
  lt := ho.lt
  blk id blk hb := by
    have hb' : s.H.get id = some blk := by rw [h]; exact hb
    refine (ho.blk id blk hb').keep (St.re_ext h) ho rfl (fun _ _ _ _ => rfl) (fun b c h1 h2 hl hS => ?_)
    obtain ⟨b', c', k1, _, k3⟩ := ho.blk id blk hb'
    rw [h1] at k1
    obtain ⟨rfl, rfl⟩ : b = b' ∧ c = c' := by simpa using k1
    exact (k3 h2).2.2.1 hl hS
  inj id id' blk blk' b c c' h1 h2 := ho.inj id id' blk blk' b c c' (by rw [h]; exact h1) (by rw [h]; exact h2)
  glob := ho.glob

/-- Cells, in a list, of elements of data. -/
def RowL (s : St) (z : Nat) (xs : List PV) (news : List Value) : Prop :=
  news.length = xs.length * z ∧ ∀ (i : Nat) (x : PV), xs[i]? = some x → ∃ ecs, ecs.length = z ∧ CR s.w s.S (fun _ _ => False) x ecs ∧ ∀ (j : Nat) (v : Value), ecs[j]? = some v → news[i * z + j]? = some v

/-- Where elements lie in a row of memory, a list of all cells. -/
theorem rowL_of {s : St} {z b : Nat} : ∀ (xs : List PV) (off : Nat), (∀ (i : Nat) (x : PV), xs[i]? = some x → ∃ ecs, ecs.length = z ∧ CR s.w s.S (fun _ _ => False) x ecs ∧ ∀ (j : Nat) (v : Value), ecs[j]? = some v → s.w.cell? ⟨b, off + i * z + j, none⟩ = some v) →
    ∃ news, RowL s z xs news ∧ (∀ (j : Nat) (u : Value), news[j]? = some u → s.w.cell? ⟨b, off + j, none⟩ = some u) ∧ ∀ u ∈ news, u.oneCell' = true
  | [], off, _ => ⟨[], ⟨by simp, fun i x h => by simp at h⟩, fun j u h => by simp at h, fun u h => by simp at h⟩
  | x :: xs, off, h => by
    obtain ⟨ecs, k1, k2, k3⟩ := h 0 x (by simp)
    obtain ⟨news, ⟨h1, h2⟩, h3, h4⟩ := rowL_of xs (off + z) (fun i y hi => by
      obtain ⟨es, m1, m2, m3⟩ := h (i + 1) y (by simpa using hi)
      exact ⟨es, m1, m2, fun j v hj => by rw [show off + z + i * z + j = off + (i + 1) * z + j by rw [Nat.succ_mul]; omega]; exact m3 j v hj⟩)
    refine ⟨ecs ++ news, ⟨by simp [h1, k1, Nat.succ_mul]; omega, fun i y hi => ?_⟩, fun j u hj => ?_, fun u hu => ?_⟩
    · cases i with
      | zero =>
        obtain rfl : x = y := by simpa using hi
        refine ⟨ecs, k1, k2, fun j v hj => ?_⟩
        rw [List.getElem?_append_left (by have := (List.getElem?_eq_some_iff.1 hj).1; omega)]
        simpa using hj
      | succ i =>
        obtain ⟨es, m1, m2, m3⟩ := h2 i y (by simpa using hi)
        refine ⟨es, m1, m2, fun j v hj => ?_⟩
        rw [List.getElem?_append_right (by rw [Nat.succ_mul]; omega), k1, show (i + 1) * z + j - z = i * z + j by rw [Nat.succ_mul]; omega]
        exact m3 j v hj
    · rcases Nat.lt_or_ge j ecs.length with hlt | hge
      · rw [List.getElem?_append_left hlt] at hj
        simpa using k3 j u hj
      · rw [List.getElem?_append_right hge] at hj
        have := h3 _ u hj
        rwa [show off + z + (j - ecs.length) = off + j by omega] at this
    · rcases List.mem_append.1 hu with hu | hu
      · exact CR_one (s := s) (CR_R (fun _ _ h => h.elim) k2) u hu
      · exact h4 u hu

/-- What the second argument of an append (or the source of a copy) yields, on the small reading's side. -/
inductive SrcP (B : Base) (H : Heap) (z : Nat) : TyE → PV → List PV → List Nat → Prop where
  | snap {e : TyE} {et : Nat} {xs : List PV} (hk : e.kind = .slice et) : SrcP B H z e (.snap z xs) xs []
  | nils {e : TyE} {et : Nat} (hk : e.kind = .slice et) : SrcP B H z e .nils [] []
  | str {e : TyE} {l : List UInt8} (hk : e.kind = .str) (hz : z = 1) : SrcP B H z e (.str l) (l.map fun b => .int .u8 b.toNat) []
  | ref {e : TyE} {et id l0 off len : Nat} {blk : Blk} (hk : e.kind = .slice et) (hb : H.get id = some blk) (hl : blk.elems.length = l0) (hd : blk.data = true) (hz : blk.z = z) (hle : off + len ≤ l0) : SrcP B H z e (.sref id l0 off len) ((blk.elems.drop off).take len) [id]

theorem first_of {P : Program} (w : World) {z m c : Nat} {a : Addr} {news : List Value} (hl : news.length = m * z) (h : ∀ (j : Nat) (u : Value), news[j]? = some u → w.cell? (a.add j) = some u) (n : Nat) (hn : n ≤ m) :
    (Builtin.firstCells z n (.slice (some a) m c)).run P w = .ok (news.take (n * z)).toArray w :=
  run_firstCells_some w z n a m c (news.take (n * z)) (by rw [List.length_take, hl]; have := Nat.mul_le_mul_right z hn; omega) (fun j u hj => by
    rw [List.getElem?_take] at hj
    split at hj
    · exact h j u hj
    · cases hj)

theorem SrcP.src {B : Base} (hT : B.good) {H : Heap} {z : Nat} {tx : TypeId} {e : TyE} {p : PV} {xs : List PV} {rd : List Nat} (ht : B.T[tx]? = some (some e)) (h : SrcP B H z e p xs rd) {s : St} (ho : s.ok B) (hH : ∀ k ∈ rd, s.H.get k = H.get k) {v : Value} (hv : VR s p v) :
    ∃ news, RowL s z xs news ∧ Src B.P z tx v xs.length news s.w ∧ ∀ n, n ≤ xs.length → (Builtin.firstCells z n v).run B.P s.w = .ok (news.take (n * z)).toArray s.w := by
  have empty : ∀ {et : Nat}, B.P.underlying tx = some (.slice et) → ∀ (a : Option Addr) (cap : Nat), v = .slice a 0 cap → RowL s z [] [] ∧ Src B.P z tx v 0 [] s.w ∧ ∀ n, n ≤ 0 → (Builtin.firstCells z n v).run B.P s.w = .ok (([] : List Value).take (n * z)).toArray s.w := by
    intro et hu a cap hva
    subst hva
    refine ⟨⟨by simp, fun i x h => by simp at h⟩, ⟨.inl ⟨_, hu⟩, fun _ => rfl, ?_, ?_, by simp, by simp⟩, fun n hn => ?_⟩
    · cases a with
      | none => rfl
      | some a => exact run_firstCells_some s.w z 0 a 0 cap [] (by simp) (by simp)
    · cases a with
      | none => rfl
      | some a => exact run_firstCells_some s.w.drew z 0 a 0 cap [] (by simp) (by simp)
    · obtain rfl : n = 0 := by omega
      cases a with
      | none => simp [Builtin.firstCells]
      | some a => simpa using run_firstCells_some (P := B.P) s.w z 0 a 0 cap [] (by simp) (by simp)
  cases h with
  | snap hk =>
    obtain ⟨a, cap, rfl, h1, h2⟩ := snap_val hv
    have hu := (hT.ty ht).slice hk
    rcases h2 with rfl | ⟨b, off, rfl, h3, h4⟩
    · exact ⟨[], empty hu a cap rfl⟩
    · obtain ⟨news, k1, k2, k3⟩ := rowL_of (s := s) (z := z) (b := b) xs off (fun i x hi => CRrow_get h4 hi)
      have k2' : ∀ (j : Nat) (u : Value), news[j]? = some u → s.w.cell? ((⟨b, off, none⟩ : Addr).add j) = some u := fun j u hj => by rw [Addr.add_mid]; exact k2 j u hj
      exact ⟨news, k1, Src.ofSlice s.w hu ⟨b, off, none⟩ xs.length cap news k1.1 k2' k3, fun n hn => first_of s.w k1.1 k2' n hn⟩
  | nils hk => exact ⟨[], empty ((hT.ty ht).slice hk) none 0 (VR_nils.1 hv)⟩
  | str hk hz =>
    rename_i l
    subst hz
    rw [VR_str.1 hv]
    have hs := Src.ofString (P := B.P) s.w ((hT.ty ht).str hk) ⟨l.toArray⟩
    have e1 : byteCells ⟨l.toArray⟩ = l.map fun b => Value.int .u8 b.toNat := by simp [byteCells]
    rw [e1] at hs
    have e2 : (⟨l.toArray⟩ : ByteArray).size = l.length := by simp [ByteArray.size]
    rw [e2] at hs
    refine ⟨l.map fun b => Value.int .u8 b.toNat, ⟨by simp, fun i x hi => ?_⟩, by simpa using hs, fun n hn => ?_⟩
    · simp only [List.getElem?_map, Option.map_eq_some_iff] at hi
      obtain ⟨b, h1, rfl⟩ := hi
      refine ⟨[.int .u8 b.toNat], rfl, by simp [CR], fun j v hj => ?_⟩
      cases j with
      | zero => obtain rfl : Value.int .u8 b.toNat = v := by simpa using hj
                simp [h1]
      | succ j => simp at hj
    · simp only [Builtin.firstCells, Sem.run_pure, Nat.mul_one, Result.ok.injEq, and_true]
      apply Array.ext'
      simp [ByteArray.data_extract]
  | ref hk hb hl hd hz hle =>
    rename_i et id l0 off len blk
    obtain ⟨_, blk', k1, k2, k3⟩ := VR_sref.1 hv
    have k1' := k1
    rw [hH id (by simp), hb] at k1'
    obtain rfl : blk = blk' := by simpa using k1'
    obtain ⟨b, c, a, cap, m1, m2, m3, m4, m5, m6⟩ := k3 hl
    have hu := (hT.ty ht).slice hk
    have hlen : ((blk.elems.drop off).take len).length = len := by simp; omega
    rw [hlen]
    by_cases h0 : len = 0
    · subst h0
      simp only [List.take_zero]
      exact ⟨[], empty hu a cap m2⟩
    · rw [m2]
      obtain ⟨b', c', n1, n2, n3⟩ := ho.blk id blk k1
      rw [m1] at n1
      obtain ⟨rfl, rfl⟩ : b = b' ∧ c = c' := by simpa using n1
      obtain ⟨_, n5, _⟩ := n3 (by omega)
      obtain rfl : a = some ⟨b, off * blk.z, none⟩ := by
        rcases m6 with m6 | m6
        · omega
        · exact m6
      obtain ⟨news, q1, q2, q3⟩ := rowL_of (s := s) (z := z) (b := b) ((blk.elems.drop off).take len) (off * blk.z) (fun i x hi => by
        rw [List.getElem?_take] at hi
        split at hi
        · rw [List.getElem?_drop] at hi
          obtain ⟨ecs, r1, r2, r3⟩ := n5 (off + i) x hi
          refine ⟨ecs, by rw [r1, hz], by simpa [St.R, hd] using r2, fun j v hj => ?_⟩
          have := r3 j v hj
          rw [Nat.add_mul, hz] at this
          rw [hz]
          exact this
        · cases hi)
      have q2' : ∀ (j : Nat) (u : Value), news[j]? = some u → s.w.cell? ((⟨b, off * blk.z, none⟩ : Addr).add j) = some u := fun j u hj => by rw [Addr.add_mid]; exact q2 j u hj
      exact ⟨news, q1, Src.ofSlice s.w hu ⟨b, off * blk.z, none⟩ len cap news (by rw [q1.1, hlen]) q2' q3, fun n hn => first_of s.w (by rw [q1.1, hlen]) q2' n hn⟩

end Go.PM
/- append onto a slice of the code's own. -/
namespace Go.PM
open Go.RowKit

theorem RowL.ext {B : Base} {s s' : St} (hx : Ext s s') (ho : s.ok B) {z : Nat} {xs : List PV} {news : List Value} (h : RowL s z xs news) : RowL s' z xs news :=
  ⟨h.1, fun i x hi => by
    obtain ⟨ecs, h1, h2, h3⟩ := h.2 i x hi
    exact ⟨ecs, h1, CR_mono hx.stab (fun b hb => hx.keep ho hb) _ _ _ _ (fun _ _ h => h) h2, h3⟩⟩

theorem Ty.zcells {P : Program} {t : TypeId} {e : TyE} (h : Ty P t e) (hz : e.zero ≠ []) (hl : e.zero.length = e.size) : ∃ i z, P.info? t = some i ∧ i.zero = some z ∧ i.size = e.size ∧ i.bytes = e.bytes ∧ z.cells.size = e.size := by
  obtain ⟨i, d, z, hi, _, hs, hb, _, hzz, h1, _⟩ := h.ok
  have h1 := h1.resolve_left hz
  have : ∀ (ps : List PV) (vs : List Value), zerosOk ps vs = true → ps.length = vs.length := by
    intro ps
    induction ps with
    | nil => intro vs h; cases vs <;> simp [zerosOk] at h ⊢
    | cons p ps ih =>
      intro vs h
      cases vs with
      | nil => simp [zerosOk] at h
      | cons v vs => simp only [zerosOk, Bool.and_eq_true] at h; simp [ih vs h.2]
  have := this _ _ h1
  exact ⟨i, z, hi, hzz, hs, hb, by rw [← hl, this]; simp⟩

theorem row_get {n z : Nat} {i j : Nat} (hj : j < z) (hi : i < n) : i * z + j < n * z :=
  calc i * z + j < i * z + z := by omega
    _ = (i + 1) * z := by rw [Nat.succ_mul]
    _ ≤ n * z := Nat.mul_le_mul_right _ (by omega)

section ops
variable {B : Base} {d : Option Nat} {ty : TypeId} {ps : String} {af : Array Edge} {g : Option (Nat × Bool)} {env : Env} {H : Heap}

/-- The cells of a block's elements, as a list. -/
theorem blk_rowL {s : St} {id b c : Nat} {blk : Blk} (h : BlkR s id blk true) (hμ : s.μ id = some (b, c)) (hc : 0 < c) :
    ∃ olds, RowL s blk.z blk.elems olds ∧ (∀ (j : Nat) (u : Value), olds[j]? = some u → s.w.cell? ⟨b, j, none⟩ = some u) ∧ ∀ u ∈ olds, u.oneCell' = true := by
  obtain ⟨b', c', h1, _, h3⟩ := h
  rw [hμ] at h1
  obtain ⟨rfl, rfl⟩ : b = b' ∧ c = c' := by simpa using h1
  obtain ⟨_, h5, _⟩ := h3 hc
  obtain ⟨news, k1, k2, k3⟩ := rowL_of (s := s) (z := blk.z) (b := b) blk.elems 0 (fun i x hi => by
    obtain ⟨ecs, m1, m2, m3⟩ := h5 i x hi
    exact ⟨ecs, m1, by simpa [St.R] using m2, by simpa using m3⟩)
  exact ⟨news, k1, by simpa using k2, k3⟩

theorem od_append {t tx et : TypeId} {x y : Operand} {id l0 : Nat} {blk : Blk} {p : PV} {xs : List PV} {rd : List Nat} {e ex ee : TyE} (hT : B.good) (ht : B.T[t]? = some (some e)) (hk : e.kind = .slice et) (he : B.T[et]? = some (some ee)) (htx : B.T[tx]? = some (some ex)) (hz0 : ee.zero ≠ []) (hzl : ee.zero.length = ee.size)
    (hx : env.ev x = .sref id l0 0 l0) (hy : env.ev y = p) (hb : H.get id = some blk) (hlv : blk.live = true) (hda : blk.data = true) (hl : blk.elems.length = l0) (hbz : blk.z = ee.size) (hs : SrcP B H ee.size ex p xs rd) (hfit : (l0 + xs.length) * max 1 ee.bytes ≤ 140737488355328) (hk1 : ∀ u, id = tk u → et = u := by intro u hu; simp only [tk] at hu; omega) :
    OpD B ⟨d, .call { callee := .builtin .append, args := #[x, y], argTypes := #[t, tx] }, ty, ps, af, g⟩ env (id :: rd) H (.sref id (l0 + xs.length) 0 (l0 + xs.length)) [(id, { blk with elems := blk.elems ++ xs })] := by
  intro env' H' hev hr s a N ho hH hE
  have hvx := hE.ev x
  have hvy := hE.ev y
  rw [hev x (by simp [Op.operands, Call.operands]), hx] at hvx
  rw [hev y (by simp [Op.operands, Call.operands]), hy] at hvy
  obtain ⟨_, blk', k1, k2, k3⟩ := VR_sref.1 hvx
  have k1' := k1
  rw [hH, hr id (by simp), hb] at k1'
  obtain rfl : blk = blk' := by simpa using k1'
  obtain ⟨b, c, ad, cap, m1, m2, m3, m4, m5, m6⟩ := k3 hl
  obtain rfl : cap = c := by omega
  obtain ⟨news, n1, n2, _⟩ := hs.src hT htx ho (fun k hk => by rw [hH, hr k (by simp [hk])]) hvy
  have hut := (hT.ty ht).slice hk
  obtain ⟨i, z, hi, hzz, hsz, hby, hzc⟩ := (hT.ty he).zcells hz0 hzl
  have hres : ∀ (w' : World) (v : Value) (s' : St), s'.w = w' → s'.ok B → Ext s s' → s'.has ((id, { blk with elems := blk.elems ++ xs }) :: H') → VR s' (.sref id (l0 + xs.length) 0 (l0 + xs.length)) v →
      (Builtin.append_ #[t, tx] ty #[a.eval x, a.eval y]).run B.P s.w = .ok v w' → Yields B.P ⟨d, .call { callee := .builtin .append, args := #[x, y], argTypes := #[t, tx] }, ty, ps, af, g⟩ a s.w fun v w' => ∃ s' p H'', s'.w = w' ∧ s'.ok B ∧ Ext s s' ∧ VR s' p v ∧ s'.has H'' ∧ p = .sref id (l0 + xs.length) 0 (l0 + xs.length) ∧ H'' = [(id, { blk with elems := blk.elems ++ xs })] ++ H' := by
    intro w' v s' h1 h2 h3 h4 h5 h6
    have hrun : (execOp a.eval (⟨d, .call { callee := .builtin .append, args := #[x, y], argTypes := #[t, tx] }, ty, ps, af, g⟩ : Oper)).run B.P s.w = .ok (.value v) w' := by
      simp only [execOp, resolve, invoke, builtin, List.map_toArray, List.map_cons, List.map_nil, Sem.run_bind, Sem.run_pure, Result.andThen_ok, h6]
    unfold Yields
    rw [hrun]
    exact ⟨s', _, _, h1, h2, h3, h5, h4, rfl, rfl⟩
  by_cases hn0 : xs.length = 0
  · obtain rfl : xs = [] := List.length_eq_zero_iff.1 hn0
    have hnn : news = [] := List.length_eq_zero_iff.1 (by rw [n1.1]; simp)
    subst hnn
    have hsame : s.has ((id, { blk with elems := blk.elems ++ [] }) :: H') := by
      intro k
      rw [Heap.get_cons, List.append_nil]
      by_cases e : id = k
      · subst e; rw [if_pos rfl]; exact k1
      · rw [if_neg e]; exact hH k
    refine hres s.w (a.eval x) (s.re ((id, { blk with elems := blk.elems ++ [] }) :: H')) rfl (St.re_ok hsame ho) (St.re_ext hsame) (fun k => rfl) ?_ ?_
    · have := VR_ext (St.re_ext hsame) ho _ _ hvx
      simpa using this
    · rw [m2]
      exact run_append_nothing s.w t tx ty et i hut hi ad l0 cap m4 (a.eval y) (by rw [hsz]; exact n2)
  · have hbytes : ee.bytes ≤ max 1 ee.bytes := Nat.le_max_right _ _
    have hone : 1 ≤ max 1 ee.bytes := Nat.le_max_left _ _
    have hneed : l0 + xs.length ≤ 140737488355328 := Nat.le_trans (Nat.le_mul_of_pos_right _ (by omega)) hfit
    by_cases hroom : l0 + xs.length ≤ cap
    · have hcpos : 0 < cap := by omega
      obtain rfl : ad = some ⟨b, 0, none⟩ := by
        rcases m6 with m6 | m6
        · omega
        · simpa using m6
      obtain ⟨b', c', q1, q2, q3⟩ := ho.blk id blk k1
      rw [m1] at q1
      obtain ⟨rfl, rfl⟩ : b = b' ∧ cap = c' := by simpa using q1
      obtain ⟨⟨cells, cty, fr, q4, q5, q6, qty⟩, q7, q8, q9⟩ := q3 hcpos
      have hin : ∀ j, j < news.length → l0 * ee.size + j < cells.size := by
        intro j hj
        rw [n1.1] at hj
        rw [q5, hbz]
        have : (l0 + xs.length) * ee.size ≤ cap * ee.size := Nat.mul_le_mul_right _ hroom
        rw [Nat.add_mul] at this
        omega
      have hcell : ∀ j, j < news.length → (s.w.cell? ⟨b, l0 * ee.size + j, none⟩).isSome = true := by
        intro j hj
        have := hin j hj
        simp [World.cell?, q4, this]
      have hfroz : ∀ j, j < news.length → s.w.frozen? ⟨b, l0 * ee.size + j, none⟩ = false := by
        intro j hj
        have := hin j hj
        simp only [World.frozen?, q4]
        simp only [Bool.and_eq_false_imp, decide_eq_true_eq, decide_eq_false_iff_not]
        intro h9 h10
        have := q6 (by omega)
        omega
      have hrun := run_append_room_src (P := B.P) s.w t tx ty et i hut hi b 0 l0 cap (a.eval y) xs.length news (by rw [hsz]; exact n2) hroom (by rw [hsz]; simpa using hcell) (by rw [hsz]; simpa using hfroz)
      rw [hsz, Nat.zero_add] at hrun
      obtain ⟨cells', r1, r2⟩ := setCells_block b news (l0 * ee.size) s.w q4
      have hwr : Wrote B s (s.w.setCells b (l0 * ee.size) news) id b cap blk { blk with elems := blk.elems ++ xs } := by
        refine ⟨k1, hlv, m1, hcpos, World.os_setCells _ _ _ _, setCells_tape _ _ _ _, World.output_setCells _ _ _ _, setCells_size _ _ _ _, fun k hk hne => World.heap_setCells_other _ _ _ _ hk hne, ⟨cells', cty, fr, r1, r2.trans q5, by rw [r2]; exact (q6 hlv), qty⟩, rfl, hlv, rfl, by simp, by simp; omega, fun j u hj => ?_⟩
        simp only at hj
        rcases Nat.lt_or_ge j l0 with hlt | hge
        · rw [List.getElem?_append_left (by omega)] at hj
          obtain ⟨ecs, t1, t2, t3⟩ := q7 j u hj
          refine ⟨ecs, t1, t2, fun l v hl' => ?_⟩
          rw [World.cell?_setCells_out]
          · exact t3 l v hl'
          · intro _ _
            have := (List.getElem?_eq_some_iff.1 hl').1
            left
            have := row_get (n := l0) (z := blk.z) (i := j) (j := l) (by omega) hlt
            rw [hbz] at this ⊢
            exact this
        · rw [List.getElem?_append_right (by omega), hl] at hj
          obtain ⟨ecs, t1, t2, t3⟩ := n1.2 _ u hj
          refine ⟨ecs, by rw [t1, hbz], by simpa [St.R, hda] using t2, fun l v hl' => ?_⟩
          have h7 := t3 l v hl'
          have hlt' := (List.getElem?_eq_some_iff.1 h7).1
          have h8 := World.cell?_setCells_in b news (l0 * ee.size) s.w hcell _ hlt'
          rw [List.getElem?_eq_getElem hlt'] at h7
          rw [hbz, show j * ee.size + l = l0 * ee.size + ((j - l0) * ee.size + l) by rw [Nat.sub_mul]; have : l0 * ee.size ≤ j * ee.size := Nat.mul_le_mul_right _ hge; omega, h8, h7]
      refine hres _ _ _ rfl (hwr.ok ho) hwr.ext (has_cons hH rfl) ?_ (by rw [m2]; exact hrun)
      exact VR_sref.2 ⟨⟨_, _, _, rfl⟩, { blk with elems := blk.elems ++ xs }, by simp [St.wrote, Heap.get_cons], by simp [hl], fun _ => ⟨b, cap, _, _, m1, rfl, by omega, by omega, by omega, .inr (by simp)⟩⟩
    · have hg : cap < l0 + xs.length := by omega
      obtain ⟨olds, o1, o2⟩ : ∃ olds, RowL s blk.z blk.elems olds ∧ (Builtin.firstCells i.size l0 (.slice ad l0 cap)).run B.P s.w.drew = .ok olds.toArray s.w.drew := by
        by_cases hc0 : cap = 0
        · have hl00 : l0 = 0 := by omega
          have hemp : blk.elems = [] := List.length_eq_zero_iff.1 (by omega)
          refine ⟨[], ⟨by simp [hemp], fun i x h => by simp [hemp] at h⟩, ?_⟩
          rw [hl00]
          cases ad with
          | none => rfl
          | some ad => exact run_firstCells_some s.w.drew i.size 0 ad 0 cap [] (by simp) (by simp)
        · obtain rfl : ad = some ⟨b, 0, none⟩ := by
            rcases m6 with m6 | m6
            · omega
            · simpa using m6
          have hbk := ho.blk id blk k1
          rw [hda] at hbk
          obtain ⟨olds, o1, o2, o3⟩ := blk_rowL hbk m1 (by omega)
          refine ⟨olds, o1, run_firstCells_some s.w.drew i.size l0 _ l0 cap olds (by rw [o1.1, hl, hbz, hsz]) (fun j u hj => ?_)⟩
          rw [Addr.add_mid, Nat.zero_add]
          exact o2 j u hj
      have hfit' : Builtin.nextslicecap (l0 + xs.length) cap * i.bytes ≤ 281474976710656 := by
        rw [hby]
        exact growslice_fits hg (Nat.le_trans (Nat.mul_le_mul_left _ hbytes) hfit)
      have hrun := run_append_grow_src (P := B.P) s.w t tx ty et i z hut hi hzz ad l0 cap olds o2 (a.eval y) xs.length news (by rw [hsz]; exact n2) hg (by omega) hfit'
      have hge := grownCap_ge s.w (l0 + xs.length) cap et
      have hid2 : ∀ bk, s.drew.H.get id = some bk → bk.z = ({ blk with elems := blk.elems ++ xs } : Blk).z ∧ bk.elems.length < ({ blk with elems := blk.elems ++ xs } : Blk).elems.length := by
        intro bk hbk
        have : s.H.get id = some bk := hbk
        rw [k1] at this
        obtain rfl : blk = bk := by simpa using this
        exact ⟨rfl, by simp; omega⟩
      have ho2 := St.drew_ok ho
      have hx2 := St.drew_ext s
      generalize hrow : (olds ++ news).toArray ++ Builtin.zeroCells z.cells (grownCap s.w (l0 + xs.length) cap et - (l0 + xs.length)) = row at hrun
      have hrsz : row.size = grownCap s.w (l0 + xs.length) cap et * blk.z := by
        rw [← hrow]
        have hzs : (Builtin.zeroCells z.cells (grownCap s.w (l0 + xs.length) cap et - (l0 + xs.length))).size = (grownCap s.w (l0 + xs.length) cap et - (l0 + xs.length)) * ee.size := by simp [Builtin.zeroCells, hzc]
        rw [Array.size_append, hzs]
        simp only [List.size_toArray, List.length_append, o1.1, n1.1, hl, hbz]
        rw [← Nat.add_mul, ← Nat.add_mul]
        congr 1
        omega
      have hel : ∀ (j : Nat) (u : PV), (blk.elems ++ xs)[j]? = some u → ∃ ecs, ecs.length = blk.z ∧ CR s.drew.w s.drew.S (s.drew.R blk.data) u ecs ∧ ∀ (l : Nat) (v : Value), ecs[l]? = some v → row[j * blk.z + l]? = some v := by
        intro j u hj
        have hrget : ∀ k, k < (olds ++ news).length → row[k]? = (olds ++ news)[k]? := by
          intro k hk
          rw [← hrow, Array.getElem?_append_left (by simpa using hk)]
          simp
        rcases Nat.lt_or_ge j l0 with hlt | hge'
        · rw [List.getElem?_append_left (by omega)] at hj
          obtain ⟨ecs, t1, t2, t3⟩ := (o1.ext hx2 ho).2 j u hj
          refine ⟨ecs, t1, by simpa [St.R, hda] using t2, fun l v hl' => ?_⟩
          have h7 := t3 l v hl'
          have hlt' := (List.getElem?_eq_some_iff.1 h7).1
          rw [hrget _ (by simp; omega), List.getElem?_append_left hlt']
          exact h7
        · rw [List.getElem?_append_right (by omega), hl] at hj
          obtain ⟨ecs, t1, t2, t3⟩ := (n1.ext hx2 ho).2 _ u hj
          refine ⟨ecs, by rw [t1, hbz], by simpa [St.R, hda] using t2, fun l v hl' => ?_⟩
          have h7 := t3 l v hl'
          have hlt' := (List.getElem?_eq_some_iff.1 h7).1
          have e1 : j * blk.z + l = olds.length + ((j - l0) * ee.size + l) := by
            rw [o1.1, hl, hbz, Nat.sub_mul]
            have : l0 * ee.size ≤ j * ee.size := Nat.mul_le_mul_right _ hge'
            omega
          rw [e1, hrget _ (by simp; omega), List.getElem?_append_right (by omega), show olds.length + ((j - l0) * ee.size + l) - olds.length = (j - l0) * ee.size + l by omega]
          exact h7
      have hok := St.add_ok (s := s.drew) (cells := row) (ty := et) (fr := (0, 0)) (id := id) (c := grownCap s.w (l0 + xs.length) cap et) (blk := { blk with elems := blk.elems ++ xs }) ho2 hid2 hlv hrsz (by simp) hk1 (by simp; omega) hel
      have hext := hx2.trans (St.add_ext (s := s.drew) (o := .cells row et (0, 0)) (c := grownCap s.w (l0 + xs.length) cap et) hid2)
      refine hres _ _ _ rfl hok hext (has_cons (s := s) hH rfl) ?_ (by rw [m2]; exact hrun)
      have hvr := VR_add_ref (s := s.drew) (o := .cells row et (0, 0)) (id := id) (c := grownCap s.w (l0 + xs.length) cap et) (blk := { blk with elems := blk.elems ++ xs }) (by simp; omega) _ rfl
      simp only [List.length_append, hl] at hvr
      exact hvr

/-- append onto nil. -/
theorem od_append_nil {t tx et : TypeId} (id : Nat) {x y : Operand} {p : PV} {xs : List PV} {rd : List Nat} {e ex ee : TyE} (hT : B.good) (ht : B.T[t]? = some (some e)) (hk : e.kind = .slice et) (he : B.T[et]? = some (some ee)) (htx : B.T[tx]? = some (some ex)) (hz0 : ee.zero ≠ []) (hzl : ee.zero.length = ee.size)
    (hx : env.ev x = .nils) (hy : env.ev y = p) (hid : H.get id = none) (hs : SrcP B H ee.size ex p xs rd) (hfit : xs.length * max 1 ee.bytes ≤ 140737488355328) (hk1 : ∀ u, id = tk u → et = u := by intro u hu; simp only [tk] at hu; omega) :
    OpD B ⟨d, .call { callee := .builtin .append, args := #[x, y], argTypes := #[t, tx] }, ty, ps, af, g⟩ env (id :: rd) H (.sref id xs.length 0 xs.length) [(id, ⟨ee.size, true, true, xs⟩)] := by
  intro env' H' hev hr s a N ho hH hE
  have hvx := hE.ev x
  have hvy := hE.ev y
  rw [hev x (by simp [Op.operands, Call.operands]), hx] at hvx
  rw [hev y (by simp [Op.operands, Call.operands]), hy] at hvy
  have hid' : s.H.get id = none := by rw [hH, hr id (by simp), hid]
  obtain ⟨news, n1, n2, _⟩ := hs.src hT htx ho (fun k hk => by rw [hH, hr k (by simp [hk])]) hvy
  have hut := (hT.ty ht).slice hk
  obtain ⟨i, z, hi, hzz, hsz, hby, hzc⟩ := (hT.ty he).zcells hz0 hzl
  have hres : ∀ (w' : World) (v : Value) (s' : St), s'.w = w' → s'.ok B → Ext s s' → s'.has ((id, ⟨ee.size, true, true, xs⟩) :: H') → VR s' (.sref id xs.length 0 xs.length) v →
      (Builtin.append_ #[t, tx] ty #[a.eval x, a.eval y]).run B.P s.w = .ok v w' → Yields B.P ⟨d, .call { callee := .builtin .append, args := #[x, y], argTypes := #[t, tx] }, ty, ps, af, g⟩ a s.w fun v w' => ∃ s' p H'', s'.w = w' ∧ s'.ok B ∧ Ext s s' ∧ VR s' p v ∧ s'.has H'' ∧ p = .sref id xs.length 0 xs.length ∧ H'' = [(id, ⟨ee.size, true, true, xs⟩)] ++ H' := by
    intro w' v s' h1 h2 h3 h4 h5 h6
    have hrun : (execOp a.eval (⟨d, .call { callee := .builtin .append, args := #[x, y], argTypes := #[t, tx] }, ty, ps, af, g⟩ : Oper)).run B.P s.w = .ok (.value v) w' := by
      simp only [execOp, resolve, invoke, builtin, List.map_toArray, List.map_cons, List.map_nil, Sem.run_bind, Sem.run_pure, Result.andThen_ok, h6]
    unfold Yields
    rw [hrun]
    exact ⟨s', _, _, h1, h2, h3, h5, h4, rfl, rfl⟩
  have hbytes : ee.bytes ≤ max 1 ee.bytes := Nat.le_max_right _ _
  have hone : 1 ≤ max 1 ee.bytes := Nat.le_max_left _ _
  have hneed : xs.length ≤ 140737488355328 := Nat.le_trans (Nat.le_mul_of_pos_right _ (by omega)) hfit
  have hid2 : ∀ (st : St), st.H = s.H → ∀ bk, st.H.get id = some bk → bk.z = (⟨ee.size, true, true, xs⟩ : Blk).z ∧ bk.elems.length < (⟨ee.size, true, true, xs⟩ : Blk).elems.length := fun st hst => by rw [hst]; exact fresh_of hid'
  by_cases hn0 : xs.length = 0
  · obtain rfl : xs = [] := List.length_eq_zero_iff.1 hn0
    have hnn : news = [] := List.length_eq_zero_iff.1 (by rw [n1.1]; simp)
    subst hnn
    -- a key that stands for no room at all
    let s' : St := { w := s.w, μ := fun k => if k = id then some (0, 0) else s.μ k, S := s.S, H := (id, ⟨ee.size, true, true, []⟩) :: s.H }
    have hget : ∀ k, s'.H.get k = if id = k then some ⟨ee.size, true, true, []⟩ else s.H.get k := fun k => rfl
    have hlive : ∀ b, s'.liveImg b ↔ s.liveImg b := by
      intro b
      constructor
      · rintro ⟨k, bk, c, h1, h2, h3, h4⟩
        rw [hget] at h1
        by_cases ek : id = k
        · subst ek; simp [s'] at h3; omega
        · rw [if_neg ek] at h1; simp only [s', if_neg (Ne.symm ek)] at h3; exact ⟨k, bk, c, h1, h2, h3, h4⟩
      · rintro ⟨k, bk, c, h1, h2, h3, h4⟩
        have ek : id ≠ k := by rintro rfl; rw [hid'] at h1; cases h1
        exact ⟨k, bk, c, by rw [hget, if_neg ek]; exact h1, h2, by simp only [s', if_neg (Ne.symm ek)]; exact h3, h4⟩
    have hext : Ext s s' := by
      refine ⟨rfl, rfl, rfl, Nat.le_refl _, fun _ _ _ => rfl, fun _ h => h, fun _ h => .inl h, fun b _ hb => (hlive b).1 hb, fun k bk hb => ?_⟩
      have ek : id ≠ k := by rintro rfl; rw [hid'] at hb; cases hb
      exact ⟨bk, by rw [hget, if_neg ek]; exact hb, rfl, Nat.le_refl _, fun _ => by simp only [s', if_neg (Ne.symm ek)]⟩
    have hok : s'.ok B := by
      refine ⟨ho.lt, fun k bk hk => ?_, fun k k' bk bk' b c1 c2 hk hk' hl hl' h1 h2 hc1 hc2 => ?_, ho.glob⟩
      · rw [hget] at hk
        by_cases ek : id = k
        · subst ek
          rw [if_pos rfl] at hk
          obtain rfl : (⟨ee.size, true, true, []⟩ : Blk) = bk := by simpa using hk
          exact ⟨0, 0, by simp [s'], by simp, fun h => by omega⟩
        · rw [if_neg ek] at hk
          refine (ho.blk k bk hk).keep hext ho (by simp only [s', if_neg (Ne.symm ek)]) (fun _ _ _ _ => rfl) (fun b c h1 h2 hl hS => ?_)
          obtain ⟨b', c', q1, _, q3⟩ := ho.blk k bk hk
          rw [h1] at q1
          obtain ⟨rfl, rfl⟩ : b = b' ∧ c = c' := by simpa using q1
          exact (q3 h2).2.2.1 hl hS
      · rw [hget] at hk hk'
        by_cases ek : id = k
        · subst ek; simp [s'] at h1; omega
        · by_cases ek' : id = k'
          · subst ek'; simp [s'] at h2; omega
          · rw [if_neg ek] at hk
            rw [if_neg ek'] at hk'
            simp only [s', if_neg (Ne.symm ek)] at h1
            simp only [s', if_neg (Ne.symm ek')] at h2
            exact ho.inj k k' bk bk' b c1 c2 hk hk' hl hl' h1 h2 hc1 hc2
    refine hres s.w (.slice none 0 0) s' rfl hok hext (has_cons hH rfl) ?_ ?_
    · exact VR_sref.2 ⟨⟨_, _, _, rfl⟩, ⟨ee.size, true, true, []⟩, by rw [hget, if_pos rfl], by simp, fun _ => ⟨0, 0, none, 0, by simp [s'], rfl, by simp, by simp, by simp, .inl rfl⟩⟩
    · rw [VR_nils.1 hvx]
      exact run_append_nothing s.w t tx ty et i hut hi none 0 0 (Nat.le_refl _) (a.eval y) (by rw [hsz]; exact n2)
  · have hg : 0 < 0 + xs.length := by omega
    have hfit' : Builtin.nextslicecap (0 + xs.length) 0 * i.bytes ≤ 281474976710656 := by
      rw [hby]
      exact growslice_fits hg (by rw [Nat.zero_add]; exact Nat.le_trans (Nat.mul_le_mul_left _ hbytes) hfit)
    have hrun := run_append_grow_src (P := B.P) s.w t tx ty et i z hut hi hzz none 0 0 [] rfl (a.eval y) xs.length news (by rw [hsz]; exact n2) hg (by omega) hfit'
    have hge := grownCap_ge s.w (0 + xs.length) 0 et
    have ho2 := St.drew_ok ho
    have hx2 := St.drew_ext s
    simp only [Nat.zero_add, List.nil_append] at hrun hge
    generalize hrow : news.toArray ++ Builtin.zeroCells z.cells (grownCap s.w xs.length 0 et - xs.length) = row at hrun
    have hrsz : row.size = grownCap s.w xs.length 0 et * ee.size := by
      rw [← hrow]
      have hzs : (Builtin.zeroCells z.cells (grownCap s.w xs.length 0 et - xs.length)).size = (grownCap s.w xs.length 0 et - xs.length) * ee.size := by simp [Builtin.zeroCells, hzc]
      rw [Array.size_append, hzs]
      simp only [List.size_toArray, n1.1]
      rw [← Nat.add_mul]
      congr 1
      omega
    have hel : ∀ (j : Nat) (u : PV), xs[j]? = some u → ∃ ecs, ecs.length = ee.size ∧ CR s.drew.w s.drew.S (s.drew.R true) u ecs ∧ ∀ (l : Nat) (v : Value), ecs[l]? = some v → row[j * ee.size + l]? = some v := by
      intro j u hj
      obtain ⟨ecs, t1, t2, t3⟩ := (n1.ext hx2 ho).2 j u hj
      refine ⟨ecs, t1, by simpa [St.R] using t2, fun l v hl' => ?_⟩
      have h7 := t3 l v hl'
      have hlt' := (List.getElem?_eq_some_iff.1 h7).1
      rw [← hrow, Array.getElem?_append_left (by simpa using hlt')]
      simpa using h7
    have hok := St.add_ok (s := s.drew) (cells := row) (ty := et) (fr := (0, 0)) (id := id) (c := grownCap s.w xs.length 0 et) (blk := ⟨ee.size, true, true, xs⟩) ho2 (hid2 s.drew rfl) rfl hrsz (by simp) hk1 (by simpa using hge) hel
    have hext := hx2.trans (St.add_ext (s := s.drew) (o := .cells row et (0, 0)) (c := grownCap s.w xs.length 0 et) (hid2 s.drew rfl))
    refine hres _ _ _ rfl hok hext (has_cons (s := s) hH rfl) ?_ (by rw [VR_nils.1 hvx]; exact hrun)
    exact VR_add_ref (s := s.drew) (o := .cells row et (0, 0)) (id := id) (c := grownCap s.w xs.length 0 et) (blk := ⟨ee.size, true, true, xs⟩) (by simpa using hge) _ rfl

end ops
end Go.PM
/- make, copy; between bytes and strings. -/
namespace Go.PM
open Go.RowKit

section ops
variable {B : Base} {d : Option Nat} {ty : TypeId} {ps : String} {af : Array Edge} {g : Option (Nat × Bool)} {env : Env} {H : Heap}

theorem od_make {t et : TypeId} (id : Nat) {x y : Operand} {kx ky : IntKind} {n : Int} {e ee : TyE} (hT : B.good) (ht : B.T[t]? = some (some e)) (hk : e.kind = .slice et) (he : B.T[et]? = some (some ee)) (hz0 : ee.zero ≠ []) (hzl : ee.zero.length = ee.size) (ha : ee.isAgg = true ∨ ee.size = 1) (_hpos : ee.size ≠ 0) (hd : ee.zp.isD = true)
    (hx : env.ev x = .int kx n) (hy : env.ev y = .int ky n) (h0 : 0 ≤ n) (hfit : n.toNat * max 1 ee.bytes ≤ 140737488355328) (hid : H.get id = none) (hk1 : id < 1000000 := by omega) :
    OpD B ⟨d, .makeSlice t x y, ty, ps, af, g⟩ env [id] H (.sref id n.toNat 0 n.toNat) [(id, ⟨ee.size, true, true, List.replicate n.toNat ee.zp⟩)] := by
  intro env' H' hev hr s a N ho hH hE
  have hvx := hE.ev x
  have hvy := hE.ev y
  rw [hev x (by simp [Op.operands]), hx] at hvx
  rw [hev y (by simp [Op.operands]), hy] at hvy
  have hid' : s.H.get id = none := by rw [hH, hr id (by simp), hid]
  have hut := (hT.ty ht).slice hk
  obtain ⟨i, z, hi, hzz, hsz, hby, hzc⟩ := (hT.ty he).zcells hz0 hzl
  have hone : 1 ≤ max 1 ee.bytes := Nat.le_max_left _ _
  have hbytes : ee.bytes ≤ max 1 ee.bytes := Nat.le_max_right _ _
  have hn : n.toNat ≤ 140737488355328 := Nat.le_trans (Nat.le_mul_of_pos_right _ (by omega)) hfit
  have hb2 : n.toNat * ee.bytes ≤ 140737488355328 := Nat.le_trans (Nat.mul_le_mul_left _ hbytes) hfit
  have hb3 : (i.bytes : Int) * n ≤ 281474976710656 := by
    rw [hby]
    have : ((n.toNat * ee.bytes : Nat) : Int) = (ee.bytes : Int) * n := by
      rw [Int.natCast_mul, Int.toNat_of_nonneg h0, Int.mul_comm]
    omega
  have hrun := run_make (P := B.P) s.w t et i z hut hi hzz kx ky n n h0 (Int.le_refl _) hb3 (by omega)
  rw [hsz] at hrun
  obtain ⟨z', h1, h2, h3⟩ := zp_CR (s := s) (hT.ty he) hz0 hzl ha
  have hzv : (zeroValue et).run B.P s.w = .ok z s.w := by simp [zeroValue, typeInfo, hi, hzz]
  rw [hzv] at h1
  obtain rfl : z = z' := by simpa using h1
  have hfull : (execOp a.eval (⟨d, .makeSlice t x y, ty, ps, af, g⟩ : Oper)).run B.P s.w = .ok (.value (.slice (some ⟨s.w.heap.size, 0, none⟩) n.toNat n.toNat)) (s.w.alloc (.cells (madeCells z.cells (n.toNat * ee.size)) et)) := by
    simp only [execOp, VR_int.1 hvx, VR_int.1 hvy, Sem.run_bind, hrun, Result.andThen_ok, Sem.run_pure]
  unfold Yields
  rw [hfull]
  have hvr := VR_add_ref (s := s) (o := .cells (madeCells z.cells (n.toNat * ee.size)) et) (id := id) (c := n.toNat) (blk := ⟨ee.size, true, true, List.replicate n.toNat ee.zp⟩) (by simp) _ rfl
  simp only [List.length_replicate] at hvr
  refine ⟨s.add (.cells (madeCells z.cells (n.toNat * ee.size)) et) id n.toNat ⟨ee.size, true, true, List.replicate n.toNat ee.zp⟩, _, _, rfl, St.add_ok ho (fresh_of hid') rfl (size_madeCells _ _) (by simp) (tk_lt hk1) (by simp) (fun j u hj => ?_), St.add_ext (fresh_of hid'), hvr, has_cons hH rfl, rfl, rfl⟩
  rw [List.getElem?_replicate] at hj
  split at hj
  · rename_i hlt
    obtain rfl : ee.zp = u := by simpa using hj
    refine ⟨z.cells.toList, h2, by simpa [St.R] using CR_isD hd h3, fun l v hl => ?_⟩
    have hll := (List.getElem?_eq_some_iff.1 hl).1
    have hll' : l < ee.size := by omega
    have hin := row_get (n := n.toNat) (z := ee.size) hll' hlt
    have hmod : (j * ee.size + l) % z.cells.size = l := by
      rw [hzc, Nat.add_comm, Nat.add_mul_mod_self_right, Nat.mod_eq_of_lt hll']
    simp only [madeCells, Array.getElem?_map, Array.getElem?_range, hin, if_true, Option.map_some, hmod]
    rw [Array.getElem?_toList] at hl
    simp [getElem!_def, hl]
  · cases hj

theorem SrcP.first {B : Base} (hT : B.good) {H : Heap} {z : Nat} {tx : TypeId} {e : TyE} {p : PV} {xs : List PV} {rd : List Nat} (ht : B.T[tx]? = some (some e)) (h : SrcP B H z e p xs rd) {s : St} (ho : s.ok B) (hH : ∀ k ∈ rd, s.H.get k = H.get k) {v : Value} (hv : VR s p v) (n : Nat) (hn : n ≤ xs.length) :
    ∃ news, RowL s z (xs.take n) news ∧ (Builtin.lenOf v).run B.P s.w = .ok xs.length s.w ∧ (Builtin.firstCells z n v).run B.P s.w = .ok news.toArray s.w ∧ ∀ u ∈ news, u.oneCell' = true := by
  obtain ⟨news, h1, h2, h3⟩ := h.src hT ht ho hH hv
  have hl : (news.take (n * z)).length = n * z := by
    rw [List.length_take, h1.1]
    have := Nat.mul_le_mul_right z hn
    omega
  have hlx : (xs.take n).length = n := by simp; omega
  refine ⟨news.take (n * z), ⟨by rw [hl, hlx], fun i x hi => ?_⟩, h2.len s.w, h3 n hn, fun u hu => h2.one u (List.mem_of_mem_take hu)⟩
  rw [List.getElem?_take] at hi
  split at hi
  · rename_i hlt
    obtain ⟨ecs, k1, k2, k3⟩ := h1.2 i x hi
    refine ⟨ecs, k1, k2, fun j v hj => ?_⟩
    have := (List.getElem?_eq_some_iff.1 hj).1
    rw [List.getElem?_take, if_pos (row_get (by omega) hlt)]
    exact k3 j v hj
  · cases hi

theorem od_copy {t tx et : TypeId} {x y : Operand} {id l0 off len : Nat} {blk : Blk} {p : PV} {xs : List PV} {rd : List Nat} {e ex ee : TyE} (hT : B.good) (ht : B.T[t]? = some (some e)) (hk : e.kind = .slice et) (he : B.T[et]? = some (some ee)) (htx : B.T[tx]? = some (some ex))
    (hx : env.ev x = .sref id l0 off len) (hy : env.ev y = p) (hb : H.get id = some blk) (hlv : blk.live = true) (hda : blk.data = true) (hl : blk.elems.length = l0) (hbz : blk.z = ee.size) (hs : SrcP B H ee.size ex p xs rd) :
    OpD B ⟨d, .call { callee := .builtin .copy, args := #[x, y], argTypes := #[t, tx] }, ty, ps, af, g⟩ env (id :: rd) H (.int .i64 ((min xs.length len : Nat) : Int)) [(id, { blk with elems := blk.elems.take off ++ xs.take len ++ blk.elems.drop (off + min xs.length len) })] := by
  intro env' H' hev hr s a N ho hH hE
  have hvx := hE.ev x
  have hvy := hE.ev y
  rw [hev x (by simp [Op.operands, Call.operands]), hx] at hvx
  rw [hev y (by simp [Op.operands, Call.operands]), hy] at hvy
  obtain ⟨_, blk', k1, k2, k3⟩ := VR_sref.1 hvx
  have k1' := k1
  rw [hH, hr id (by simp), hb] at k1'
  obtain rfl : blk = blk' := by simpa using k1'
  obtain ⟨b, c, ad, cap, m1, m2, m3, m4, m5, m6⟩ := k3 hl
  generalize hn : min xs.length len = n
  have hn1 : n ≤ xs.length := by omega
  have hn2 : n ≤ len := by omega
  obtain ⟨news, n1, n2, n3, n4⟩ := hs.first hT htx ho (fun k hk => by rw [hH, hr k (by simp [hk])]) hvy n hn1
  have hxt : xs.take len = xs.take n := by
    apply List.ext_getElem?
    intro j
    rw [List.getElem?_take, List.getElem?_take]
    by_cases h1 : j < n
    · rw [if_pos h1, if_pos (by omega)]
    · rw [if_neg h1]
      split
      · exact List.getElem?_eq_none (by omega)
      · rfl
  rw [hxt]
  have hnl : (xs.take n).length = n := by simp; omega
  have hut := (hT.ty ht).slice hk
  have hsz := (hT.ty he).size s.w
  by_cases hn0 : n = 0
  · subst hn0
    have hnn : news = [] := List.length_eq_zero_iff.1 (by rw [n1.1]; simp)
    subst hnn
    have hrun : (execOp a.eval (⟨d, .call { callee := .builtin .copy, args := #[x, y], argTypes := #[t, tx] }, ty, ps, af, g⟩ : Oper)).run B.P s.w = .ok (.value (.int .i64 0)) s.w := by
      have : (Builtin.copy_ #[t, tx] ty #[a.eval x, a.eval y]).run B.P s.w = .ok (goInt 0) s.w := by
        rw [m2]
        have hmin : Nat.min xs.length len = 0 := hn
        cases ad <;> simp [Builtin.copy_, run_underlying hut, n2, hsz, hmin, n3, storeCells]
      simp only [execOp, resolve, invoke, builtin, List.map_toArray, List.map_cons, List.map_nil, Sem.run_bind, Sem.run_pure, Result.andThen_ok, this]
      rfl
    have hsame : s.has ((id, { blk with elems := blk.elems.take off ++ xs.take 0 ++ blk.elems.drop (off + 0) }) :: H') := by
      intro k
      rw [Heap.get_cons]
      by_cases e : id = k
      · subst e; rw [if_pos rfl]; simpa using k1
      · rw [if_neg e]; exact hH k
    unfold Yields
    rw [hrun]
    exact ⟨s.re ((id, { blk with elems := blk.elems.take off ++ xs.take 0 ++ blk.elems.drop (off + 0) }) :: H'), _, _, rfl, St.re_ok hsame ho, St.re_ext hsame, VR_int.2 rfl, fun k => rfl, rfl, rfl⟩
  · have hcpos : cap ≠ 0 := by omega
    obtain rfl : ad = some ⟨b, off * blk.z, none⟩ := by
      rcases m6 with m6 | m6
      · exact absurd m6 hcpos
      · exact m6
    obtain ⟨b', c', q1, q2, q3⟩ := ho.blk id blk k1
    rw [m1] at q1
    obtain ⟨rfl, rfl⟩ : b = b' ∧ c = c' := by simpa using q1
    have hc0 : 0 < c := by omega
    obtain ⟨⟨cells, cty, fr, q4, q5, q6, qty⟩, q7, q8, q9⟩ := q3 hc0
    have hin : ∀ j, j < news.length → off * blk.z + j < cells.size := by
      intro j hj
      rw [n1.1, hnl] at hj
      rw [q5]
      have : (off + n) * blk.z ≤ c * blk.z := Nat.mul_le_mul_right _ (by omega)
      rw [Nat.add_mul] at this
      rw [hbz] at *
      omega
    have hcell : ∀ j, j < news.length → (s.w.cell? ⟨b, off * blk.z + j, none⟩).isSome = true := by
      intro j hj
      have := hin j hj
      simp [World.cell?, q4, this]
    have hfroz : ∀ j, j < news.length → s.w.frozen? ⟨b, off * blk.z + j, none⟩ = false := by
      intro j hj
      have := hin j hj
      simp only [World.frozen?, q4]
      simp only [Bool.and_eq_false_imp, decide_eq_true_eq, decide_eq_false_iff_not]
      intro h9 h10
      have := q6 (by omega)
      omega
    have hst := run_storeCells_cells (P := B.P) b (off * blk.z) news 0 s.w (by simpa using hcell) (by simpa using hfroz) n4
    rw [Nat.add_zero] at hst
    have hrun : (execOp a.eval (⟨d, .call { callee := .builtin .copy, args := #[x, y], argTypes := #[t, tx] }, ty, ps, af, g⟩ : Oper)).run B.P s.w = .ok (.value (.int .i64 n)) (s.w.setCells b (off * blk.z) news) := by
      have : (Builtin.copy_ #[t, tx] ty #[a.eval x, a.eval y]).run B.P s.w = .ok (goInt n) (s.w.setCells b (off * blk.z) news) := by
        rw [m2]
        have hmin : Nat.min xs.length len = n := hn
        simp [Builtin.copy_, run_underlying hut, n2, hsz, hmin, n3, hst]
      simp only [execOp, resolve, invoke, builtin, List.map_toArray, List.map_cons, List.map_nil, Sem.run_bind, Sem.run_pure, Result.andThen_ok, this]
      rfl
    obtain ⟨cells', r1, r2⟩ := setCells_block b news (off * blk.z) s.w q4
    have hlo : (blk.elems.take off).length = off := by simp; omega
    have hwr : Wrote B s (s.w.setCells b (off * blk.z) news) id b c blk { blk with elems := blk.elems.take off ++ xs.take n ++ blk.elems.drop (off + n) } := by
      have hlen' : (blk.elems.take off ++ xs.take n ++ blk.elems.drop (off + n)).length = blk.elems.length := by simp; omega
      refine ⟨k1, hlv, m1, hc0, World.os_setCells _ _ _ _, setCells_tape _ _ _ _, World.output_setCells _ _ _ _, setCells_size _ _ _ _, fun k hk hne => World.heap_setCells_other _ _ _ _ hk hne, ⟨cells', cty, fr, r1, r2.trans q5, by rw [r2]; exact (q6 hlv), qty⟩, rfl, hlv, rfl, by simp only [hlen']; omega, by simp only [hlen']; omega, fun j u hj => ?_⟩
      simp only at hj
      have old : (j < off ∨ off + n ≤ j) → blk.elems[j]? = some u → ∃ ecs, ecs.length = blk.z ∧ CR s.w s.S (s.R blk.data) u ecs ∧ ∀ (l : Nat) (v : Value), ecs[l]? = some v → (s.w.setCells b (off * blk.z) news).cell? ⟨b, j * blk.z + l, none⟩ = some v := by
        intro hcase hju
        obtain ⟨ecs, t1, t2, t3⟩ := q7 j u hju
        refine ⟨ecs, t1, t2, fun l v hl' => ?_⟩
        rw [World.cell?_setCells_out]
        · exact t3 l v hl'
        · intro _ _
          have hll := (List.getElem?_eq_some_iff.1 hl').1
          simp only
          rcases hcase with hc | hc
          · left
            exact row_get (by omega) hc
          · right
            rw [n1.1, hnl]
            have : (off + n) * blk.z ≤ j * blk.z := Nat.mul_le_mul_right _ hc
            rw [Nat.add_mul] at this
            rw [← hbz]
            omega
      rw [List.append_assoc] at hj
      rcases Nat.lt_or_ge j off with hlt | hge
      · rw [List.getElem?_append_left (by omega), List.getElem?_take, if_pos hlt] at hj
        exact old (.inl hlt) hj
      · rw [List.getElem?_append_right (by omega), hlo] at hj
        rcases Nat.lt_or_ge (j - off) n with hlt' | hge'
        · rw [List.getElem?_append_left (by omega)] at hj
          obtain ⟨ecs, t1, t2, t3⟩ := n1.2 _ u hj
          refine ⟨ecs, by rw [t1, hbz], by simpa [St.R, hda] using t2, fun l v hl' => ?_⟩
          have h7 := t3 l v hl'
          have hlt2 := (List.getElem?_eq_some_iff.1 h7).1
          have h8 := World.cell?_setCells_in b news (off * blk.z) s.w hcell _ hlt2
          rw [List.getElem?_eq_getElem hlt2] at h7
          rw [show j * blk.z + l = off * blk.z + ((j - off) * ee.size + l) by rw [Nat.sub_mul, hbz]; have : off * ee.size ≤ j * ee.size := Nat.mul_le_mul_right _ hge; omega, h8, h7]
        · rw [List.getElem?_append_right (by omega), hnl, List.getElem?_drop, show off + n + (j - off - n) = j by omega] at hj
          exact old (.inr (by omega)) hj
    unfold Yields
    rw [hrun]
    exact ⟨_, _, _, rfl, hwr.ok ho, hwr.ext, VR_int.2 rfl, has_cons hH rfl, rfl, rfl⟩

/-- Bytes, as the cells of a []byte. -/
def bytesP (l : List UInt8) : List PV := l.map fun b => .int .u8 b.toNat

theorem od_bytes_str {t t' et : TypeId} {x : Operand} {p : PV} {l : List UInt8} {rd : List Nat} {e e' ee : TyE} (hT : B.good) (ht : B.T[t]? = some (some e)) (hk : e.kind = .slice et) (he : B.T[et]? = some (some ee)) (hek : ee.kind = .int .u8) (ht' : B.T[t']? = some (some e')) (hk' : e'.kind = .str)
    (hx : env.ev x = p) (hs : SrcP B H 1 e p (bytesP l) rd) : OpD B ⟨d, .convert t t' x, ty, ps, af, g⟩ env rd H (.str l) [] := by
  intro env' H' hev hr
  refine opw_quiet fun s a N ho hH hE => ?_
  have hv := hE.ev x
  rw [hev x (by simp [Op.operands]), hx] at hv
  obtain ⟨news, n1, n2, n3, n4⟩ := hs.first hT ht ho (fun k hk => by rw [hH, hr k hk]) hv (bytesP l).length (Nat.le_refl _)
  have hut := (hT.ty ht).slice hk
  have hus := (hT.ty ht').str hk'
  have hu8 : B.P.underlying et = some (.int .u8) := by
    obtain ⟨i, dd, z, _, hu, _, _, hkk, _⟩ := (hT.ty he).ok
    rw [hek] at hkk
    cases dd <;> simp [kindOk] at hkk
    rw [hu, hkk]
  have hnews : news = (l.map fun b => (b.toNat : Int)).map (Value.int .u8) := by
    apply List.ext_getElem?
    intro j
    have hlen : news.length = l.length := by rw [n1.1]; simp [bytesP]
    rcases Nat.lt_or_ge j l.length with hlt | hge
    · obtain ⟨ecs, k1, k2, k3⟩ := n1.2 j (.int .u8 l[j].toNat) (by simp [bytesP, hlt])
      simp only [CR] at k2
      have := k3 0 (.int .u8 l[j].toNat) (by rw [k2]; rfl)
      rw [Nat.mul_one, Nat.add_zero] at this
      rw [this]
      simp [hlt]
    · rw [List.getElem?_eq_none (by omega), List.getElem?_eq_none (by simpa using hge)]
  have hsl : ∃ ad m c, a.eval x = .slice ad m c ∧ (ad = none → m = 0) ∧ m = (bytesP l).length := by
    clear hnews n1 n2 n3 n4
    generalize bytesP l = xs at hs
    cases hs with
    | snap _ =>
      obtain ⟨ad, cap, q1, q2, q3⟩ := snap_val hv
      refine ⟨ad, _, cap, q1, fun h => ?_, rfl⟩
      rcases q3 with q3 | ⟨b, o, q4, _⟩
      · simp [q3]
      · rw [h] at q4; cases q4
    | nils _ => exact ⟨none, 0, 0, VR_nils.1 hv, fun _ => rfl, rfl⟩
    | str hks _ => rw [hk] at hks; cases hks
    | ref _ hb hl hd hz hle =>
      obtain ⟨_, blk', k1, k2, k3⟩ := VR_sref.1 hv
      rw [hH, hr _ (by simp), hb] at k1
      obtain rfl := by simpa using k1
      obtain ⟨b, c, ad, cap, m1, m2, m3, m4, m5, m6⟩ := k3 hl
      refine ⟨ad, _, cap, m2, fun h => ?_, ?_⟩
      · rcases m6 with m6 | m6
        · omega
        · rw [h] at m6; cases m6
      · simp; omega
  obtain ⟨ad, m, c, e1, e2, e3⟩ := hsl
  refine ⟨.string ⟨l.toArray⟩, ?_, VR_str.2 rfl⟩
  rw [e1, e3] at n3
  simp only [execOp, e1]
  have hconv := run_convert_bytes_string (P := B.P) s.w t t' et ad m c hut hu8 hus
  cases ad with
  | none =>
    have : m = 0 := e2 rfl
    have hl0 : l = [] := by rw [this] at e3; simpa [bytesP] using e3.symm
    subst hl0
    simp only [Sem.run_bind, hconv, Conv.bytesToString, Sem.run_pure, Result.andThen_ok]
    rfl
  | some ad =>
    simp only [Builtin.firstCells, Nat.mul_one] at n3
    rw [← e3, hnews] at n3
    have hb := run_bytesToString (P := B.P) s.w ad m c (l.map fun b => (b.toNat : Int)) n3
    rw [foldl_push_byteCells] at hb
    simp only [Sem.run_bind, hconv, hb, Result.andThen_ok, Sem.run_pure]
    simp

theorem od_str_bytes {t t' et : TypeId} (id : Nat) {x : Operand} {l : List UInt8} {e e' ee : TyE} (hT : B.good) (ht : B.T[t]? = some (some e)) (hk : e.kind = .str) (ht' : B.T[t']? = some (some e')) (hk' : e'.kind = .slice et) (he : B.T[et]? = some (some ee)) (hek : ee.kind = .int .u8)
    (hx : env.ev x = .str l) (hid : H.get id = none) (hk1 : id < 1000000 := by omega) : OpD B ⟨d, .convert t t' x, ty, ps, af, g⟩ env [id] H (.sref id l.length 0 l.length) [(id, ⟨1, true, true, bytesP l⟩)] := by
  intro env' H' hev hr s a N ho hH hE
  have hv := hE.ev x
  rw [hev x (by simp [Op.operands]), hx] at hv
  have hid' : s.H.get id = none := by rw [hH, hr id (by simp), hid]
  have hus := (hT.ty ht).str hk
  have hut := (hT.ty ht').slice hk'
  have hu8 : B.P.underlying et = some (.int .u8) := by
    obtain ⟨i, dd, z, _, hu, _, _, hkk, _⟩ := (hT.ty he).ok
    rw [hek] at hkk
    cases dd <;> simp [kindOk] at hkk
    rw [hu, hkk]
  have hrun := run_bytes_of_string (P := B.P) s.w t t' et ⟨l.toArray⟩ hus hut hu8
  have hsz : (⟨l.toArray⟩ : ByteArray).size = l.length := by simp [ByteArray.size]
  rw [hsz] at hrun
  generalize hc : grownCap s.w l.length 0 et = c at hrun
  have hge := grownCap_ge s.w l.length 0 et
  rw [hc] at hge
  have hfull : (execOp a.eval (⟨d, .convert t t' x, ty, ps, af, g⟩ : Oper)).run B.P s.w = .ok (.value (.slice (some ⟨s.w.heap.size, 0, none⟩) l.length c)) (s.w.drew.alloc (.cells (bytesRow ⟨l.toArray⟩ c) et ((bytesRow ⟨l.toArray⟩ c).size, (bytesRow ⟨l.toArray⟩ c).size + 1))) := by
    simp only [execOp, VR_str.1 hv, Sem.run_bind, hrun, Result.andThen_ok, Sem.run_pure]
  unfold Yields
  rw [hfull]
  have ho2 := St.drew_ok ho
  have hx2 := St.drew_ext s
  have hrs : (bytesRow ⟨l.toArray⟩ c).size = c * 1 := by
    simp [bytesRow]; omega
  have hfr : ∀ bk, s.drew.H.get id = some bk → bk.z = (⟨1, true, true, bytesP l⟩ : Blk).z ∧ bk.elems.length < (⟨1, true, true, bytesP l⟩ : Blk).elems.length := fresh_of (s := s.drew) hid'
  have hvr := VR_add_ref (s := s.drew) (o := .cells (bytesRow ⟨l.toArray⟩ c) et ((bytesRow ⟨l.toArray⟩ c).size, (bytesRow ⟨l.toArray⟩ c).size + 1)) (id := id) (c := c) (blk := ⟨1, true, true, bytesP l⟩) (by simpa [bytesP] using hge) _ rfl
  have hbl : (bytesP l).length = l.length := by simp [bytesP]
  simp only [hbl] at hvr
  refine ⟨s.drew.add _ id c ⟨1, true, true, bytesP l⟩, _, _, rfl, St.add_ok ho2 hfr rfl hrs (by simp) (tk_lt hk1) (by simpa [bytesP] using hge) (fun j u hj => ?_), hx2.trans (St.add_ext hfr), hvr, has_cons (s := s) hH rfl, rfl, rfl⟩
  simp only [bytesP, List.getElem?_map, Option.map_eq_some_iff] at hj
  obtain ⟨b, h1, rfl⟩ := hj
  refine ⟨[.int .u8 b.toNat], rfl, by simp [CR], fun k v hk => ?_⟩
  cases k with
  | zero =>
    obtain rfl : Value.int .u8 b.toNat = v := by simpa using hk
    have hlt := (List.getElem?_eq_some_iff.1 h1).1
    simp only [bytesRow, Nat.mul_one, Nat.add_zero]
    rw [Array.getElem?_append_left (by simpa using hlt)]
    simp [h1]
  | succ k => simp at hk

end ops
end Go.PM
/- The judgement on code: a stack of what is left to do, an environment, a memory; its rules. -/
namespace Go.PM
open Go.RowKit

/-- A run of one function: what stays, how many slots, how it began, what must hold where it returns. -/
structure Frm where
  B : Base
  N : Nat
  s0 : St
  H0 : Heap
  R : Env → Heap → Prop

inductive It where
  | code (c : Code)
  | ops (all : Array Oper) (rest : List Oper)
  | blk (id : Nat)
  | lp (J : Env → Heap → Prop)

/-- The machine stands for the reading. -/
structure Rel (F : Frm) (env : Env) (H : Heap) (s : St) (a : Act) : Prop where
  ok : s.ok F.B
  has : s.has H
  ext : Ext F.s0 s
  dfr : a.defers = []
  env : EnvR s F.N env a.tmps
  s0h : F.s0.has F.H0

/-- Every key of the one is a key of the other. -/
def keysIn (A C : Heap) : Bool := A.all fun x => (C.get x.1).isSome

theorem keysIn_get : ∀ {A C : Heap}, keysIn A C = true → ∀ id, (A.get id).isSome = true → (C.get id).isSome = true
  | [], _, _, _, h => by simp [Heap.get] at h
  | (k, b) :: A, C, hA, id, h => by
    simp only [keysIn, List.all_cons, Bool.and_eq_true] at hA
    rw [Heap.get_cons] at h
    split at h
    · rename_i e; subst e; exact hA.1
    · exact keysIn_get (A := A) hA.2 id h

def itQ (F : Frm) : List It → Exit → Act → World → Prop
  | [], e, a, w => (e = .normal ∨ e = .ret) ∧ ∃ env H s, s.w = w ∧ Rel F env H s a ∧ F.R env H
  | .code c :: k, .normal, a, w => c.wp F.B.P (itQ F k) a w
  | .code _ :: k, e, a, w => itQ F k e a w
  | .ops all rest :: k, .normal, a, w => wpList F.B.P all (itQ F k) rest a w
  | .ops _ _ :: k, e, a, w => itQ F k e a w
  | .blk id :: k, .exit id', a, w => if id' = id then itQ F k .normal a w else itQ F k (.exit id') a w
  | .blk _ :: k, e, a, w => itQ F k e a w
  | .lp J :: _, .normal, a, w => ∃ env H s, s.w = w ∧ Rel F env H s a ∧ J env H
  | .lp _ :: k, e, a, w => itQ F k e a w

def Prun (F : Frm) (k : List It) (env : Env) (H : Heap) : Prop := ∀ s a, Rel F env H s a → itQ F k .normal a s.w

section
variable {F : Frm} {k : List It} {env : Env} {H : Heap}

theorem itQ_ret {a : Act} {w : World} : ∀ (k : List It), itQ F [] .ret a w → itQ F k .ret a w
  | [], h => h
  | .code _ :: k, h => itQ_ret k h
  | .ops _ _ :: k, h => itQ_ret k h
  | .blk _ :: k, h => itQ_ret k h
  | .lp _ :: k, h => itQ_ret k h

theorem prun_end (h : F.R env H) : Prun F [] env H := fun s _ hr => ⟨.inl rfl, env, H, s, rfl, hr, h⟩

theorem prun_ret (h : F.R env H) : Prun F (.code .ret :: k) env H := fun s _ hr => wp_ret (itQ_ret k ⟨.inr rfl, env, H, s, rfl, hr, h⟩)

theorem prun_skip (h : Prun F k env H) : Prun F (.code .skip :: k) env H := fun s a hr => wp_skip (h s a hr)

theorem prun_seq {x y : Code} (h : Prun F (.code x :: .code y :: k) env H) : Prun F (.code (.seq x y) :: k) env H := fun s a hr =>
  wp_seq (wp_mono (h s a hr) fun e a w he => by cases e <;> exact he)

theorem prun_block {id : Nat} {c : Code} (h : Prun F (.code c :: .blk id :: k) env H) : Prun F (.code (.block id c) :: k) env H := fun s a hr =>
  wp_block (wp_mono (h s a hr) fun e a w he => by cases e <;> exact he)

theorem prun_blk {id : Nat} (h : Prun F k env H) : Prun F (.blk id :: k) env H := fun s a hr => h s a hr

/-- Where an exit leads. -/
def dropTo (id : Nat) : List It → Option (List It)
  | [] => none
  | .blk id' :: k => if id = id' then some k else dropTo id k
  | _ :: k => dropTo id k

theorem itQ_exit {id : Nat} {a : Act} {w : World} : ∀ {k k' : List It}, dropTo id k = some k' → itQ F k' .normal a w → itQ F k (.exit id) a w
  | [], _, h, _ => by simp [dropTo] at h
  | .code _ :: k, _, h, hk => itQ_exit (k := k) h hk
  | .ops _ _ :: k, _, h, hk => itQ_exit (k := k) h hk
  | .lp _ :: k, _, h, hk => itQ_exit (k := k) h hk
  | .blk id' :: k, k', h, hk => by
    simp only [dropTo] at h
    simp only [itQ]
    split at h
    · rename_i e; rw [if_pos e]; obtain rfl : k = k' := by simpa using h
      exact hk
    · rename_i e; rw [if_neg e]; exact itQ_exit (k := k) h hk

theorem prun_exit {id : Nat} {k' : List It} (hd : dropTo id k = some k') (h : Prun F k' env H) : Prun F (.code (.exit id) :: k) env H := fun s a hr => wp_exit (itQ_exit hd (h s a hr))

theorem prun_cond_true {c : Operand} {x y : Code} (hc : env.ev c = .bool true) (h : Prun F (.code x :: k) env H) : Prun F (.code (.cond c x y) :: k) env H := fun s a hr =>
  wp_cond_true (by have := hr.env.ev c; rw [hc] at this; exact VR_bool.1 this) (h s a hr)

theorem prun_cond_false {c : Operand} {x y : Code} (hc : env.ev c = .bool false) (h : Prun F (.code y :: k) env H) : Prun F (.code (.cond c x y) :: k) env H := fun s a hr =>
  wp_cond_false (by have := hr.env.ev c; rw [hc] at this; exact VR_bool.1 this) (h s a hr)

theorem prun_cond {c : Operand} {x y : Code} {b : Bool} (hc : env.ev c = .bool b) (h1 : b = true → Prun F (.code x :: k) env H) (h2 : b = false → Prun F (.code y :: k) env H) : Prun F (.code (.cond c x y) :: k) env H := by
  cases b
  · exact prun_cond_false hc (h2 rfl)
  · exact prun_cond_true hc (h1 rfl)

theorem prun_region {id : Nat} {l : List Oper} (h : Prun F (.ops l.toArray l :: k) env H) : Prun F (.code (.region id l.toArray false) :: k) env H := fun s a hr =>
  wp_region_lit (h s a hr)

theorem prun_lp {J : Env → Heap → Prop} (h : J env H) : Prun F (.lp J :: k) env H := fun s _ hr => ⟨env, H, s, rfl, hr, h⟩

theorem prun_nil {all : Array Oper} (h : Prun F k env H) : Prun F (.ops all [] :: k) env H := fun s a hr => h s a hr

def dstOk (N : Nat) : Option Nat → Bool
  | some d => decide (d < N)
  | none => true

/-- One operation, its result whatever K says. -/
theorem prun_opw {all : Array Oper} {o : Oper} {rest : List Oper} {K : PV → Heap → Prop} (hg : o.guard = none) (hd : dstOk F.N o.dst = true) (ho : OpW F.B o env H K) (h : ∀ p H', K p H' → Prun F (.ops all rest :: k) (env.put o.dst p) H') :
    Prun F (.ops all (o :: rest) :: k) env H := by
  intro s a hr
  refine wpList_plain hg fun Kt hKt => ?_
  refine (ho s a F.N hr.ok hr.has hr.env).wp fun v w' ⟨s', p, H', e1, h1, h2, h3, h4, h5⟩ => hKt _ _ ?_
  subst e1
  refine h p H' h5 s' (a.put o.dst v) ⟨h1, h4, hr.ext.trans h2, ?_, ?_, hr.s0h⟩
  · cases o.dst <;> exact hr.dfr
  · refine (hr.env.ext hr.ok h2).put (fun k hk => ?_) h3
    rw [hk] at hd
    simpa [dstOk] using hd

theorem prun_op {all : Array Oper} {o : Oper} {rest : List Oper} {rd : List Nat} {p : PV} {δ : Heap} (ho : OpD F.B o env rd H p δ) (hg : o.guard = none) (hd : dstOk F.N o.dst = true) (h : Prun F (.ops all rest :: k) (env.put o.dst p) (δ ++ H)) :
    Prun F (.ops all (o :: rest) :: k) env H :=
  prun_opw hg hd ho.w fun p' H' ⟨e1, e2⟩ => by subst e1; subst e2; exact h

/-- What a guard reads. -/
def gdPV (all : Array Oper) (env : Env) : Option (Nat × Bool) → Option Bool
  | none => some true
  | some (j, want) => match (all[j]?).bind (·.dst) with
    | some d => (match env.get d with | .bool b => some (b == want) | _ => none)
    | none => none

theorem wanted_gd {all : Array Oper} {o : Oper} {s : St} {N : Nat} {a : Act} {b : Bool} (hE : EnvR s N env a.tmps) (hN : ∀ x ∈ all, dstOk N x.dst = true) (hg : gdPV all env o.guard = some b) : Region.wanted o (yielded all a.tmps) = b := by
  unfold gdPV at hg
  unfold Region.wanted
  cases hgd : o.guard with
  | none => rw [hgd] at hg; simpa using hg
  | some jw =>
    obtain ⟨j, want⟩ := jw
    rw [hgd] at hg
    simp only at hg ⊢
    split at hg
    · rename_i d hd
      split at hg
      · rename_i c hc
        have hlt : d < N := by
          obtain ⟨x, hx, hxd⟩ := Option.bind_eq_some_iff.1 hd
          have := hN x (Array.mem_of_getElem? hx)
          rw [hxd] at this
          simpa [dstOk] using this
        have hv := hE.get d
        rw [hc] at hv
        have hv' := VR_bool.1 hv
        rw [Array.getD_eq_getD_getElem?] at hv'
        have hsz := hE.size
        have hsome : a.tmps[d]? = some (.bool c) := by
          have hlt' : d < a.tmps.size := by rw [hsz]; exact hlt
          rw [Array.getElem?_eq_getElem hlt'] at hv' ⊢
          simpa using hv'
        have : yielded all a.tmps j = some c := by simp [yielded, hd, hsome]
        rw [this]
        obtain rfl : (c == want) = b := by simpa using hg
        cases c <;> cases want <;> rfl
      · cases hg
    · cases hg

/-- A guarded operation that is not wanted. -/
theorem prun_unwanted {all : Array Oper} {o : Oper} {rest : List Oper} (hg : gdPV all env o.guard = some false) (hN : all.all (fun x => dstOk F.N x.dst) = true) (hd : dstOk F.N o.dst = true) (h : Prun F (.ops all rest :: k) (env.put o.dst .any) H) : Prun F (.ops all (o :: rest) :: k) env H := by
  intro s a hr
  have hw := wanted_gd (o := o) hr.env (fun x hx => by rw [Array.all_eq_true_iff_forall_mem] at hN; exact hN x hx) hg
  unfold itQ wpList
  rw [if_neg (by rw [hw]; simp)]
  refine h s _ ⟨hr.ok, hr.has, hr.ext, by cases o.dst <;> exact hr.dfr, hr.env.put (fun k hk => ?_) (VR_any.2 trivial), hr.s0h⟩
  rw [hk] at hd
  simpa [dstOk] using hd

theorem prun_wantedw {all : Array Oper} {o : Oper} {rest : List Oper} {K : PV → Heap → Prop} (hg : gdPV all env o.guard = some true) (hN : all.all (fun x => dstOk F.N x.dst) = true) (hd : dstOk F.N o.dst = true) (ho : OpW F.B o env H K) (h : ∀ p H', K p H' → Prun F (.ops all rest :: k) (env.put o.dst p) H') :
    Prun F (.ops all (o :: rest) :: k) env H := by
  intro s a hr
  have hw := wanted_gd (o := o) hr.env (fun x hx => by rw [Array.all_eq_true_iff_forall_mem] at hN; exact hN x hx) hg
  unfold itQ
  refine wpList_step fun Kt hKt => ?_
  rw [if_pos hw]
  refine (ho s a F.N hr.ok hr.has hr.env).wp fun v w' ⟨s', p, H', e1, h1, h2, h3, h4, h5⟩ => hKt _ _ ?_
  subst e1
  refine h p H' h5 s' (a.put o.dst v) ⟨h1, h4, hr.ext.trans h2, ?_, ?_, hr.s0h⟩
  · cases o.dst <;> exact hr.dfr
  · refine (hr.env.ext hr.ok h2).put (fun k hk => ?_) h3
    rw [hk] at hd
    simpa [dstOk] using hd

theorem prun_wanted {all : Array Oper} {o : Oper} {rest : List Oper} {rd : List Nat} {p : PV} {δ : Heap} (ho : OpD F.B o env rd H p δ) (hg : gdPV all env o.guard = some true) (hN : all.all (fun x => dstOk F.N x.dst) = true) (hd : dstOk F.N o.dst = true) (h : Prun F (.ops all rest :: k) (env.put o.dst p) (δ ++ H)) :
    Prun F (.ops all (o :: rest) :: k) env H :=
  prun_wantedw hg hN hd ho.w fun p' H' ⟨e1, e2⟩ => by subst e1; subst e2; exact h

/-! ### saying less -/
mutual
/-- All references inside lead to blocks of the memory. -/
def refsIn (G : Heap) : PV → Bool
  | .sref id .. | .ptr id .. => (G.get id).isSome
  | .agg fs | .tup fs => refsInl G fs
  | _ => true
def refsInl (G : Heap) : List PV → Bool
  | [] => true
  | f :: fs => refsIn G f && refsInl G fs
end

/-- The environment says no more. -/
def envSub (G : Heap) : Env → Env → Prop
  | [], _ => True
  | (t, p) :: E, env => env.get t = p ∧ refsIn G p = true ∧ envSub G E env

/-- The memory says no more. -/
def heapSub (G0 : Heap) : Heap → Heap → Prop
  | [], _ => True
  | (id, b) :: G, H => H.get id = some b ∧ (b.data = true ∨ refsInl G0 b.elems = true) ∧ heapSub G0 G H

theorem heapSub_get {G0 : Heap} : ∀ {G H : Heap}, heapSub G0 G H → ∀ {id : Nat} {b : Blk}, G.get id = some b → H.get id = some b ∧ (b.data = true ∨ refsInl G0 b.elems = true)
  | [], _, _, _, _, h => by simp [Heap.get] at h
  | (k, c) :: G, H, ⟨h1, h2, h3⟩, id, b, h => by
    rw [Heap.get_cons] at h
    split at h
    · rename_i e
      subst e
      obtain rfl : c = b := by simpa using h
      exact ⟨h1, h2⟩
    · exact heapSub_get h3 h

theorem envSub_get {G : Heap} : ∀ {E env : Env}, envSub G E env → ∀ t, E.get t = .any ∨ (E.get t = env.get t ∧ refsIn G (env.get t) = true)
  | [], _, _, _ => .inl rfl
  | (k, p) :: E, env, ⟨h1, h2, h3⟩, t => by
    simp only [Env.get]
    split
    · rename_i e
      subst e
      rw [h1]
      exact .inr ⟨rfl, h2⟩
    · exact envSub_get h3 t

theorem RR_sub {s : St} {G : Heap} (hG : ∀ id b, G.get id = some b → s.H.get id = some b) {p : PV} {v : Value} (hp : refsIn G p = true) (h : RR s p v) : RR (s.re G) p v := by
  cases p with
  | sref id l0 off len =>
    obtain ⟨h0, blk, h1, h2, h3⟩ := h
    simp only [refsIn] at hp
    obtain ⟨b, hb⟩ := Option.isSome_iff_exists.1 hp
    have := hG id b hb
    rw [h1] at this
    obtain rfl : blk = b := by simpa using this
    exact ⟨h0, blk, hb, h2, h3⟩
  | ptr id l0 i off =>
    obtain ⟨h0, blk, h1, h2, h3⟩ := h
    simp only [refsIn] at hp
    obtain ⟨b, hb⟩ := Option.isSome_iff_exists.1 hp
    have := hG id b hb
    rw [h1] at this
    obtain rfl : blk = b := by simpa using this
    exact ⟨h0, blk, hb, h2, h3⟩
  | sp e off => exact h
  | nilp => exact h
  | _ => exact h.elim

mutual
theorem CR_sub {s : St} {G : Heap} (hG : ∀ id b, G.get id = some b → s.H.get id = some b) : ∀ {p : PV} {cs : List Value}, refsIn G p = true → CR s.w s.S (RR s) p cs → CR s.w s.S (RR (s.re G)) p cs
  | .agg fs, cs, hp, h => by
    simp only [CR] at h ⊢
    simp only [refsIn] at hp
    exact CRl_sub' hG hp h
  | .tup _, _, _, h => by simp only [CR] at h
  | .any, _, _, h => by simp only [CR] at h
  | .int _ _, _, _, h => by simpa only [CR] using h
  | .bool _, _, _, h => by simpa only [CR] using h
  | .str _, _, _, h => by simpa only [CR] using h
  | .nils, _, _, h => by simpa only [CR] using h
  | .snap _ _, _, _, h => by simpa only [CR] using h
  | .sref .., _, hp, h => by simp only [CR] at h ⊢; obtain ⟨v, h1, h2⟩ := h; exact ⟨v, h1, RR_sub hG hp h2⟩
  | .ptr .., _, hp, h => by simp only [CR] at h ⊢; obtain ⟨v, h1, h2⟩ := h; exact ⟨v, h1, RR_sub hG hp h2⟩
  | .sp .., _, hp, h => by simp only [CR] at h ⊢; obtain ⟨v, h1, h2⟩ := h; exact ⟨v, h1, RR_sub hG hp h2⟩
  | .nilp, _, hp, h => by simp only [CR] at h ⊢; obtain ⟨v, h1, h2⟩ := h; exact ⟨v, h1, RR_sub hG hp h2⟩
theorem CRl_sub' {s : St} {G : Heap} (hG : ∀ id b, G.get id = some b → s.H.get id = some b) : ∀ {fs : List PV} {cs : List Value}, refsInl G fs = true → CRl s.w s.S (RR s) fs cs → CRl s.w s.S (RR (s.re G)) fs cs
  | [], cs, _, h => by simpa only [CRl] using h
  | f :: fs, cs, hp, h => by
    simp only [CRl] at h ⊢
    simp only [refsInl, Bool.and_eq_true] at hp
    obtain ⟨v, r, h1, h2, h3⟩ := h
    exact ⟨v, r, h1, CR_sub hG hp.1 h2, CRl_sub' hG hp.2 h3⟩
end

theorem VR1_sub {s : St} {G : Heap} (hG : ∀ id b, G.get id = some b → s.H.get id = some b) {p : PV} {v : Value} (hp : refsIn G p = true) (h : VR1 s p v) : VR1 (s.re G) p v := by
  cases p with
  | any => trivial
  | agg fs =>
    obtain ⟨cs, h1, h2⟩ := h
    exact ⟨cs, h1, CRl_sub' hG (by simpa only [refsIn] using hp) h2⟩
  | _ => exact CR_sub hG hp h

theorem VRs_sub {s : St} {G : Heap} (hG : ∀ id b, G.get id = some b → s.H.get id = some b) : ∀ {ps : List PV} {us : List Value}, refsInl G ps = true → VRs s ps us → VRs (s.re G) ps us
  | [], _, _, h => h
  | p :: ps, _, hp, ⟨u, r, h1, h2, h3⟩ => by
    simp only [refsInl, Bool.and_eq_true] at hp
    exact ⟨u, r, h1, VR1_sub hG hp.1 h2, VRs_sub hG hp.2 h3⟩

theorem VR_sub {s : St} {G : Heap} (hG : ∀ id b, G.get id = some b → s.H.get id = some b) {p : PV} {v : Value} (hp : refsIn G p = true) (h : VR s p v) : VR (s.re G) p v := by
  cases p with
  | tup ps => obtain ⟨us, h1, h2⟩ := h; exact ⟨us, h1, VRs_sub hG (by simpa only [refsIn] using hp) h2⟩
  | _ => simp only [VR] at h ⊢; exact VR1_sub hG hp h

theorem refsInl_get {G : Heap} : ∀ {l : List PV}, refsInl G l = true → ∀ {i : Nat} {x : PV}, l[i]? = some x → refsIn G x = true
  | [], _, _, _, h => by simp at h
  | y :: l, hl, i, x, h => by
    simp only [refsInl, Bool.and_eq_true] at hl
    cases i with
    | zero => obtain rfl : y = x := by simpa using h
              exact hl.1
    | succ i => exact refsInl_get hl.2 (by simpa using h)

theorem sub_ok {B : Base} {s : St} {G : Heap} (hG : ∀ id b, G.get id = some b → s.H.get id = some b ∧ (b.data = true ∨ refsInl G b.elems = true)) (ho : s.ok B) : (s.re G).ok B where
  lt := ho.lt
  blk id blk hb := by
    obtain ⟨h1, h2⟩ := hG id blk hb
    obtain ⟨b, c, k1, k2, k3⟩ := ho.blk id blk h1
    refine ⟨b, c, k1, k2, fun hc => ?_⟩
    obtain ⟨k4, k5, k6, k7⟩ := k3 hc
    refine ⟨k4, fun i x hi => ?_, k6, k7⟩
    obtain ⟨ecs, m1, m2, m3⟩ := k5 i x hi
    refine ⟨ecs, m1, ?_, m3⟩
    unfold St.R at m2 ⊢
    cases hd : blk.data with
    | true => rw [hd] at m2; exact m2
    | false =>
      rw [hd] at m2
      exact CR_sub (fun id b h => (hG id b h).1) (refsInl_get (h2.resolve_left (by simp [hd])) hi) m2
  inj id id' blk blk' b c c' h1 h2 := ho.inj id id' blk blk' b c c' (hG _ _ h1).1 (hG _ _ h2).1
  glob := ho.glob

/-- Forgetting: the environment and the memory say no more, and nothing of the caller's is lost. -/
theorem prun_weak {E : Env} {G : Heap} (hE : envSub G E env) (hG : heapSub G G H) (hk : keysIn F.H0 G = true) (h : Prun F k E G) : Prun F k env H := by
  intro s a hr
  have hsub : ∀ id b, G.get id = some b → s.H.get id = some b ∧ (b.data = true ∨ refsInl G b.elems = true) := fun id b hb => by rw [hr.has id]; exact heapSub_get hG hb
  refine h (s.re G) a ⟨sub_ok hsub hr.ok, fun k => rfl, ?_, hr.dfr, ⟨hr.env.size, fun t => ?_⟩, hr.s0h⟩
  · have hx := hr.ext
    exact ⟨hx.os, hx.tape, hx.output, hx.size, hx.frame, hx.stab, hx.prov, fun b hb hl => hx.live b hb (by
      obtain ⟨id, blk, c, h1, h2⟩ := hl
      exact ⟨id, blk, c, (hsub id blk h1).1, h2⟩), fun id blk hb => by
      obtain ⟨b1, h1, h2⟩ := hx.ids id blk hb
      obtain ⟨b2, hb2⟩ := Option.isSome_iff_exists.1 (keysIn_get hk id (by rw [← hr.s0h id, hb]; rfl))
      have := (hsub id b2 hb2).1
      rw [h1] at this
      obtain rfl : b1 = b2 := by simpa using this
      exact ⟨b1, hb2, h2⟩⟩
  · rcases envSub_get hE t with h1 | ⟨h1, h2⟩
    · rw [h1]; exact VR_any.2 trivial
    · rw [h1]; exact VR_sub (fun id b h => (hsub id b h).1) h2 (hr.env.get t)

/-- A loop: a family of states, each round leads to one of less measure. -/
theorem prun_loop {σ : Type} (inv : σ → Prop) (E : σ → Env) (G : σ → Heap) (m : σ → Nat) {body : Code} (x0 : σ) (hi : inv x0) (h0 : envSub (G x0) (E x0) env) (h1 : heapSub (G x0) (G x0) H) (hk : ∀ x, keysIn F.H0 (G x) = true)
    (round : ∀ x, inv x → Prun F (.code body :: .lp (fun env H => ∃ y, inv y ∧ m y < m x ∧ envSub (G y) (E y) env ∧ heapSub (G y) (G y) H) :: k) (E x) (G x)) : Prun F (.code (.loop body) :: k) env H := by
  refine prun_weak h0 h1 (hk x0) ?_
  intro s a hr
  have key : ∀ (n : Nat) (x : σ) (s : St) (a : Act), m x = n → inv x → Rel F (E x) (G x) s a → ∀ (b : Frame) (kk : List Item) (cs : List Frame),
      ∃ e a' w', itQ F k e a' w' ∧ Arrives F.B.P (lone (b.at a (.code body :: .inLoop body :: kk)) cs s.w) b kk cs e a' w' := by
    intro n
    induction n using Nat.strongRecOn with
    | _ n ih =>
      intro x s a hm hx hr b kk cs
      have hrd := round x hx s a hr
      obtain ⟨e, a1, w1, hq, harr⟩ := hrd b (.inLoop body :: kk) cs
      have pass : ∀ e a w, e ≠ .normal → itQ F (.lp (fun env H => ∃ y, inv y ∧ m y < m x ∧ envSub (G y) (E y) env ∧ heapSub (G y) (G y) H) :: k) e a w → itQ F k e a w := by
        intro e a w hne h
        cases e <;> first | exact absurd rfl hne | exact h
      cases e with
      | normal =>
        obtain ⟨env1, H1, s1, e1, hr1, y, hy1, hy2, hy3, hy4⟩ := hq
        subst e1
        -- forget down to y's state
        have hsub : ∀ id b, (G y).get id = some b → s1.H.get id = some b ∧ (b.data = true ∨ refsInl (G y) b.elems = true) := fun id b hb => by rw [hr1.has id]; exact heapSub_get hy4 hb
        have hr2 : Rel F (E y) (G y) (s1.re (G y)) a1 := by
          refine ⟨sub_ok hsub hr1.ok, fun k => rfl, ?_, hr1.dfr, ⟨hr1.env.size, fun t => ?_⟩, hr1.s0h⟩
          · have hx := hr1.ext
            exact ⟨hx.os, hx.tape, hx.output, hx.size, hx.frame, hx.stab, hx.prov, fun b hb hl => hx.live b hb (by
              obtain ⟨id, blk, c, h1, h2⟩ := hl
              exact ⟨id, blk, c, (hsub id blk h1).1, h2⟩), fun id blk hb => by
              obtain ⟨b1, h1, h2⟩ := hx.ids id blk hb
              obtain ⟨b2, hb2⟩ := Option.isSome_iff_exists.1 (keysIn_get (hk y) id (by rw [← hr1.s0h id, hb]; rfl))
              have := (hsub id b2 hb2).1
              rw [h1] at this
              obtain rfl : b1 = b2 := by simpa using this
              exact ⟨b1, hb2, h2⟩⟩
          · rcases envSub_get hy3 t with h1 | ⟨h1, h2⟩
            · rw [h1]; exact VR_any.2 trivial
            · rw [h1]; exact VR_sub (fun id b h => (hsub id b h).1) h2 (hr1.env.get t)
        obtain ⟨e2, a2, w2, hq2, harr2⟩ := ih (m y) (by omega) y (s1.re (G y)) a1 rfl hy1 hr2 b kk cs
        exact ⟨e2, a2, w2, hq2, .of_steps (Steps.trans harr (.one step_inLoop)) harr2⟩
      | exit id => exact ⟨_, a1, w1, pass _ _ _ (by simp) hq, .pass (x := .inLoop body) rfl (fun _ _ => .inl (by simp)) harr⟩
      | goto l => exact ⟨_, a1, w1, pass _ _ _ (by simp) hq, .pass (x := .inLoop body) rfl (fun _ _ => .inl (by simp)) harr⟩
      | ret => exact ⟨_, a1, w1, pass _ _ _ (by simp) hq, .pass (x := .inLoop body) rfl (fun _ _ => .inl (by simp)) harr⟩
      | panic ch => exact ⟨_, a1, w1, pass _ _ _ (by simp) hq, .pass (x := .inLoop body) rfl (fun _ _ => .inl (by simp)) harr⟩
      | outgrown => exact ⟨_, a1, w1, pass _ _ _ (by simp) hq, .pass (x := .inLoop body) rfl (fun _ _ => .inl (by simp)) harr⟩
  intro b kk cs
  obtain ⟨e, a', w', hq, harr⟩ := key _ x0 s a rfl hi hr b kk cs
  exact ⟨e, a', w', hq, .of_steps (.one step_loop) harr⟩
end
end Go.PM
/- Contracts of functions; calls; how a function's contract is proved. -/
namespace Go.PM
open Go.RowKit

/-- A call of the function goes into its body. -/
def Enters (P : Program) (g : FuncId) : Prop := ∃ fn, P.funcs[g]? = some fn ∧ (fn.name == "runtime.NumGoroutine") = false ∧ fn.body.isNone = false

structure PSpec (B : Base) (g : FuncId) (args : List PV) (H : Heap) (post : PV → Heap → Prop) : Prop where
  ent : Enters B.P g
  run : ∀ (s : St) (cargs : List Value), s.ok B → s.has H → VRs s args cargs → Calls B.P g cargs.toArray s.w fun e w' => ∃ v s' r H', e = .returned v ∧ s'.w = w' ∧ s'.ok B ∧ Ext s s' ∧ VR s' r v ∧ s'.has H' ∧ post r H'

theorem PSpec.mono {B : Base} {g : FuncId} {args : List PV} {H : Heap} {post post' : PV → Heap → Prop} (h : PSpec B g args H post) (hp : ∀ r H', post r H' → post' r H') : PSpec B g args H post' :=
  ⟨h.ent, fun s cargs ho hh hv => (h.run s cargs ho hh hv).mono fun _ _ ⟨v, s', r, H', h1, h2, h3, h4, h5, h6, h7⟩ => ⟨v, s', r, H', h1, h2, h3, h4, h5, h6, hp _ _ h7⟩⟩

/-! ### the frame -/
/-- The caller's view of memory cut down to what the callee is told of. -/
theorem frame_ok {B : Base} {s : St} {G : Heap} (hG : heapSub G G s.H) (ho : s.ok B) : (s.re G).ok B := sub_ok (fun _ _ hb => heapSub_get hG hb) ho

/-- Keys of what came back that the caller does not know must be new to it. -/
def freshIn (G H : Heap) : Heap → Prop
  | [] => True
  | (id, _) :: H' => ((G.get id).isSome = true ∨ H.get id = none) ∧ freshIn G H H'

theorem freshIn_get {G H : Heap} : ∀ {H' : Heap}, freshIn G H H' → ∀ {id : Nat}, (H'.get id).isSome = true → (G.get id).isSome = true ∨ H.get id = none
  | [], _, _, h => by simp [Heap.get] at h
  | (k, b) :: H', ⟨h1, h2⟩, id, h => by
    rw [Heap.get_cons] at h
    split at h
    · rename_i e; subst e; exact h1
    · exact freshIn_get h2 h

theorem Heap.get_append (A C : Heap) (k : Nat) : Heap.get (A ++ C) k = match A.get k with | some b => some b | none => C.get k := by
  induction A with
  | nil => rfl
  | cons x A ih =>
    obtain ⟨id, b⟩ := x
    rw [List.cons_append, Heap.get_cons, Heap.get_cons]
    split
    · rfl
    · exact ih

theorem PSpec.frame {B : Base} {g : FuncId} {args : List PV} {G H : Heap} {post : PV → Heap → Prop} (h : PSpec B g args G post) (hG : heapSub G G H) (hargs : refsInl G args = true)
    (hfr : ∀ r H', post r H' → freshIn G H H') : PSpec B g args H fun r H' => ∃ H1, post r H1 ∧ H' = H1 ++ H := by
  refine ⟨h.ent, fun s cargs ho hh hv => ?_⟩
  have hG' : heapSub G G s.H := by
    have : ∀ (l : Heap), heapSub G l H → heapSub G l s.H := by
      intro l
      induction l with
      | nil => intro _; trivial
      | cons x l ih => rintro ⟨a, b, c⟩; exact ⟨by rw [hh]; exact a, b, ih c⟩
    exact this G hG
  have hget : ∀ id b, G.get id = some b → s.H.get id = some b := fun id b hb => (heapSub_get hG' hb).1
  refine (h.run (s.re G) cargs (frame_ok hG' ho) (fun _ => rfl) (VRs_sub hget hargs hv)).mono ?_
  rintro e w' ⟨v, t, r, H1, rfl, rfl, hto, hx, hr, hth, hp⟩
  have hfr' := hfr r H1 hp
  -- the caller's memory, put together again
  let s' : St := { w := t.w, μ := fun k => match H1.get k with | some _ => t.μ k | none => s.μ k, S := t.S, H := H1 ++ s.H }
  have hget' : ∀ k, s'.H.get k = match H1.get k with | some b => some b | none => s.H.get k := fun k => Heap.get_append _ _ _
  have hμ1 : ∀ k b, H1.get k = some b → s'.μ k = t.μ k := fun k b hb => by simp only [s', hb]
  have hμ2 : ∀ k, H1.get k = none → s'.μ k = s.μ k := fun k hb => by simp only [s', hb]
  have hGH1 : ∀ id b, G.get id = some b → ∃ b', H1.get id = some b' := fun id b hb => by
    obtain ⟨b', h1, _⟩ := hx.ids id b hb
    exact ⟨b', by rw [← hth id]; exact h1⟩
  have hnotG : ∀ k, H1.get k = none → G.get k = none := fun k hk => by
    cases hg : G.get k with
    | none => rfl
    | some b => obtain ⟨b', hb'⟩ := hGH1 k b hg; rw [hk] at hb'; cases hb'
  -- a live block of the caller's that the callee does not know stays as it is
  have hother : ∀ k blk b c, s.H.get k = some blk → G.get k = none → s.μ k = some (b, c) → 0 < c → t.w.heap[b]? = s.w.heap[b]? := by
    intro k blk b c hk hgk hμ hc
    refine hx.frame b (St.blk_lt ho hk hμ hc) ?_
    rintro ⟨id, bk, c', h1, h2, h3, h4⟩
    have h1' := hget id bk h1
    by_cases hl : blk.live = true
    · have := ho.inj k id blk bk b c c' hk h1' hl h2 hμ h3 hc h4
      subst this
      have : G.get k = some bk := h1
      rw [hgk] at this; cases this
    · obtain ⟨b', c'', k1, _, k3⟩ := ho.blk k blk hk
      rw [hμ] at k1
      obtain ⟨rfl, rfl⟩ : b = b' ∧ c = c'' := by simpa using k1
      have hS := (k3 hc).2.2.2 (by simpa using hl)
      obtain ⟨b2, c2, m1, _, m3⟩ := ho.blk id bk h1'
      have h3' : s.μ id = some (b, c') := h3
      rw [h3'] at m1
      obtain ⟨rfl, rfl⟩ : b = b2 ∧ c' = c2 := by simpa using m1
      exact (m3 h4).2.2.1 h2 hS
  have hlive1 : ∀ b, t.liveImg b ↔ ∃ k blk c, H1.get k = some blk ∧ blk.live = true ∧ t.μ k = some (b, c) ∧ 0 < c := by
    intro b
    unfold St.liveImg
    constructor
    · rintro ⟨k, blk, c, h1, h2⟩; exact ⟨k, blk, c, by rw [← hth k]; exact h1, h2⟩
    · rintro ⟨k, blk, c, h1, h2⟩; exact ⟨k, blk, c, by rw [hth k]; exact h1, h2⟩
  have hext : Ext s s' := by
    refine ⟨hx.os, hx.tape, hx.output, hx.size, fun b hb hl => hx.frame b hb (fun ⟨id, bk, c, h1, h2⟩ => hl ⟨id, bk, c, hget id bk h1, h2⟩), hx.stab, fun b hb => ?_, fun b hb => ?_, fun id blk hb => ?_⟩
    · rcases hx.prov b hb with h1 | h1 | ⟨id, bk, c, h1, h2⟩
      · exact .inl h1
      · exact .inr (.inl h1)
      · exact .inr (.inr ⟨id, bk, c, hget id bk h1, h2⟩)
    · rintro ⟨k, bk, c, h1, h2, h3, h4⟩
      rw [hget'] at h1
      cases hk : H1.get k with
      | none =>
        rw [hk] at h1
        rw [hμ2 k hk] at h3
        exact ⟨k, bk, c, h1, h2, h3, h4⟩
      | some b1 =>
        rw [hk] at h1
        obtain rfl : b1 = bk := by simpa using h1
        rw [hμ1 k _ hk] at h3
        obtain ⟨id, bk', c', g1, g2⟩ := hx.live b hb ((hlive1 b).2 ⟨k, b1, c, hk, h2, h3, h4⟩)
        exact ⟨id, bk', c', hget id bk' g1, g2⟩
    · cases hg : G.get id with
      | none =>
        cases hk : H1.get id with
        | none => exact ⟨blk, by rw [hget', hk]; exact hb, rfl, Nat.le_refl _, fun _ => hμ2 id hk⟩
        | some b1 =>
          rcases freshIn_get hfr' (id := id) (by simp [hk]) with h1 | h1
          · rw [hg] at h1; cases h1
          · rw [hh id, h1] at hb; cases hb
      | some b0 =>
        have h0 := hget id b0 hg
        rw [hb] at h0
        obtain rfl : blk = b0 := by simpa using h0
        obtain ⟨b', h1, h2, h3, h4⟩ := hx.ids id blk hg
        rw [hth id] at h1
        exact ⟨b', by rw [hget', h1], h2, h3, fun e => by rw [hμ1 id _ h1, h4 e]; rfl⟩
  have hRR : ∀ p v, RR t p v → RR s' p v := by
    intro p v hp
    cases p with
    | sref id l0 off len =>
      obtain ⟨h0, blk, h1, h2⟩ := hp
      rw [hth id] at h1
      exact ⟨h0, blk, by rw [hget', h1], by rw [hμ1 id _ h1]; exact h2⟩
    | ptr id l0 i off =>
      obtain ⟨h0, blk, h1, h2⟩ := hp
      rw [hth id] at h1
      exact ⟨h0, blk, by rw [hget', h1], by rw [hμ1 id _ h1]; exact h2⟩
    | sp e off => exact hp
    | nilp => exact hp
    | _ => exact hp.elim
  have hok : s'.ok B := by
    refine ⟨hto.lt, fun k blk hk => ?_, fun k k' bk bk' b c c' hk hk' hl hl' h1 h2 hc hc' => ?_, fun b hb => ⟨(hto.glob b hb).1, (hto.glob b hb).2⟩⟩
    · rw [hget'] at hk
      cases hk1 : H1.get k with
      | none =>
        rw [hk1] at hk
        refine (ho.blk k blk hk).keep hext ho (hμ2 k hk1) (fun b c h1 h2 => hother k blk b c hk (hnotG k hk1) h1 h2) (fun b c h1 h2 hl hS => ?_)
        rcases hx.prov b hS with g1 | g1 | ⟨id, bk, c', g1, g2, g3, g4⟩
        · obtain ⟨b', c'', q1, _, q3⟩ := ho.blk k blk hk
          rw [h1] at q1
          obtain ⟨rfl, rfl⟩ : b = b' ∧ c = c'' := by simpa using q1
          exact (q3 h2).2.2.1 hl g1
        · have := St.blk_lt ho hk h1 h2
          have g1' : s.w.heap.size ≤ b := g1
          omega
        · have := ho.inj k id blk bk b c c' hk (hget id bk g1) hl g2 h1 g3 h2 g4
          subst this
          have g1' : G.get k = some bk := g1
          rw [hnotG k hk1] at g1'; cases g1'
      | some b1 =>
        rw [hk1] at hk
        obtain rfl : b1 = blk := by simpa using hk
        obtain ⟨b, c, q1, q2, q3⟩ := hto.blk k b1 (by rw [hth k]; exact hk1)
        refine ⟨b, c, by rw [hμ1 k _ hk1]; exact q1, q2, fun hc => ?_⟩
        obtain ⟨q4, q5, q6⟩ := q3 hc
        refine ⟨q4, fun i x hi => ?_, q6⟩
        obtain ⟨ecs, m1, m2, m3⟩ := q5 i x hi
        refine ⟨ecs, m1, CR_R (fun p v hR => ?_) m2, m3⟩
        unfold St.R at hR ⊢
        split
        · rename_i hd; rw [if_pos hd] at hR; exact hR
        · rename_i hd; rw [if_neg hd] at hR; exact hRR p v hR
    · have cross : ∀ k k' bk bk' c c', H1.get k = some bk → H1.get k' = none → s.H.get k' = some bk' → bk.live = true → bk'.live = true → t.μ k = some (b, c) → s.μ k' = some (b, c') → 0 < c → 0 < c' → False := by
        intro k k' bk bk' c c' q1 q2 q3 q4 q5 q6 q7 q8 q9
        have hblt := St.blk_lt ho q3 q7 q9
        obtain ⟨id, bk2, c2, g1, g2, g3, g4⟩ := hx.live b hblt ((hlive1 b).2 ⟨k, bk, c, q1, q4, q6, q8⟩)
        have := ho.inj k' id bk' bk2 b c' c2 q3 (hget id bk2 g1) q5 g2 q7 g3 q9 g4
        subst this
        have g1' : G.get k' = some bk2 := g1
        rw [hnotG k' q2] at g1'; cases g1'
      rw [hget'] at hk hk'
      cases hk1 : H1.get k with
      | none =>
        rw [hk1] at hk
        rw [hμ2 k hk1] at h1
        cases hk2 : H1.get k' with
        | none =>
          rw [hk2] at hk'
          rw [hμ2 k' hk2] at h2
          exact ho.inj k k' bk bk' b c c' hk hk' hl hl' h1 h2 hc hc'
        | some b2 =>
          rw [hk2] at hk'
          obtain rfl : b2 = bk' := by simpa using hk'
          rw [hμ1 k' _ hk2] at h2
          exact (cross k' k b2 bk c' c hk2 hk1 hk hl' hl h2 h1 hc' hc).elim
      | some b1 =>
        rw [hk1] at hk
        obtain rfl : b1 = bk := by simpa using hk
        rw [hμ1 k _ hk1] at h1
        cases hk2 : H1.get k' with
        | none =>
          rw [hk2] at hk'
          rw [hμ2 k' hk2] at h2
          exact (cross k k' b1 bk' c c' hk1 hk2 hk' hl hl' h1 h2 hc hc').elim
        | some b2 =>
          rw [hk2] at hk'
          obtain rfl : b2 = bk' := by simpa using hk'
          rw [hμ1 k' _ hk2] at h2
          exact hto.inj k k' b1 b2 b c c' (by rw [hth k]; exact hk1) (by rw [hth k']; exact hk2) hl hl' h1 h2 hc hc'
  have hVR1 : ∀ p v, VR1 t p v → VR1 s' p v := by
    intro p v hv
    cases p with
    | any => trivial
    | agg fs =>
      obtain ⟨cs, h1, h2⟩ := hv
      refine ⟨cs, h1, ?_⟩
      have := CR_R hRR (w := t.w) (S := t.S) (p := .agg fs) (cs := cs.toList) (by simpa only [CR] using h2)
      simpa only [CR] using this
    | _ => exact CR_R hRR hv
  have hVRs : ∀ ps us, VRs t ps us → VRs s' ps us := by
    intro ps
    induction ps with
    | nil => intro us h; exact h
    | cons p ps ih => rintro us ⟨u, r, h1, h2, h3⟩; exact ⟨u, r, h1, hVR1 _ _ h2, ih r h3⟩
  refine ⟨v, s', r, H1 ++ H, rfl, rfl, hok, hext, ?_, fun k => ?_, H1, hp, rfl⟩
  · cases r with
    | tup ps => obtain ⟨us, h1, h2⟩ := hr; exact ⟨us, h1, hVRs ps us h2⟩
    | _ => simp only [VR] at hr ⊢; exact hVR1 _ _ hr
  · rw [hget', Heap.get_append]
    cases H1.get k with
    | some b => rfl
    | none => exact hh k

/-! ### calls -/
theorem VRs_of {s : St} {env : Env} {a : Act} {N : Nat} (hE : EnvR s N env a.tmps) : ∀ (xs : List Operand), (∀ x ∈ xs, ∀ ps, env.ev x ≠ .tup ps) → VRs s (xs.map env.ev) (xs.map a.eval)
  | [], _ => rfl
  | x :: xs, h => ⟨a.eval x, xs.map a.eval, rfl, by
      have h1 := hE.ev x
      have h2 := h x (by simp)
      cases he : env.ev x <;> rw [he] at h1 <;> first | exact h1 | exact absurd he (h2 _), VRs_of hE xs fun y hy => h y (by simp [hy])⟩

section ops
variable {B : Base} {d : Option Nat} {ty : TypeId} {ps : String} {af : Array Edge} {g : Option (Nat × Bool)} {env : Env} {H : Heap}

def notTup : PV → Bool
  | .tup _ => false
  | _ => true

theorem run_call {P : Program} {f : FuncId} (he : Enters P f) (a : Act) (w : World) (xs : Array Operand) (ts : Array TypeId) :
    (execOp a.eval (⟨d, .call { callee := .value (.func f), args := xs, argTypes := ts }, ty, ps, af, g⟩ : Oper)).run P w = .ok (.enter f (xs.map a.eval)) w := by
  obtain ⟨fn, h1, h2, h3⟩ := he
  have h2' : ¬ fn.name = "runtime.NumGoroutine" := by simpa using h2
  have h3' : ¬ fn.body = none := by intro h; rw [h] at h3; cases h3
  simp [execOp, resolve, Act.eval, Deferred.ofValue, invoke, callFunc, h1, h2', h3']

/-- A call by a contract that is stated at the caller's whole memory. -/
theorem ow_call {f : FuncId} {xs : List Operand} {ts : Array TypeId} {args : List PV} {post : PV → Heap → Prop} (hc : PSpec B f args H post) (ha : xs.map env.ev = args) (hn : args.all notTup = true) :
    OpW B ⟨d, .call { callee := .value (.func f), args := xs.toArray, argTypes := ts }, ty, ps, af, g⟩ env H post := by
  intro s a N ho hH hE
  unfold Yields
  rw [run_call hc.ent]
  subst ha
  have hv := VRs_of hE xs (fun x hx qs e => by
    rw [List.all_eq_true] at hn
    have := hn (env.ev x) (List.mem_map_of_mem hx)
    rw [e] at this
    simp [notTup] at this)
  have := hc.run s (xs.map a.eval) ho hH hv
  simp only [List.map_toArray]
  exact this.mono fun e w' ⟨v, s', r, H', h1, h2, h3, h4, h5, h6, h7⟩ => ⟨v, h1, s', r, H', h2, h3, h4, h5, h6, h7⟩

end ops
end Go.PM
/- How a contract is proved; what is lent to a callee. -/
namespace Go.PM
open Go.RowKit

mutual
/-- A value, seen where only the blocks of `G` are known and the others are data that nobody writes. -/
def vw (H G : Heap) : PV → PV → Prop
  | .nils, .nils => True
  | .nils, .snap _ xs => xs = []
  | .sref id l0 off len, .sref id' l0' off' len' => id = id' ∧ l0 = l0' ∧ off = off' ∧ len = len' ∧ (G.get id).isSome = true
  | .sref id l0 off len, .snap z xs => ∃ blk, H.get id = some blk ∧ G.get id = none ∧ blk.data = true ∧ blk.elems.length = l0 ∧ off + len ≤ l0 ∧ z = blk.z ∧ xs = (blk.elems.drop off).take len
  | .ptr id l0 i off, .ptr id' l0' i' off' => id = id' ∧ l0 = l0' ∧ i = i' ∧ off = off' ∧ (G.get id).isSome = true
  | .agg fs, .agg gs => vws H G fs gs
  | .tup fs, .tup gs => vws H G fs gs
  | .int k n, .int k' n' => k = k' ∧ n = n'
  | .bool b, .bool b' => b = b'
  | .str s, .str s' => s = s'
  | .snap z xs, .snap z' xs' => z = z' ∧ xs = xs'
  | .nilp, .nilp => True
  | .sp e o, .sp e' o' => e = e' ∧ o = o'
  | .any, .any => True
  | _, _ => False
def vws (H G : Heap) : List PV → List PV → Prop
  | [], [] => True
  | p :: ps, q :: qs => vw H G p q ∧ vws H G ps qs
  | _, _ => False
end

/-- The state seen so. -/
structure Seen (s t : St) (G : Heap) : Prop where
  w : t.w = s.w
  μ : t.μ = s.μ
  H : t.has G
  S : ∀ b, s.S b → t.S b
  sub : ∀ id b, G.get id = some b → s.H.get id = some b
  lent : ∀ id blk b c, s.H.get id = some blk → G.get id = none → blk.data = true → s.μ id = some (b, c) → 0 < c → t.S b

theorem vw_RR {B : Base} {s t : St} {G : Heap} (ho : s.ok B) (h : Seen s t G) {p q : PV} {v : Value} (hv : RR s p v) (hq : vw s.H G p q) : VR1 t q v := by
  obtain ⟨hw, hμ, hH, hS, hsub, hlent⟩ := h
  cases p with
  | sref id l0 off len =>
    obtain ⟨h0, blk, h1, h2, h3⟩ := hv
    cases q with
    | sref id' l0' off' len' =>
      simp only [vw] at hq
      obtain ⟨rfl, rfl, rfl, rfl, hs⟩ := hq
      obtain ⟨b, hb⟩ := Option.isSome_iff_exists.1 hs
      have := hsub id b hb
      rw [h1] at this
      obtain rfl : blk = b := by simpa using this
      simp only [VR1, CR]
      exact ⟨v, rfl, h0, blk, by rw [hH id]; exact hb, h2, by rw [hμ]; exact h3⟩
    | snap z xs =>
      simp only [vw] at hq
      obtain ⟨bk, k1, k2, k3, k4, k5, rfl, rfl⟩ := hq
      rw [h1] at k1
      obtain rfl : blk = bk := by simpa using k1
      obtain ⟨b, c, a, cap, m1, m2, m3, m4, m5, m6⟩ := h3 k4
      have hlen : ((blk.elems.drop off).take len).length = len := by simp; omega
      simp only [VR1, CR]
      refine ⟨a, cap, by rw [hlen, m2], by rw [hlen]; exact m4, ?_⟩
      by_cases hl0 : len = 0
      · left; exact List.length_eq_zero_iff.1 (by rw [hlen, hl0])
      · right
        have hcap : cap ≠ 0 := by omega
        have ha : a = some ⟨b, off * blk.z, none⟩ := by
          rcases m6 with m6 | m6
          · exact absurd m6 hcap
          · exact m6
        have hcc : 0 < c := by omega
        refine ⟨b, off * blk.z, ha, hlent id blk b c h1 k2 k3 m1 hcc, CRrow_of fun i x hi => ?_⟩
        rw [List.getElem?_take] at hi
        split at hi
        · rw [List.getElem?_drop] at hi
          obtain ⟨b', c', n1, n2, n3⟩ := ho.blk id blk h1
          rw [m1] at n1
          obtain ⟨rfl, rfl⟩ : b = b' ∧ c = c' := by simpa using n1
          obtain ⟨_, n5, _⟩ := n3 hcc
          obtain ⟨ecs, r1, r2, r3⟩ := n5 (off + i) x hi
          refine ⟨ecs, r1, ?_, fun j u hj => ?_⟩
          · refine CR_mono hS (fun b _ => by rw [hw]) _ _ _ _ (fun _ _ h => h) (show CR s.w s.S (fun _ _ => False) x ecs by simpa [St.R, k3] using r2)
          · rw [hw]
            have := r3 j u hj
            rwa [Nat.add_mul] at this
        · cases hi
    | _ => simp only [vw] at hq
  | ptr id l0 i off =>
    obtain ⟨h0, blk, h1, h2, h3⟩ := hv
    cases q with
    | ptr id' l0' i' off' =>
      simp only [vw] at hq
      obtain ⟨rfl, rfl, rfl, rfl, hs⟩ := hq
      obtain ⟨b, hb⟩ := Option.isSome_iff_exists.1 hs
      have := hsub id b hb
      rw [h1] at this
      obtain rfl : blk = b := by simpa using this
      simp only [VR1, CR]
      exact ⟨v, rfl, h0, blk, by rw [hH id]; exact hb, h2, by rw [hμ]; exact h3⟩
    | _ => simp only [vw] at hq
  | sp e off =>
    obtain ⟨b, o, ecs, h1, h2, h3, h4⟩ := hv
    cases q with
    | sp e' o' =>
      simp only [vw] at hq
      obtain ⟨rfl, rfl⟩ := hq
      simp only [VR1, CR]
      exact ⟨v, rfl, b, o, ecs, h1, hS b h2, CR_mono hS (fun b _ => by rw [hw]) _ _ _ _ (fun _ _ h => h) h3, by rw [hw]; exact h4⟩
    | _ => simp only [vw] at hq
  | nilp =>
    cases q with
    | nilp => simp only [VR1, CR]; exact ⟨v, rfl, hv⟩
    | _ => simp only [vw] at hq
  | _ => exact hv.elim

mutual
theorem vw_CR {B : Base} {s t : St} {G : Heap} (ho : s.ok B) (h : Seen s t G) : ∀ {p q : PV} {v : Value}, CR s.w s.S (RR s) p [v] → vw s.H G p q → CR t.w t.S (RR t) q [v]
  | .agg fs, q, v, hv, hq => by
    cases q with
    | agg gs =>
      simp only [CR] at hv ⊢
      simp only [vw] at hq
      exact vws_CR ho h hv hq
    | _ => simp only [vw] at hq
  | .tup _, _, _, hv, _ => by simp only [CR] at hv
  | .any, _, _, hv, _ => by simp only [CR] at hv
  | .int k n, q, v, hv, hq => by
    cases q with
    | int k' n' => simp only [vw] at hq; obtain ⟨rfl, rfl⟩ := hq; simpa only [CR] using hv
    | _ => simp only [vw] at hq
  | .bool b, q, v, hv, hq => by
    cases q with
    | bool b' => simp only [vw] at hq; subst hq; simpa only [CR] using hv
    | _ => simp only [vw] at hq
  | .str l, q, v, hv, hq => by
    cases q with
    | str l' => simp only [vw] at hq; subst hq; simpa only [CR] using hv
    | _ => simp only [vw] at hq
  | .nils, q, v, hv, hq => by
    simp only [CR, List.cons.injEq, and_true] at hv
    cases q with
    | nils => simpa only [CR, List.cons.injEq, and_true] using hv
    | snap z xs =>
      simp only [vw] at hq
      subst hq
      simp only [CR]
      exact ⟨none, 0, by rw [hv]; rfl, by simp, .inl trivial⟩
    | _ => simp only [vw] at hq
  | .snap z xs, q, v, hv, hq => by
    cases q with
    | snap z' xs' =>
      simp only [vw] at hq
      obtain ⟨rfl, rfl⟩ := hq
      have h1 : CR s.w s.S (fun _ _ => False) (.snap z xs) [v] := CR_isD rfl hv
      exact CR_mono h.S (fun b _ => by rw [h.w]) (.snap z xs) _ (RR t) [v] (fun _ _ hp => hp.elim) h1
    | _ => simp only [vw] at hq
  | .sref id l0 off len, q, v, hv, hq => by
    simp only [CR, List.cons.injEq, and_true] at hv
    obtain ⟨u, rfl, hu⟩ := hv
    have := vw_RR ho h hu hq
    cases q <;> simp only [vw] at hq <;> exact this
  | .ptr id l0 i off, q, v, hv, hq => by
    simp only [CR, List.cons.injEq, and_true] at hv
    obtain ⟨u, rfl, hu⟩ := hv
    have := vw_RR ho h hu hq
    cases q <;> simp only [vw] at hq <;> exact this
  | .sp e off, q, v, hv, hq => by
    simp only [CR, List.cons.injEq, and_true] at hv
    obtain ⟨u, rfl, hu⟩ := hv
    have := vw_RR ho h hu hq
    cases q <;> simp only [vw] at hq <;> exact this
  | .nilp, q, v, hv, hq => by
    simp only [CR, List.cons.injEq, and_true] at hv
    obtain ⟨u, rfl, hu⟩ := hv
    have := vw_RR ho h hu hq
    cases q <;> simp only [vw] at hq <;> exact this
theorem vws_CR {B : Base} {s t : St} {G : Heap} (ho : s.ok B) (h : Seen s t G) : ∀ {ps qs : List PV} {us : List Value}, CRl s.w s.S (RR s) ps us → vws s.H G ps qs → CRl t.w t.S (RR t) qs us
  | [], [], us, hv, _ => by simpa only [CRl] using hv
  | [], _ :: _, _, _, hq => by simp only [vws] at hq
  | _ :: _, [], _, _, hq => by simp only [vws] at hq
  | p :: ps, q :: qs, us, hv, hq => by
    simp only [CRl] at hv ⊢
    simp only [vws] at hq
    obtain ⟨u, r, h1, h2, h3⟩ := hv
    exact ⟨u, r, h1, vw_CR ho h h2 hq.1, vws_CR ho h h3 hq.2⟩
end

theorem vw_VR1 {B : Base} {s t : St} {G : Heap} (ho : s.ok B) (h : Seen s t G) {p q : PV} {v : Value} (hv : VR1 s p v) (hq : vw s.H G p q) : VR1 t q v := by
  have gen : ∀ {p q : PV}, p.scal = true → VR1 s p v → vw s.H G p q → VR1 t q v := by
    intro p q hp hv hq
    have h1 : CR s.w s.S (RR s) p [v] := by cases p <;> first | (simp [PV.scal] at hp; done) | exact hv
    have h2 := vw_CR ho h h1 hq
    cases q <;> first | exact h2 | skip
    · trivial
    · cases p <;> simp [PV.scal] at hp <;> simp only [vw] at hq
  cases p with
  | any => cases q <;> simp only [vw] at hq; trivial
  | agg fs =>
    obtain ⟨cs, h1, h2⟩ := hv
    cases q with
    | agg gs => simp only [vw] at hq; exact ⟨cs, h1, vws_CR ho h h2 hq⟩
    | _ => simp only [vw] at hq
  | tup fs => simp only [VR1, CR] at hv
  | _ => exact gen rfl hv hq

theorem vws_VRs {B : Base} {s t : St} {G : Heap} (ho : s.ok B) (h : Seen s t G) : ∀ {ps qs : List PV} {us : List Value}, VRs s ps us → vws s.H G ps qs → VRs t qs us
  | [], [], _, hv, _ => hv
  | [], _ :: _, _, _, hq => by simp only [vws] at hq
  | _ :: _, [], _, _, hq => by simp only [vws] at hq
  | p :: ps, q :: qs, _, ⟨u, r, h1, h2, h3⟩, hq => by
    simp only [vws] at hq
    exact ⟨u, r, h1, vw_VR1 ho h h2 hq.1, vws_VRs ho h h3 hq.2⟩

theorem vw_VR {B : Base} {s t : St} {G : Heap} (ho : s.ok B) (h : Seen s t G) {p q : PV} {v : Value} (hv : VR s p v) (hq : vw s.H G p q) : VR t q v := by
  cases p with
  | tup ps =>
    obtain ⟨us, h1, h2⟩ := hv
    cases q with
    | tup qs => simp only [vw] at hq; exact ⟨us, h1, vws_VRs ho h h2 hq⟩
    | _ => simp only [vw] at hq
  | _ =>
    simp only [VR] at hv
    have := vw_VR1 ho h hv hq
    cases q <;> first | exact this | skip
    all_goals first | (simp only [vw] at hq; done) | skip

/-- The memory behind a function's end: only what the caller is told of stays named; the code's own slices are data from now on. -/
def St.shut (s : St) (G : Heap) : St :=
  { w := s.w, μ := s.μ, S := fun b => s.S b ∨ ∃ id blk c, s.H.get id = some blk ∧ G.get id = none ∧ blk.data = true ∧ s.μ id = some (b, c) ∧ 0 < c, H := G }

theorem St.shut_seen {s : St} {G : Heap} (hsub : ∀ id b, G.get id = some b → s.H.get id = some b) : Seen s (s.shut G) G :=
  ⟨rfl, rfl, fun _ => rfl, fun _ h => .inl h, hsub, fun id blk _ c h1 h2 h3 h4 h5 => .inr ⟨id, blk, c, h1, h2, h3, h4, h5⟩⟩

theorem St.shut_ok {B : Base} {s : St} {G : Heap} (ho : s.ok B) (hG : heapSub G G s.H) : (s.shut G).ok B := by
  have hsub : ∀ id b, G.get id = some b → s.H.get id = some b := fun id b hb => (heapSub_get hG hb).1
  have hseen := St.shut_seen hsub
  refine ⟨fun b hb => ?_, fun id blk hb => ?_, fun id id' blk blk' b c c' h1 h2 => ho.inj id id' blk blk' b c c' (hsub _ _ h1) (hsub _ _ h2), fun b hb => ⟨.inl (ho.glob b hb).1, (ho.glob b hb).2⟩⟩
  · rcases hb with hb | ⟨id, blk, c, h1, _, _, h4, h5⟩
    · exact ho.lt b hb
    · exact St.blk_lt ho h1 h4 h5
  · have h1 := hsub id blk hb
    obtain ⟨b, c, k1, k2, k3⟩ := ho.blk id blk h1
    refine ⟨b, c, k1, k2, fun hc => ?_⟩
    obtain ⟨k4, k5, k6, k7⟩ := k3 hc
    refine ⟨k4, fun i x hi => ?_, fun hl hS => ?_, fun hl => .inl (k7 hl)⟩
    · obtain ⟨ecs, m1, m2, m3⟩ := k5 i x hi
      refine ⟨ecs, m1, ?_, m3⟩
      cases hd : blk.data with
      | true =>
        rw [hd] at m2
        exact CR_mono (w' := s.w) (fun b h => Or.inl h) (fun _ _ => rfl) _ _ _ _ (fun _ _ h => h) m2
      | false =>
        rw [hd] at m2
        have hrefs := refsInl_get ((heapSub_get hG hb).2.resolve_left (by simp [hd])) hi
        have h5 : CR s.w s.S (RR (s.re G)) x ecs := CR_sub hsub hrefs m2
        refine CR_mono (w' := s.w) (S' := (s.shut G).S) (fun b h => Or.inl h) (fun _ _ => rfl) _ _ _ _ (fun p v hp => ?_) h5
        cases p with
        | sp e off => obtain ⟨b, o, es, q1, q2, q3, q4⟩ := hp; exact ⟨b, o, es, q1, .inl q2, CR_mono (w' := s.w) (fun b h => Or.inl h) (fun _ _ => rfl) _ _ _ _ (fun _ _ h => h) q3, q4⟩
        | sref => exact hp
        | ptr => exact hp
        | nilp => exact hp
        | _ => exact hp.elim
    · rcases hS with hS | ⟨id', bk, c', g1, g2, g3, g4, g5⟩
      · exact k6 hl hS
      · by_cases hl' : bk.live = true
        · have := ho.inj id id' blk bk b c c' h1 g1 hl hl' k1 g4 hc g5
          subst this
          have : G.get id = some blk := hb
          rw [g2] at this; cases this
        · obtain ⟨b2, c2, q1, _, q3⟩ := ho.blk id' bk g1
          rw [g4] at q1
          obtain ⟨rfl, rfl⟩ : b = b2 ∧ c' = c2 := by simpa using q1
          exact k6 hl ((q3 g5).2.2.2 (by simpa using hl'))

theorem St.shut_ext {B : Base} {s0 s : St} {G H0 : Heap} (h0 : s0.has H0) (hx : Ext s0 s) (ho : s.ok B) (hG : heapSub G G s.H) (hk : keysIn H0 G = true) : Ext s0 (s.shut G) := by
  have hsub : ∀ id b, G.get id = some b → s.H.get id = some b := fun id b hb => (heapSub_get hG hb).1
  refine ⟨hx.os, hx.tape, hx.output, hx.size, hx.frame, fun b hb => .inl (hx.stab b hb), fun b hb => ?_, fun b hb hl => hx.live b hb (by
    obtain ⟨id, blk, c, h1, h2⟩ := hl
    exact ⟨id, blk, c, hsub id blk h1, h2⟩), fun id blk hb => ?_⟩
  · rcases hb with hb | ⟨id, blk, c, h1, h2, h3, h4, h5⟩
    · exact hx.prov b hb
    · rcases Nat.lt_or_ge b s0.w.heap.size with hlt | hge
      · by_cases hl : blk.live = true
        · exact .inr (.inr (hx.live b hlt ⟨id, blk, c, h1, hl, h4, h5⟩))
        · obtain ⟨b2, c2, q1, _, q3⟩ := ho.blk id blk h1
          rw [h4] at q1
          obtain ⟨rfl, rfl⟩ : b = b2 ∧ c = c2 := by simpa using q1
          exact hx.prov b ((q3 h5).2.2.2 (by simpa using hl))
      · exact .inr (.inl hge)
  · obtain ⟨b1, h1, h2⟩ := hx.ids id blk hb
    obtain ⟨b2, hb2⟩ := Option.isSome_iff_exists.1 (keysIn_get hk id (by rw [← h0 id, hb]; rfl))
    have := hsub id b2 hb2
    rw [h1] at this
    obtain rfl : b1 = b2 := by simpa using this
    exact ⟨b1, hb2, h2⟩
end Go.PM
/- How a contract is proved: from the entry with the arguments to the return of the results. -/
namespace Go.PM
open Go.RowKit

/-- What a result variable holds at the end. -/
def retPV (T : List (Option TyE)) (env : Env) (H : Heap) : ResultVar → Option PV
  | .tmp t => if notTup (env.get t) then some (env.get t) else none
  | .cell a t => match env.get a, T[t]? with
    | .ptr id l0 i off, some (some e) => match H.get id with
      | some blk => if blk.elems.length = l0 then (match blk.elems[i]? with
        | some y => match subP e y.cells off with
          | some q => if notTup q then some q else none
          | none => none
        | none => none) else none
      | none => none
    | _, _ => none

def retsPV (T : List (Option TyE)) (env : Env) (H : Heap) : List ResultVar → Option (List PV)
  | [] => some []
  | r :: rs => match retPV T env H r, retsPV T env H rs with
    | some p, some ps => some (p :: ps)
    | _, _ => none

def packPV : List PV → PV
  | [p] => p
  | ps => .tup ps

def argEnv : Nat → List PV → Env
  | _, [] => []
  | i, p :: ps => (i, p) :: argEnv (i + 1) ps

theorem argEnv_get : ∀ (ps : List PV) (i t : Nat), (argEnv i ps).get t = if i ≤ t then (ps[t - i]?).getD .any else .any
  | [], i, t => by simp [argEnv, Env.get]
  | p :: ps, i, t => by
    simp only [argEnv, Env.get, argEnv_get ps (i + 1) t]
    by_cases h : i = t
    · subst h; simp
    · rw [if_neg h]
      by_cases h1 : i ≤ t
      · rw [if_pos (by omega), if_pos h1]
        have : t - i = (t - (i + 1)) + 1 := by omega
        rw [this, List.getElem?_cons_succ]
      · rw [if_neg (by omega), if_neg h1]

theorem VRs_get {s : St} : ∀ {ps : List PV} {us : List Value}, VRs s ps us → ∀ {i : Nat} {p : PV}, ps[i]? = some p → ∃ u, us[i]? = some u ∧ VR1 s p u
  | [], _, _, _, _, h => by simp at h
  | q :: ps, _, ⟨u, r, rfl, h2, h3⟩, i, p, h => by
    cases i with
    | zero => obtain rfl : q = p := by simpa using h
              exact ⟨u, rfl, h2⟩
    | succ i => simpa using VRs_get h3 (by simpa using h)

theorem VRs_len {s : St} : ∀ {ps : List PV} {us : List Value}, VRs s ps us → us.length = ps.length
  | [], _, h => by cases h; rfl
  | _ :: ps, _, ⟨u, r, rfl, _, h3⟩ => by simp [VRs_len h3]

theorem VR_of1 {s : St} {p : PV} {v : Value} (h : VR1 s p v) : VR s p v := by
  cases p with
  | tup ps => simp [VR1, CR] at h
  | _ => exact h

theorem VR1_of {s : St} {p : PV} {v : Value} (hp : notTup p = true) (h : VR s p v) : VR1 s p v := by
  cases p with
  | tup ps => simp [notTup] at hp
  | _ => exact h

def oneResult (tmps : Array Value) : ResultVar → Sem Value
  | .tmp t => pure (tmps.getD t undef)
  | .cell a t => do loadVar t (← asAddr (tmps.getD a undef))

theorem run_retPV {B : Base} {s : St} {N : Nat} {env : Env} {tmps : Array Value} {H : Heap} (hT : B.good) (ho : s.ok B) (hH : s.has H) (hE : EnvR s N env tmps) : ∀ {r : ResultVar} {p : PV}, retPV B.T env H r = some p →
    ∃ v, (oneResult tmps r).run B.P s.w = .ok v s.w ∧ VR1 s p v := by
  intro r p h
  cases r with
  | tmp t =>
    refine ⟨tmps.getD t undef, rfl, ?_⟩
    have h1 := hE.get t
    simp only [retPV] at h
    split at h
    · rename_i hn
      obtain rfl : env.get t = p := by simpa using h
      exact VR1_of hn h1
    · cases h
  | cell a t =>
    simp only [retPV] at h
    split at h
    · rename_i id l0 i off e ha ht
      split at h
      · rename_i blk hb
        split at h
        · rename_i hl
          split at h
          · rename_i y hy
            have h1 := hE.get a
            rw [ha] at h1
            obtain ⟨_, blk', h2, h3, h4⟩ := VR_ptr.1 h1
            rw [hH, hb] at h2
            obtain rfl : blk = blk' := by simpa using h2
            obtain ⟨b, c, h5, h6, h7, h8⟩ := h4 hl
            obtain ⟨b', c', k1, k2, k3⟩ := ho.blk id blk (by rw [hH, hb])
            rw [h5] at k1
            obtain ⟨rfl, rfl⟩ : b = b' ∧ c = c' := by simpa using k1
            obtain ⟨_, k5, _⟩ := k3 h6
            obtain ⟨ecs, k6, k7, k8⟩ := k5 i y hy
            have hp : subP e y.cells off = some p ∧ notTup p = true := by
              cases hsub : subP e y.cells off with
              | none => rw [hsub] at h; simp at h
              | some q =>
                rw [hsub] at h
                simp only at h
                split at h
                · rename_i hn; obtain rfl : q = p := by simpa using h
                  exact ⟨rfl, hn⟩
                · cases h
            obtain ⟨v, k9, k10⟩ := run_loadVar_sub (hT.ty ht) (fun p v => St.R_le s _ p v) (CR_cells k7) k8 hp.1
            exact ⟨v, by simp only [oneResult, h7, asAddr, Sem.run_bind, Sem.run_pure, Result.andThen_ok, k9], VR1_of hp.2 k10⟩
          · cases h
        · cases h
      · cases h
    · cases h

theorem run_retsPV {B : Base} {s : St} {N : Nat} {env : Env} {tmps : Array Value} {H : Heap} (hT : B.good) (ho : s.ok B) (hH : s.has H) (hE : EnvR s N env tmps) : ∀ {rs : List ResultVar} {ps : List PV}, retsPV B.T env H rs = some ps →
    ∃ vs, (rs.mapM (oneResult tmps)).run B.P s.w = .ok vs s.w ∧ VRs s ps vs
  | [], ps, h => by
    obtain rfl : [] = ps := by simpa [retsPV] using h
    exact ⟨[], rfl, rfl⟩
  | r :: rs, ps, h => by
    simp only [retsPV] at h
    split at h
    · rename_i p qs h1 h2
      obtain rfl : p :: qs = ps := by simpa using h
      obtain ⟨v, k1, k2⟩ := run_retPV hT ho hH hE h1
      obtain ⟨vs, k3, k4⟩ := run_retsPV hT ho hH hE h2
      refine ⟨v :: vs, ?_, v, vs, rfl, k2, k4⟩
      rw [List.mapM_cons, Sem.run_bind, k1]
      simp only [Result.andThen_ok, Sem.run_bind]
      rw [k3]
      rfl
    · cases h

theorem run_results {B : Base} {s : St} {N : Nat} {env : Env} {tmps : Array Value} {H : Heap} (hT : B.good) (ho : s.ok B) (hH : s.has H) (hE : EnvR s N env tmps) {fn : Func} {ps : List PV} (h : retsPV B.T env H fn.results.toList = some ps) :
    ∃ v vs, (results fn tmps).run B.P s.w = .ok v s.w ∧ VRs s ps vs ∧ v = (if h : vs.length = 1 then vs[0] else .tuple vs.toArray) := by
  obtain ⟨vs, h1, h2⟩ := run_retsPV hT ho hH hE h
  refine ⟨_, vs, ?_, h2, rfl⟩
  have hu : results fn tmps = ((fn.results.mapM (oneResult tmps)) >>= fun vs => pure (if h : vs.size = 1 then vs[0] else .tuple vs)) := by
    unfold results
    congr 1
  rw [hu, Sem.run_bind]
  have h3 : (fn.results.mapM (oneResult tmps)).run B.P s.w = .ok vs.toArray s.w := by
    rw [Array.mapM_eq_mapM_toList, map_eq_pure_bind, Sem.run_bind, h1]
    rfl
  rw [h3]
  simp only [Result.andThen_ok, Sem.run_pure, List.size_toArray]
  congr 1

theorem VR_pack {s : St} {ps : List PV} {vs : List Value} (h : VRs s ps vs) : VR s (packPV ps) (if h : vs.length = 1 then vs[0] else .tuple vs.toArray) := by
  have hl := VRs_len h
  match ps, h with
  | [p], ⟨u, r, e1, h2, h3⟩ =>
    cases h3
    subst e1
    simp only [packPV, List.length_cons, List.length_nil, dif_pos, List.getElem_cons_zero]
    exact VR_of1 h2
  | [], h => cases h; exact ⟨[], rfl, rfl⟩
  | p :: q :: ps, h =>
    rw [dif_neg (by rw [hl]; simp)]
    exact ⟨vs, rfl, h⟩

mutual
theorem vw_has {A C G : Heap} (h : ∀ k, A.get k = C.get k) : ∀ {p q : PV}, vw C G p q → vw A G p q
  | .sref id l0 off len, q, hq => by
    cases q with
    | snap z xs =>
      simp only [vw] at hq ⊢
      obtain ⟨b, h1, h2⟩ := hq
      exact ⟨b, by rw [h]; exact h1, h2⟩
    | _ => simp only [vw] at hq ⊢ <;> exact hq
  | .agg fs, q, hq => by
    cases q with
    | agg gs => simp only [vw] at hq ⊢; exact vws_has h hq
    | _ => simp only [vw] at hq
  | .tup fs, q, hq => by
    cases q with
    | tup gs => simp only [vw] at hq ⊢; exact vws_has h hq
    | _ => simp only [vw] at hq
  | .any, q, hq => by cases q <;> simp only [vw] at hq ⊢ <;> exact hq
  | .int k n, q, hq => by cases q <;> simp only [vw] at hq ⊢ <;> exact hq
  | .bool b, q, hq => by cases q <;> simp only [vw] at hq ⊢ <;> exact hq
  | .str s, q, hq => by cases q <;> simp only [vw] at hq ⊢ <;> exact hq
  | .snap z xs, q, hq => by cases q <;> simp only [vw] at hq ⊢ <;> exact hq
  | .nils, q, hq => by cases q <;> simp only [vw] at hq ⊢ <;> exact hq
  | .nilp, q, hq => by cases q <;> simp only [vw] at hq ⊢ <;> exact hq
  | .sp e o, q, hq => by cases q <;> simp only [vw] at hq ⊢ <;> exact hq
  | .ptr id l0 i off, q, hq => by cases q <;> simp only [vw] at hq ⊢ <;> exact hq
theorem vws_has {A C G : Heap} (h : ∀ k, A.get k = C.get k) : ∀ {ps qs : List PV}, vws C G ps qs → vws A G ps qs
  | [], [], _ => trivial
  | [], _ :: _, hq => by simp only [vws] at hq
  | _ :: _, [], hq => by simp only [vws] at hq
  | p :: ps, q :: qs, hq => by
    simp only [vws] at hq ⊢
    exact ⟨vw_has h hq.1, vws_has h hq.2⟩
end

/-- The frame of a function's own run. -/
def frm (B : Base) (fn : Func) (s0 : St) (H : Heap) (post : PV → Heap → Prop) : Frm :=
  ⟨B, fn.ntmps, s0, H, fun env H1 => ∃ ps qs G, retsPV B.T env H1 fn.results.toList = some ps ∧ vws H1 G ps qs ∧ heapSub G G H1 ∧ keysIn H G = true ∧ post (packPV qs) G⟩

theorem pspec_intro {B : Base} {g : FuncId} {fn : Func} {c : Code} {args : List PV} {H : Heap} {post : PV → Heap → Prop} (hT : B.good) (hf : B.P.funcs[g]? = some fn) (hn : (fn.name == "runtime.NumGoroutine") = false) (hb : fn.body = some c) (hk : args.length ≤ fn.ntmps)
    (h : ∀ s0, s0.has H → Prun (frm B fn s0 H post) [.code c] (argEnv 0 args) H) : PSpec B g args H post := by
  refine ⟨⟨fn, hf, hn, by rw [hb]; rfl⟩, fun s cargs ho hH hv => ?_⟩
  have hl := VRs_len hv
  refine calls_of_wp hf hb ?_
  have hrel : Rel (frm B fn s H post) (argEnv 0 args) H s
      { tmps := cargs.toArray ++ Array.replicate (fn.ntmps - cargs.toArray.size) undef, defers := [] } := by
    refine ⟨ho, hH, Ext.refl s, rfl, ⟨?_, fun t => ?_⟩, hH⟩
    · show _ = fn.ntmps
      simp; omega
    · rw [argEnv_get]
      simp only [Nat.zero_le, if_true, Nat.sub_zero]
      cases ht : args[t]? with
      | none => exact VR_any.2 trivial
      | some p =>
        obtain ⟨u, k1, k2⟩ := VRs_get hv ht
        simp only [Option.getD_some]
        have hlt : t < cargs.length := (List.getElem?_eq_some_iff.1 k1).1
        rw [Array.getD_eq_getD_getElem?, Array.getElem?_append_left (by simpa using hlt)]
        simp only [List.getElem?_toArray, k1, Option.getD_some]
        exact VR_of1 k2
  refine wp_mono (h s hH s _ hrel) fun e a w hq => ?_
  have key : itQ (frm B fn s H post) [] e a w → a.defers = [] ∧ ∃ v, (results fn a.tmps).run B.P w = .ok v w ∧ ∃ v' s' r H', Ending.returned v = .returned v' ∧ s'.w = w ∧ s'.ok B ∧ Ext s s' ∧ VR s' r v' ∧ s'.has H' ∧ post r H' := by
    rintro ⟨_, env, H1, t, rfl, hr, ps, qs, G, k1, k2, k3, k4, k5⟩
    obtain ⟨v, vs, m1, m2, rfl⟩ := run_results hT hr.ok hr.has hr.env k1
    have hG : heapSub G G t.H := by
      have : ∀ (l : Heap), heapSub G l H1 → heapSub G l t.H := by
        intro l
        induction l with
        | nil => intro _; trivial
        | cons x l ih => rintro ⟨a, b, c⟩; exact ⟨by rw [hr.has]; exact a, b, ih c⟩
      exact this G k3
    have hvw : vws t.H G ps qs := vws_has hr.has k2
    refine ⟨hr.dfr, _, m1, _, t.shut G, packPV qs, G, rfl, rfl, St.shut_ok hr.ok hG, St.shut_ext hH hr.ext hr.ok hG k4, VR_pack (vws_VRs hr.ok (St.shut_seen fun id b hb => (heapSub_get hG hb).1) m2 hvw), fun _ => rfl, k5⟩
  cases e with
  | normal => obtain ⟨h1, v, h2, h3⟩ := key hq; exact ⟨h1, v, h2, h3⟩
  | ret => obtain ⟨h1, v, h2, h3⟩ := key hq; exact ⟨h1, v, h2, h3⟩
  | exit id => exact absurd hq.1 (by simp)
  | goto l => exact absurd hq.1 (by simp)
  | panic ch => exact absurd hq.1 (by simp)
  | outgrown => exact absurd hq.1 (by simp)

end Go.PM
