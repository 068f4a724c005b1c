/- Laws that let walks go on by themselves: tests, sums, indices; lending; freezing. -/
import Derived.Test.YtkjmbfkfimdejaaDoorReadA2
import Derived.Lib.SplitLaws
import Derived.Lib.Builder
import Derived.Lib.UnsafeStr
import Derived.ProofKit
import Derived.OpenShut
import Derived.Carry
import Derived.Deep.DeepHandedRow
import Derived.Deep.Slices
import Derived.Lib.LaidTab
namespace Go.PM
open Go.RowKit

/-! ### tests -/
/-- What it says that a truth value is true. -/
class BP (b : Bool) (p : outParam Prop) : Prop where
  iff : b = true ↔ p
instance (priority := 10) bp_any (b : Bool) : BP b (b = true) := ⟨Iff.rfl⟩
instance bp_dec (p : Prop) [Decidable p] : BP (decide p) p := ⟨by simp⟩
instance bp_not (b : Bool) (p : Prop) [h : BP b p] : BP (!b) (¬ p) := ⟨by rw [← h.iff]; simp⟩
instance bp_and (a b : Bool) (p q : Prop) [h : BP a p] [k : BP b q] : BP (a && b) (p ∧ q) := ⟨by rw [← h.iff, ← k.iff]; simp⟩
instance bp_or (a b : Bool) (p q : Prop) [h : BP a p] [k : BP b q] : BP (a || b) (p ∨ q) := ⟨by rw [← h.iff, ← k.iff]; simp⟩
instance bp_eq {α : Type} [BEq α] [LawfulBEq α] (x y : α) : BP (x == y) (x = y) := ⟨by simp⟩
instance bp_ne {α : Type} [BEq α] [LawfulBEq α] (x y : α) : BP (x != y) (¬ x = y) := ⟨by simp⟩

section
variable {F : Frm} {k : List It} {env : Env} {H : Heap}
theorem prun_if {c : Operand} {x y : Code} {b : Bool} {p : Prop} (hc : env.ev c = .bool b) [hp : BP b p] (h1 : p → Prun F (.code x :: k) env H) (h2 : ¬ p → Prun F (.code y :: k) env H) : Prun F (.code (.cond c x y) :: k) env H :=
  prun_cond hc (fun h => h1 (hp.iff.1 h)) (fun h => h2 (fun hq => by rw [hp.iff.2 hq] at h; cases h))
/-- A truth value in a slot is one or the other. -/
theorem prun_sp {b : Bool} {p : Prop} (d : Nat) (hc : env.get d = .bool b) [hp : BP b p] (h1 : p → Prun F k ((d, .bool true) :: env) H) (h2 : ¬ p → Prun F k ((d, .bool false) :: env) H) : Prun F k env H :=
  prun_split d hc (fun h => h1 (hp.iff.1 h)) (fun h => h2 (fun hq => by rw [hp.iff.2 hq] at h; cases h))
theorem plex_sp {all : Array Oper} {rest : List Oper} {acc : List (List Nat × List Nat)} {b : Bool} {p : Prop} (d : Nat) (hc : env.get d = .bool b) [hp : BP b p] (h1 : p → Plex F all k rest acc ((d, .bool true) :: env) H) (h2 : ¬ p → Plex F all k rest acc ((d, .bool false) :: env) H) : Plex F all k rest acc env H :=
  plex_split d hc (fun h => h1 (hp.iff.1 h)) (fun h => h2 (fun hq => by rw [hp.iff.2 hq] at h; cases h))
end

/-! ### sums and their like, where nothing runs over -/
def arI (op : BinOp) (x y : Int) : Option Int :=
  match op with
  | .add => some (x + y)
  | .sub => some (x - y)
  | .mul => some (x * y)
  | _ => none

section
variable {B : Base} {d : Option Nat} {ty : TypeId} {ps : String} {af : Array Edge} {g : Option (Nat × Bool)} {env : Env} {H : Heap}

theorem od_ar {op : BinOp} {t t' : TypeId} {x y : Operand} {m n r : Int} (hx : env.ev x = .int .i64 m) (hy : env.ev y = .int .i64 n) (hr : arI op m n = some r) (h1 : -9223372036854775808 ≤ r := by omega) (h2 : r ≤ 9223372036854775807 := by omega) :
    OpD B ⟨d, .binOp op t x y t', ty, ps, af, g⟩ env [] H (.int .i64 r) [] := by
  refine od_bin hx hy ?_
  cases op <;> simp only [arI, Option.some.injEq, reduceCtorEq] at hr <;> subst hr <;> simp only [binInt, wrap64 h1 h2]

theorem od_quo' {t t' : TypeId} {x y : Operand} {m n : Int} (hx : env.ev x = .int .i64 m) (hy : env.ev y = .int .i64 n) (h0 : 0 ≤ m := by omega) (h1 : 0 < n := by omega) (h2 : m ≤ 9223372036854775807 := by omega) :
    OpD B ⟨d, .binOp .quo t x y t', ty, ps, af, g⟩ env [] H (.int .i64 (m / n)) [] := by
  have := od_quo (B := B) (d := d) (ty := ty) (ps := ps) (af := af) (g := g) (H := H) (t := t) (t' := t') hx hy (by omega)
  rw [Int.tdiv_eq_ediv_of_nonneg h0, wrap64] at this
  · exact this
  · have := Int.ediv_nonneg h0 (Int.le_of_lt h1); omega
  · have := Int.ediv_le_self n h0; omega

theorem od_rem' {t t' : TypeId} {x y : Operand} {k : IntKind} {m n : Int} (hx : env.ev x = .int k m) (hy : env.ev y = .int k n) (h0 : 0 ≤ m := by omega) (h1 : 0 < n := by omega) :
    OpD B ⟨d, .binOp .rem t x y t', ty, ps, af, g⟩ env [] H (.int k (m % n)) [] := by
  have := od_rem (B := B) (d := d) (ty := ty) (ps := ps) (af := af) (g := g) (H := H) (t := t) (t' := t') hx hy (by omega)
  rwa [Int.tmod_eq_emod_of_nonneg h0] at this

theorem od_neg' {t : TypeId} {x : Operand} {n : Int} (hx : env.ev x = .int .i64 n) (h1 : -9223372036854775807 ≤ n := by omega) (h2 : n ≤ 9223372036854775807 := by omega) : OpD B ⟨d, .unOp .neg t x, ty, ps, af, g⟩ env [] H (.int .i64 (-n)) [] := by
  have := od_neg (B := B) (d := d) (ty := ty) (ps := ps) (af := af) (g := g) (H := H) (t := t) hx
  rwa [wrap64 (by omega) (by omega), Int.zero_sub] at this

/-- A byte, or another whole number that fits, as an int. -/
theorem od_cvb {t t' : TypeId} {x : Operand} {k : IntKind} {c : UInt8} (hT : B.good) {e e' : TyE} (ht : B.T[t]? = some (some e)) (ht' : B.T[t']? = some (some e')) (hk : e'.kind = .int .i64) (hx : env.ev x = .int k (c.toNat : Int)) :
    OpD B ⟨d, .convert t t' x, ty, ps, af, g⟩ env [] H (.int .i64 (c.toNat : Int)) [] := by
  have := od_conv (B := B) (d := d) (ty := ty) (ps := ps) (af := af) (g := g) (H := H) hT ht ht' hk hx
  have hc := c.toNat_lt
  rwa [wrap64 (by omega) (by omega)] at this
theorem od_cvi {t t' : TypeId} {x : Operand} {k : IntKind} {n : Int} (hT : B.good) {e e' : TyE} (ht : B.T[t]? = some (some e)) (ht' : B.T[t']? = some (some e')) (hk : e'.kind = .int .i64) (hx : env.ev x = .int k n) (h1 : -9223372036854775808 ≤ n := by omega) (h2 : n ≤ 9223372036854775807 := by omega) :
    OpD B ⟨d, .convert t t' x, ty, ps, af, g⟩ env [] H (.int .i64 n) [] := by
  have := od_conv (B := B) (d := d) (ty := ty) (ps := ps) (af := af) (g := g) (H := H) hT ht ht' hk hx
  rwa [wrap64 (by omega) (by omega)] at this
theorem od_cv8 {t t' : TypeId} {x : Operand} {k : IntKind} {n : Int} (hT : B.good) {e e' : TyE} (ht : B.T[t]? = some (some e)) (ht' : B.T[t']? = some (some e')) (hk : e'.kind = .int .u8) (hx : env.ev x = .int k n) (h1 : 0 ≤ n := by omega) (h2 : n ≤ 255 := by omega) :
    OpD B ⟨d, .convert t t' x, ty, ps, af, g⟩ env [] H (.int .u8 n) [] := by
  have := od_conv (B := B) (d := d) (ty := ty) (ps := ps) (af := af) (g := g) (H := H) hT ht ht' hk hx
  rwa [wrapu8 h1 h2] at this

/-! ### indices -/
theorem od_ixs {x y : Operand} {t : TypeId} {l : List UInt8} {k : IntKind} {n : Int} {b : UInt8} (i : Nat) {e : TyE} (hT : B.good) (ht : B.T[t]? = some (some e)) (hk : e.kind = .str) (hx : env.ev x = .str l) (hy : env.ev y = .int k n) (hb : l[i]? = some b := by assumption) (hn : n = (i : Int) := by first | rfl | omega) :
    OpD B ⟨d, .index t x y, ty, ps, af, g⟩ env [] H (.int .u8 b.toNat) [] :=
  od_index_str hT ht hk hx hy (by omega) (by subst hn; simpa using hb)

theorem od_ixm {α : Type} {f : α → PV} {t et : TypeId} {x y : Operand} {k : IntKind} {n : Int} {z : Nat} {l : List α} {p : α} (i : Nat) {e ee : TyE} (hT : B.good) (ht : B.T[t]? = some (some e)) (hk : e.kind = .slice et) (he : B.T[et]? = some (some ee)) (hz : ee.size = z)
    (hx : env.ev x = .snap z (l.map f)) (hy : env.ev y = .int k n) (hb : l[i]? = some p := by assumption) (hn : n = (i : Int) := by first | rfl | omega) : OpD B ⟨d, .indexAddr t x y, ty, ps, af, g⟩ env [] H (.sp (f p) 0) [] :=
  od_indexAddr hT ht hk he hz hx hy (by omega) (by subst hn; simp [hb])

theorem ex_get {α : Type} {l : List α} {i : Nat} (h : i < l.length) : ∃ c, l[i]? = some c := ⟨l[i], by simp [h]⟩
theorem drop_get {α : Type} {l : List α} {i : Nat} {c : α} (h : l[i]? = some c) : l.drop i = c :: l.drop (i + 1) := by
  obtain ⟨hlt, rfl⟩ := List.getElem?_eq_some_iff.1 h
  exact List.drop_eq_getElem_cons hlt
theorem get_lt {α : Type} {l : List α} {i : Nat} {c : α} (h : l[i]? = some c) : i < l.length := (List.getElem?_eq_some_iff.1 h).1
end

/-! ### what leads nowhere -/
mutual
def PV.noref : PV → Bool
  | .snap .. | .sref .. | .ptr .. | .sp .. => false
  | .agg fs | .tup fs => norefs fs
  | _ => true
def norefs : List PV → Bool
  | [] => true
  | f :: fs => f.noref && norefs fs
end

mutual
theorem CR_noref {w w' : World} {S S' : Nat → Prop} {s s' : St} : ∀ {p : PV} {cs : List Value}, p.noref = true → CR w S (RR s) p cs → CR w' S' (RR s') p cs
  | .any, _, _, h => by simp only [CR] at h
  | .int _ _, _, _, h => by simpa only [CR] using h
  | .bool _, _, _, h => by simpa only [CR] using h
  | .str _, _, _, h => by simpa only [CR] using h
  | .agg fs, cs, hp, h => by
    simp only [CR] at h ⊢
    exact CRl_noref (by simpa only [PV.noref] using hp) h
  | .tup _, _, _, h => by simp only [CR] at h
  | .snap _ _, _, hp, _ => by simp [PV.noref] at hp
  | .sref .., _, hp, _ => by simp [PV.noref] at hp
  | .ptr .., _, hp, _ => by simp [PV.noref] at hp
  | .sp .., _, hp, _ => by simp [PV.noref] at hp
  | .nilp, _, _, h => by simp only [CR] at h ⊢; exact h
  | .nils, _, _, h => by simpa only [CR] using h
theorem CRl_noref {w w' : World} {S S' : Nat → Prop} {s s' : St} : ∀ {fs : List PV} {cs : List Value}, norefs fs = true → CRl w S (RR s) fs cs → CRl w' S' (RR s') fs cs
  | [], cs, _, h => by simpa only [CRl] using h
  | f :: fs, cs, hp, h => by
    simp only [CRl] at h ⊢
    simp only [norefs, Bool.and_eq_true] at hp
    obtain ⟨v, r, h1, h2, h3⟩ := h
    exact ⟨v, r, h1, CR_noref hp.1 h2, CRl_noref hp.2 h3⟩
end

theorem VR1_noref {s s' : St} {p : PV} {v : Value} (hp : p.noref = true) (h : VR1 s p v) : VR1 s' p v := by
  cases p with
  | any => trivial
  | agg fs =>
    obtain ⟨cs, h1, h2⟩ := h
    exact ⟨cs, h1, CRl_noref (by simpa only [PV.noref] using hp) h2⟩
  | _ => exact CR_noref (w := s.w) (S := s.S) (s := s) (s' := s') hp h
theorem VRs_noref {s s' : St} : ∀ {ps : List PV} {us : List Value}, norefs ps = true → VRs s ps us → VRs s' ps us
  | [], _, _, h => h
  | p :: ps, _, hp, ⟨u, r, h1, h2, h3⟩ => by
    simp only [norefs, Bool.and_eq_true] at hp
    exact ⟨u, r, h1, VR1_noref hp.1 h2, VRs_noref hp.2 h3⟩
theorem VR_noref {s s' : St} {p : PV} {v : Value} (hp : p.noref = true) (h : VR s p v) : VR s' p v := by
  cases p with
  | tup ps => obtain ⟨us, h1, h2⟩ := h; exact ⟨us, h1, VRs_noref (by simpa only [PV.noref] using hp) h2⟩
  | _ => simp only [VR] at h ⊢; exact VR1_noref hp h

/-! ### the world grows, nothing else -/
structure Grown (w w' : World) : Prop where
  os : w'.os = w.os
  tape : w'.tape = w.tape
  output : w'.output = w.output
  size : w.heap.size ≤ w'.heap.size
  frame : ∀ b, b < w.heap.size → w'.heap[b]? = w.heap[b]?

def St.gr (s : St) (w' : World) : St := { s with w := w' }
theorem St.gr_ext {s : St} {w' : World} (h : Grown s.w w') : Ext s (s.gr w') where
  os := h.os
  tape := h.tape
  output := h.output
  size := h.size
  frame b hb _ := h.frame b hb
  stab _ h := h
  prov _ h := .inl h
  live _ _ h := h
  ids _ blk h := ⟨blk, h, rfl, Nat.le_refl _, fun _ => rfl⟩
theorem St.gr_ok {B : Base} {s : St} {w' : World} (h : Grown s.w w') (ho : s.ok B) : (s.gr w').ok B where
  lt b hb := Nat.lt_of_lt_of_le (ho.lt b hb) h.size
  blk id blk hb := (ho.blk id blk hb).keep (St.gr_ext h) ho rfl (fun b c h1 h2 => h.frame b (St.blk_lt ho hb h1 h2)) (fun b c h1 h2 hl hS => by
    obtain ⟨b', c', k1, _, k3⟩ := ho.blk id blk hb
    rw [h1] at k1
    obtain ⟨rfl, rfl⟩ : b = b' ∧ c = c' := by simpa using k1
    exact (k3 h2).2.2.1 hl hS)
  inj := ho.inj
  glob b hb := ⟨(ho.glob b hb).1, (h.frame b (ho.lt b (ho.glob b hb).1)).trans (ho.glob b hb).2⟩

/-! ### lending: the callee looks at the code's own slices, and gives back what leads nowhere -/
mutual
def PV.keys : PV → List Nat
  | .sref id .. | .ptr id .. => [id]
  | .agg fs | .tup fs => keysL fs
  | _ => []
def keysL : List PV → List Nat
  | [] => []
  | f :: fs => f.keys ++ keysL fs
end

mutual
theorem vw_same {H H' G : Heap} : ∀ {p q : PV}, (∀ k ∈ p.keys, H'.get k = H.get k) → vw H G p q → vw H' G p q
  | .sref id l0 off len, q, h, hq => by
    have := h id (by simp [PV.keys])
    cases q <;> simp only [vw] at hq ⊢ <;> first | exact hq | (rw [this]; exact hq)
  | .ptr id l0 i off, q, h, hq => by cases q <;> simp only [vw] at hq ⊢ <;> exact hq
  | .agg fs, q, h, hq => by
    cases q with
    | agg gs => simp only [vw] at hq ⊢; exact vws_same (by simpa only [PV.keys] using h) hq
    | _ => simp only [vw] at hq
  | .tup fs, q, h, hq => by
    cases q with
    | tup gs => simp only [vw] at hq ⊢; exact vws_same (by simpa only [PV.keys] using h) hq
    | _ => simp only [vw] at hq
  | .any, q, _, hq => by cases q <;> simp only [vw] at hq ⊢
  | .int _ _, q, _, hq => by cases q <;> simp only [vw] at hq ⊢ <;> exact hq
  | .bool _, q, _, hq => by cases q <;> simp only [vw] at hq ⊢ <;> exact hq
  | .str _, q, _, hq => by cases q <;> simp only [vw] at hq ⊢ <;> exact hq
  | .snap _ _, q, _, hq => by cases q <;> simp only [vw] at hq ⊢ <;> exact hq
  | .sp _ _, q, _, hq => by cases q <;> simp only [vw] at hq ⊢ <;> exact hq
  | .nilp, q, _, hq => by cases q <;> simp only [vw] at hq ⊢
  | .nils, q, _, hq => by cases q <;> simp only [vw] at hq ⊢ <;> exact hq
theorem vws_same {H H' G : Heap} : ∀ {ps qs : List PV}, (∀ k ∈ keysL ps, H'.get k = H.get k) → vws H G ps qs → vws H' G ps qs
  | [], qs, _, hq => by cases qs <;> simp only [vws] at hq ⊢
  | p :: ps, [], _, hq => by simp only [vws] at hq
  | p :: ps, q :: qs, h, hq => by
    simp only [vws] at hq ⊢
    exact ⟨vw_same (fun k hk => h k (by simp [keysL, hk])) hq.1, vws_same (fun k hk => h k (by simp [keysL, hk])) hq.2⟩
end

section
variable {B : Base} {d : Option Nat} {ty : TypeId} {ps : String} {af : Array Edge} {g : Option (Nat × Bool)} {env : Env} {H : Heap}

theorem od_lend {f : FuncId} {xs : List Operand} {ts : Array TypeId} {vals args : List PV} {p : PV} (hc : PSpec B f args [] fun r H => r = p ∧ H = []) (ha : xs.map env.ev = vals) (hn : vals.all notTup = true) (hv : vws H [] vals args) (hp : p.noref = true) :
    OpD B ⟨d, .call { callee := .value (.func f), args := xs.toArray, argTypes := ts }, ty, ps, af, g⟩ env (keysL vals) H p [] := by
  intro env' H' he hr
  have ha' : xs.map env'.ev = vals := by
    rw [← ha]
    apply List.map_congr_left
    intro x hx
    exact he x (by simp [Op.operands, Call.operands, hx])
  intro s a N ho hH hE
  unfold Yields
  rw [run_call hc.ent]
  have hvals := VRs_of hE xs (fun x hx qs e => by
    rw [List.all_eq_true] at hn
    have := hn (env'.ev x) (by rw [← ha']; exact List.mem_map_of_mem hx)
    rw [e] at this
    simp [notTup] at this)
  rw [ha'] at hvals
  have hview : vws s.H [] vals args := vws_same (fun k hk => by rw [hH k, hr k hk]) hv
  have hsub : ∀ id b, Heap.get [] id = some b → s.H.get id = some b := fun id b hb => by simp [Heap.get] at hb
  have hseen := St.shut_seen (s := s) (G := []) hsub
  have hok := St.shut_ok (s := s) (G := []) ho trivial
  have hcall := hc.run (s.shut []) (xs.map a.eval) hok (fun _ => rfl) (vws_VRs ho hseen hvals hview)
  simp only [List.map_toArray]
  refine hcall.mono fun e w' ⟨v, t, r, H1, h1, h2, h3, h4, h5, h6, h7, h8⟩ => ?_
  subst h7
  subst h2
  have hg : Grown s.w t.w := ⟨h4.os, h4.tape, h4.output, h4.size, fun b hb => h4.frame b hb (by rintro ⟨id, bk, c, q1, _⟩; simp [St.shut, Heap.get] at q1)⟩
  exact ⟨v, h1, s.gr t.w, r, H', rfl, St.gr_ok hg ho, St.gr_ext hg, VR_noref hp h5, hH, rfl, rfl⟩

variable {F : Frm} {all : Array Oper} {rest : List Oper} {k : List It}
theorem prun_lend {f : FuncId} {xs : List Operand} {ts : Array TypeId} {vals args : List PV} {p : PV} (hc : PSpec F.B f args [] fun r H => r = p ∧ H = []) (ha : xs.map env.ev = vals) (hn : vals.all notTup = true) (hv : vws H [] vals args) (hp : p.noref = true)
    (hg : guardK F.N all env g = some true) (hd : dstB F.N d = true) (h : Prun F (.ops all rest :: k) (env.put d p) H) :
    Prun F (.ops all (⟨d, .call { callee := .value (.func f), args := xs.toArray, argTypes := ts }, ty, ps, af, g⟩ :: rest) :: k) env H :=
  prun_d (od_lend hc ha hn hv hp) hg hd (fun _ => rfl) h
theorem plex_lend {acc : List (List Nat × List Nat)} {f : FuncId} {xs : List Operand} {ts : Array TypeId} {vals args : List PV} {p : PV} (hc : PSpec F.B f args [] fun r H => r = p ∧ H = []) (ha : xs.map env.ev = vals) (hn : vals.all notTup = true) (hv : vws H [] vals args) (hp : p.noref = true)
    (hg : guardK F.N all env g = some true) (hd : dstB F.N d = true) (h : Plex F all k rest ((keysL vals, []) :: acc) (env.put d p) H) :
    Plex F all k (⟨d, .call { callee := .value (.func f), args := xs.toArray, argTypes := ts }, ty, ps, af, g⟩ :: rest) acc env H :=
  plex_d (od_lend hc ha hn hv hp) hg hd (fun _ => rfl) h

/-- A call, whatever it gives back. -/
theorem prun_cx {f : FuncId} {xs : List Operand} {ts : Array TypeId} {args : List PV} {G : Heap} {post : PV → Heap → Prop} (hc : PSpec F.B f args G post) (ha : xs.map env.ev = args) (hn : args.all notTup = true) (hG : heapSub G G H) (hr : refsInl G args = true)
    (hfr : ∀ r H', post r H' → freshIn G H H') (hg : guardK F.N all env g = some true) (hd : dstB F.N d = true) (h : ∀ r H1, post r H1 → Prun F (.ops all rest :: k) (env.put d r) (H1 ++ H)) :
    Prun F (.ops all (⟨d, .call { callee := .value (.func f), args := xs.toArray, argTypes := ts }, ty, ps, af, g⟩ :: rest) :: k) env H :=
  prun_gd hg hd (ow_call (hc.frame hG hr hfr) ha hn) fun p H' ⟨H1, h1, h2⟩ => by subst h2; exact h p H1 h1

def updAll : Heap → Heap → Heap
  | [], H => H
  | (i, b) :: G, H => (match H.get i with | some _ => updK (updAll G H) i b | none => (i, b) :: updAll G H)

/-- A call that writes the blocks that it is told of, or makes new ones: all told exactly. -/
theorem prun_cw {f : FuncId} {xs : List Operand} {ts : Array TypeId} {args : List PV} {G G' H2 : Heap} {p : PV} (hc : PSpec F.B f args G fun r H => r = p ∧ H = G') (ha : xs.map env.ev = args) (hn : args.all notTup = true) (hG : heapSub G G H) (hr : refsInl G args = true)
    (hfr : freshIn G H G') (hg : guardK F.N all env g = some true) (hd : dstB F.N d = true) (hH : ∀ i, Heap.get H2 i = Heap.get (G' ++ H) i) (h : Prun F (.ops all rest :: k) (env.put d p) H2) :
    Prun F (.ops all (⟨d, .call { callee := .value (.func f), args := xs.toArray, argTypes := ts }, ty, ps, af, g⟩ :: rest) :: k) env H :=
  prun_cx hc ha hn hG hr (fun r H' e => by rw [e.2]; exact hfr) hg hd fun r H1 e => by obtain ⟨rfl, rfl⟩ := e; exact prun_has hH h
end

/-! ### freezing -/
def St.dead (s : St) (id : Nat) (blk : Blk) : St :=
  { w := s.w, μ := s.μ, S := fun b => s.S b ∨ ∃ c, s.μ id = some (b, c) ∧ 0 < c, H := (id, { blk with live := false }) :: s.H }

section
variable {B : Base} {s : St} {id : Nat} {blk : Blk}
theorem St.dead_ext (hb : s.H.get id = some blk) (ho : s.ok B) : Ext s (s.dead id blk) where
  os := rfl
  tape := rfl
  output := rfl
  size := Nat.le_refl _
  frame _ _ _ := rfl
  stab _ h := .inl h
  prov b h := by
    rcases h with h | ⟨c, h1, h2⟩
    · exact .inl h
    · by_cases hl : blk.live = true
      · exact .inr (.inr ⟨id, blk, c, hb, hl, h1, h2⟩)
      · obtain ⟨b', c', k1, _, k3⟩ := ho.blk id blk hb
        rw [h1] at k1
        obtain ⟨rfl, rfl⟩ : b = b' ∧ c = c' := by simpa using k1
        exact .inl ((k3 h2).2.2.2 (by simpa using hl))
  live b _ := by
    rintro ⟨k, bk, c, h1, h2, h3, h4⟩
    simp only [St.dead, Heap.get_cons] at h1
    split at h1
    · obtain rfl : _ = bk := by simpa using h1
      cases h2
    · exact ⟨k, bk, c, h1, h2, h3, h4⟩
  ids k bk hk := by
    by_cases e : id = k
    · subst e
      rw [hb] at hk
      obtain rfl : blk = bk := by simpa using hk
      exact ⟨{ blk with live := false }, by simp [St.dead, Heap.get_cons], rfl, Nat.le_refl _, fun _ => rfl⟩
    · exact ⟨bk, by simp only [St.dead, Heap.get_cons]; rw [if_neg e]; exact hk, rfl, Nat.le_refl _, fun _ => rfl⟩

theorem St.dead_ok (hb : s.H.get id = some blk) (hd : blk.data = true) (ho : s.ok B) : (s.dead id blk).ok B := by
  have hx := St.dead_ext hb ho
  refine ⟨fun b h => ?_, fun k bk hk => ?_, fun k k' bk bk' b c c' h1 h2 hl hl' m1 m2 hc hc' => ?_, fun b h => ⟨.inl (ho.glob b h).1, (ho.glob b h).2⟩⟩
  · rcases h with h | ⟨c, h1, h2⟩
    · exact ho.lt b h
    · exact St.blk_lt ho hb h1 h2
  · simp only [St.dead, Heap.get_cons] at hk
    split at hk
    · rename_i e
      subst e
      obtain rfl : _ = bk := by simpa using hk
      obtain ⟨b, c, k1, k2, k3⟩ := ho.blk id blk hb
      refine ⟨b, c, k1, k2, fun hc => ?_⟩
      obtain ⟨⟨cells, ty, fr, q1, q2, q3⟩, k5, k6, k7⟩ := k3 hc
      refine ⟨⟨cells, ty, fr, q1, q2, fun h => (by cases h), q3.2⟩, fun i x hi => ?_, fun h => (by cases h), fun _ => Or.inr ⟨c, k1, hc⟩⟩
      obtain ⟨ecs, m1, m2, m3⟩ := k5 i x hi
      refine ⟨ecs, m1, ?_, m3⟩
      have hd2 : ({ blk with live := false } : Blk).data = true := hd
      rw [hd2]
      rw [hd] at m2
      exact CR_mono (w' := s.w) (fun b h => Or.inl h) (fun _ _ => rfl) _ _ _ _ (fun _ _ h => h) m2
    · rename_i e
      refine (ho.blk k bk hk).keep hx ho rfl (fun _ _ _ _ => rfl) (fun b c h1 h2 hl hS => ?_)
      obtain ⟨b', c', k1, _, k3⟩ := ho.blk k bk hk
      rw [h1] at k1
      obtain ⟨rfl, rfl⟩ : b = b' ∧ c = c' := by simpa using k1
      rcases hS with hS | ⟨c2, g1, g2⟩
      · exact (k3 h2).2.2.1 hl hS
      · by_cases hlb : blk.live = true
        · exact e (ho.inj id k blk bk b c2 c hb hk hlb hl g1 h1 g2 h2)
        · obtain ⟨b2, c3, r1, _, r3⟩ := ho.blk id blk hb
          rw [g1] at r1
          obtain ⟨rfl, rfl⟩ : b = b2 ∧ c2 = c3 := by simpa using r1
          exact (k3 h2).2.2.1 hl ((r3 g2).2.2.2 (by simpa using hlb))
  · simp only [St.dead, Heap.get_cons] at h1 h2
    split at h1
    · obtain rfl : _ = bk := by simpa using h1
      cases hl
    · split at h2
      · obtain rfl : _ = bk' := by simpa using h2
        cases hl'
      · exact ho.inj k k' bk bk' b c c' h1 h2 hl hl' m1 m2 hc hc'

/-- A reference to a block that nobody writes any more is data. -/
theorem dead_snap {l0 off len : Nat} {v : Value} (hb : s.H.get id = some blk) (hlv : blk.live = false) (hd : blk.data = true) (hl : blk.elems.length = l0) (hle : off + len ≤ l0) (ho : s.ok B) (hv : VR s (.sref id l0 off len) v) :
    VR s (.snap blk.z ((blk.elems.drop off).take len)) v := by
  obtain ⟨h0, bk, h1, h2, h3⟩ := VR_sref.1 hv
  rw [hb] at h1
  obtain rfl : blk = bk := by simpa using h1
  obtain ⟨b, c, a, cap, m1, m2, m3, m4, m5, m6⟩ := h3 hl
  have hlen : ((blk.elems.drop off).take len).length = len := by simp; omega
  simp only [VR, VR1, CR]
  refine ⟨a, cap, by rw [hlen, m2], by rw [hlen]; exact m4, ?_⟩
  by_cases hl0 : len = 0
  · left; exact List.length_eq_zero_iff.1 (by rw [hlen, hl0])
  · right
    have hcap : cap ≠ 0 := by omega
    have ha : a = some ⟨b, off * blk.z, none⟩ := m6.resolve_left hcap
    have hcc : 0 < c := by omega
    obtain ⟨b', c', n1, n2, n3⟩ := ho.blk id blk hb
    rw [m1] at n1
    obtain ⟨rfl, rfl⟩ : b = b' ∧ c = c' := by simpa using n1
    obtain ⟨_, n5, _, n7⟩ := n3 hcc
    refine ⟨b, off * blk.z, ha, n7 hlv, CRrow_of fun i x hi => ?_⟩
    rw [List.getElem?_take] at hi
    split at hi
    · rw [List.getElem?_drop] at hi
      obtain ⟨ecs, r1, r2, r3⟩ := n5 (off + i) x hi
      refine ⟨ecs, r1, by simpa [St.R, hd] using r2, fun j u hj => ?_⟩
      have := r3 j u hj
      rwa [Nat.add_mul] at this
    · cases hi
end

section
variable {F : Frm} {k : List It} {env : Env} {H : Heap}
/-- From here on nobody writes this slice. -/
theorem prun_freeze (t : Nat) {id l0 off len z : Nat} {lv : Bool} {es : List PV} (ht : env.get t = .sref id l0 off len) (hb : H.get id = some ⟨z, lv, true, es⟩) (hl : es.length = l0) (hle : off + len ≤ l0)
    (h : Prun F k ((t, .snap z ((es.drop off).take len)) :: env) (updK H id ⟨z, false, true, es⟩)) : Prun F k env H := by
  intro s a hr
  have hb' : s.H.get id = some ⟨z, lv, true, es⟩ := by rw [hr.has id, hb]
  have hx := St.dead_ext hb' hr.ok
  have hok := St.dead_ok hb' rfl hr.ok
  refine h (s.dead id ⟨z, lv, true, es⟩) a ⟨hok, fun i => ?_, hr.ext.trans hx, hr.dfr, ⟨hr.env.size, fun u => ?_⟩, hr.s0h⟩
  · rw [updK_get H id _ _ hb i]
    simp only [St.dead, Heap.get_cons]
    rw [hr.has i]
  · have hv := VR_ext hx hr.ok _ _ (hr.env.get u)
    simp only [Env.get]
    split
    · rename_i e
      subst e
      rw [ht] at hv
      exact dead_snap (blk := ⟨z, false, true, es⟩) (by simp [St.dead, Heap.get_cons]) rfl rfl hl hle hok hv
    · exact hv
/-- The whole of one's own slice, frozen. -/
theorem prun_frz (t : Nat) {id n z : Nat} {lv : Bool} {es : List PV} (ht : env.get t = .sref id n 0 n) (hb : H.get id = some ⟨z, lv, true, es⟩) (hl : es.length = n) (h : Prun F k ((t, .snap z es) :: env) (updK H id ⟨z, false, true, es⟩)) : Prun F k env H :=
  prun_freeze t ht hb hl (by omega) (by rw [List.drop_zero, List.take_of_length_le (by omega)]; exact h)
end
end Go.PM
/- strings.Split and strings.SplitN at one byte, as the kit's shelf has them, in the reading's words. -/
namespace Go.PM
open Go.RowKit Go.Lib

/-- A text cut at a byte, so many times at the most. -/
def cutN (c : UInt8) : Nat → Str → List Str
  | 0, s => [s]
  | _ + 1, [] => [[]]
  | k + 1, x :: s => if x = c then [] :: cutN c k s else match cutN c (k + 1) s with
    | w :: ws => (x :: w) :: ws
    | [] => [[x]]

theorem cutN_ne (c : UInt8) (k : Nat) (s : Str) : cutN c k s ≠ [] := by
  cases k with
  | zero => simp [cutN]
  | succ k =>
    cases s with
    | nil => simp [cutN]
    | cons x s => simp only [cutN]; split <;> (try split) <;> simp

theorem index_self (c : UInt8) (l : Str) : index (c :: l) [c] = ((0 : Nat) : Int) := by rw [index]; simp [List.isPrefixOf]
theorem index_other {b c : UInt8} (l : Str) (h : b ≠ c) : index (b :: l) [c] = if index l [c] == -1 then -1 else index l [c] + 1 := by
  have hp : ([c] : List UInt8).isPrefixOf (b :: l) = false := by simp [List.isPrefixOf, Ne.symm h]
  rw [index, hp]; simp

theorem splitK_cut (c : UInt8) : ∀ (k : Nat) (s : Str), splitK [c] 0 k s = cutN c k s
  | 0, s => by simp [splitK, cutN]
  | k + 1, [] => by
    have : index ([] : Str) [c] = -1 := by simp [index]
    simp [splitK, cutN, this]
  | k + 1, x :: s => by
    by_cases h : x = c
    · subst h
      rw [splitK, index_self]
      simp only [cutN, if_true]
      rw [if_neg (by simp)]
      simp [splitK_cut x k s]
    · have ih := splitK_cut c (k + 1) s
      rw [splitK, index_other s h]
      simp only [cutN, if_neg h]
      rw [← ih, splitK]
      by_cases hm : index s [c] = -1
      · simp [hm]
      · have hge := index_ge s [c]
        have hne : ¬ (index s [c] == -1) = true := by simpa using hm
        rw [if_neg hne, if_neg (by simp only [beq_iff_eq]; omega), if_neg hne]
        obtain ⟨j, hj⟩ : ∃ j : Nat, index s [c] = j := ⟨(index s [c]).toNat, by omega⟩
        rw [hj]
        have e1 : ((j : Int) + 1).toNat = j + 1 := by omega
        simp [e1]

theorem cutN_all (c : UInt8) : ∀ (s : Str) (k : Nat), s.count c ≤ k → cutN c k s = splitAt c s
  | [], k, _ => by cases k <;> simp [cutN, splitAt]
  | x :: s, k, h => by
    by_cases hx : x = c
    · subst hx
      rw [List.count_cons_self] at h
      cases k with
      | zero => omega
      | succ k => simp only [cutN, splitAt, if_true]; rw [cutN_all x s k (by omega)]
    · rw [List.count_cons_of_ne (by simpa using hx)] at h
      have ih := cutN_all c s k h
      cases k with
      | zero =>
        simp only [cutN] at ih ⊢
        simp only [splitAt, if_neg hx, ← ih]
      | succ k =>
        simp only [cutN, splitAt, if_neg hx, ih]
        cases splitAt c s <;> rfl

theorem split_one (c : UInt8) (s : Str) : (splitB ⟨#[c]⟩ 0 (countB ⟨s.toArray⟩ ⟨#[c]⟩) ⟨s.toArray⟩).map (fun b => b.data.toList) = splitAt c s := by
  rw [splitB_data]
  show splitK [c] 0 (countB ⟨s.toArray⟩ ⟨#[c]⟩) s = _
  rw [splitK_cut, cutN_all]
  show s.count c ≤ count s [c]
  rw [count_one]; exact Nat.le_refl _

/-- A function that hands back a new row of strings, its contract in the reading's words. -/
theorem pspec_of_strs {B : Base} {f : FuncId} {args : List PV} {xs : List Str} (hent : Enters B.P f)
    (h : ∀ (s : St) (cargs : List Value), s.ok B → VRs s args cargs → Calls B.P f cargs.toArray s.w fun e w' => ∃ (cells : Array Value) (t : TypeId) (cap : Nat), e = .returned (.slice (some ⟨s.w.heap.size, 0, none⟩) xs.length cap) ∧ w' = s.w.alloc (.cells cells t) ∧ xs.length ≤ cap ∧
      ∀ (i : Nat) (x : Str), xs[i]? = some x → cells[i]? = some (.string ⟨x.toArray⟩)) :
    PSpec B f args [] fun r H => r = .snap 1 (strsP xs) ∧ H = [] := by
  refine ⟨hent, fun s cargs ho hH hv => (h s cargs ho hv).mono fun _ _ ⟨cells, t, cap, h1, h2, h3, h4⟩ => ?_⟩
  let s' : St := { s with w := s.w.alloc (.cells cells t), S := fun b => s.S b ∨ b = s.w.heap.size }
  have hold : ∀ b, b < s.w.heap.size → s'.w.heap[b]? = s.w.heap[b]? := fun b hb => heap_alloc_lt _ _ hb
  have hnew : s'.w.heap[s.w.heap.size]? = some (.cells cells t (0, 0)) := by show (s.w.heap.push _)[s.w.heap.size]? = _; simp
  have hx : Ext s s' := ⟨rfl, rfl, rfl, by show s.w.heap.size ≤ (s.w.heap.push _).size; simp, fun b hb _ => hold b hb, fun _ h => .inl h, fun b h => h.imp id fun e => .inl (by omega), fun _ _ h => h, fun _ blk h => ⟨blk, h, rfl, Nat.le_refl _, fun _ => rfl⟩⟩
  have hok : s'.ok B := by
    refine ⟨fun b hb => ?_, fun id blk hk => ?_, ho.inj, fun b hb => ⟨.inl (ho.glob b hb).1, (hold b (ho.lt b (ho.glob b hb).1)).trans (ho.glob b hb).2⟩⟩
    · rcases hb with hb | rfl
      · exact Nat.lt_of_lt_of_le (ho.lt b hb) hx.size
      · show s.w.heap.size < (s.w.heap.push _).size; simp
    · refine (ho.blk id blk hk).keep hx ho rfl (fun b c k1 k2 => hold b (St.blk_lt ho hk k1 k2)) (fun b c k1 k2 hl hS => ?_)
      obtain ⟨b', c', m1, _, m3⟩ := ho.blk id blk hk
      rw [k1] at m1
      obtain ⟨rfl, rfl⟩ : b = b' ∧ c = c' := by simpa using m1
      rcases hS with hS | rfl
      · exact (m3 k2).2.2.1 hl hS
      · have := St.blk_lt ho hk k1 k2
        omega
  refine ⟨_, s', .snap 1 (strsP xs), [], h1, h2.symm, hok, hx, ?_, fun i => hH i, rfl, rfl⟩
  have hl : (strsP xs).length = xs.length := by simp [strsP]
  simp only [VR, VR1, CR]
  refine ⟨_, cap, by rw [hl], by rw [hl]; exact h3, .inr ⟨s.w.heap.size, 0, rfl, .inr rfl, CRrow_of fun i x hi => ?_⟩⟩
  simp only [strsP, List.getElem?_map, Option.map_eq_some_iff] at hi
  obtain ⟨y, hy, rfl⟩ := hi
  refine ⟨[.string ⟨y.toArray⟩], rfl, by simp [CR], fun j c hj => ?_⟩
  cases j with
  | zero =>
    obtain rfl : Value.string ⟨y.toArray⟩ = c := by simpa using hj
    have := h4 i y hy
    simp only [Nat.mul_one, Nat.zero_add, Nat.add_zero, World.cell?, hnew]
    exact this
  | succ j => simp at hj
end Go.PM

namespace Go.PMS
open Go Go.PM Go.Proofs Go.RowKit
variable {W : World} {gs : Nat}
set_option maxRecDepth 20000

theorem Split_spec (c : UInt8) (s : Str) (hs : s.length < 4294967281) (hm : ∀ t : St, t.ok (bs W gs) → ∃ m, t.w.cell? ⟨0, 0, none⟩ = some (.int .i64 m)) :
    PSpec (bs W gs) n_strings_Split [.str s, .str [c]] [] (fun r H => r = .snap 1 (strsP (splitAt c s)) ∧ H = []) := by
  refine pspec_of_strs ⟨b_strings_Split, rfl, rfl, rfl⟩ fun t cargs ho hv => ?_
  obtain ⟨u, r, rfl, h2, v, r', rfl, h3, rfl⟩ := hv
  obtain rfl : u = .string ⟨s.toArray⟩ := VR_str.1 (VR_of1 h2)
  obtain rfl : v = .string ⟨#[c]⟩ := VR_str.1 (VR_of1 h3)
  obtain ⟨m, hm⟩ := hm t ho
  have hone := Lib.splitB_all ⟨#[c]⟩ (Nat.le_refl 1) 0 _ ⟨s.toArray⟩ rfl
  have hsp := split_one c s
  have hlen : (splitAt c s).length = Lib.countB ⟨s.toArray⟩ ⟨#[c]⟩ + 1 := by rw [← hsp, List.length_map, hone]
  refine (sh_strings_Split ⟨s.toArray⟩ ⟨#[c]⟩ m t.w (by simpa [ByteArray.size] using hs) hm (Nat.le_refl 1)).mono fun e w' ⟨e1, e2⟩ => ⟨_, _, _, by rw [hlen]; exact e1, e2, by omega, fun i x hi => ?_⟩
  rw [← hsp, List.getElem?_map, Option.map_eq_some_iff] at hi
  obtain ⟨b, hb, rfl⟩ := hi
  simp [hb]

theorem SplitN_spec (c : UInt8) (s : Str) (n : Nat) (h1 : 1 ≤ n) (h2 : n ≤ 100) (hs : s.length < 4294967281) (hm : ∀ t : St, t.ok (bs W gs) → ∃ m, t.w.cell? ⟨0, 0, none⟩ = some (.int .i64 m)) :
    PSpec (bs W gs) n_strings_SplitN [.str s, .str [c], .int .i64 (n : Nat)] [] (fun r H => r = .snap 1 (strsP (cutN c (min n (s.length + 1) - 1) s)) ∧ H = []) := by
  refine pspec_of_strs ⟨b_strings_SplitN, rfl, rfl, rfl⟩ fun t cargs ho hv => ?_
  obtain ⟨u, r, rfl, k2, v, r', rfl, k3, x, r2, rfl, k4, rfl⟩ := hv
  obtain rfl : u = .string ⟨s.toArray⟩ := VR_str.1 (VR_of1 k2)
  obtain rfl : v = .string ⟨#[c]⟩ := VR_str.1 (VR_of1 k3)
  obtain rfl : x = .int .i64 (n : Nat) := VR_int.1 (VR_of1 k4)
  obtain ⟨m, hm⟩ := hm t ho
  have hsz : (⟨s.toArray⟩ : ByteArray).size = s.length := by simp [ByteArray.size]
  have hsp : (Lib.splitB ⟨#[c]⟩ 0 (min n (s.length + 1) - 1) ⟨s.toArray⟩).map (fun b => b.data.toList) = cutN c (min n (s.length + 1) - 1) s := by
    rw [Lib.splitB_data]
    exact splitK_cut c _ s
  have hle := Lib.splitB_length_le ⟨#[c]⟩ 0 (min n (s.length + 1) - 1) ⟨s.toArray⟩
  have hlen : (cutN c (min n (s.length + 1) - 1) s).length = (Lib.splitB ⟨#[c]⟩ 0 (min n (s.length + 1) - 1) ⟨s.toArray⟩).length := by rw [← hsp, List.length_map]
  refine (sh_strings_SplitN ⟨s.toArray⟩ ⟨#[c]⟩ n m t.w (by simpa [ByteArray.size] using hs) hm (Nat.le_refl 1) h1 (by omega)).mono fun e w' ⟨e1, e2⟩ => ?_
  rw [hsz] at e1 e2
  refine ⟨_, _, _, by rw [hlen]; exact e1, e2, by omega, fun i x hi => ?_⟩
  rw [← hsp, List.getElem?_map, Option.map_eq_some_iff] at hi
  obtain ⟨b, hb, rfl⟩ := hi
  have hlt := (List.getElem?_eq_some_iff.1 hb).1
  simp only [Lib.cellsOf, List.getElem?_toArray]
  rw [List.getElem?_append_left (by simpa using hlt), List.getElem?_map, hb]
  simp
end Go.PMS
/- The operations that strings.Builder is made of. -/
namespace Go.PM
open Go.RowKit

theorem Ty.ptr {P : Program} {t : TypeId} {e : TyE} (h : Ty P t e) {x : Nat} (hk : e.kind = .ptr x) : P.underlying t = some (.pointer x) := by
  obtain ⟨i, d, z, _, hu, _, _, hkk, _⟩ := h.ok
  rw [hk] at hkk
  cases d <;> simp [kindOk] at hkk
  subst hkk; exact hu

section ops
variable {B : Base} {d : Option Nat} {ty : TypeId} {ps : String} {af : Array Edge} {g : Option (Nat × Bool)} {env : Env} {H : Heap}

theorem od_eql_nilp {t t' : TypeId} {x y : Operand} {q : Nat} {e : TyE} (hT : B.good) (ht : B.T[t]? = some (some e)) (hk : e.kind = .ptr q) (hx : env.ev x = .nilp) (hy : env.ev y = .nilp) :
    OpD B ⟨d, .binOp .eql t x y t', ty, ps, af, g⟩ env [] H (.bool true) [] :=
  opd_pure fun s a _ h => by
    have h1 := h x (by simp [Op.operands])
    have h2 := h y (by simp [Op.operands])
    rw [hx] at h1
    rw [hy] at h2
    have hu := (hT.ty ht).ptr hk
    have e1 : a.eval x = .pointer none := by simpa [VR, VR1, CR, RR] using h1
    have e2 : a.eval y = .pointer none := by simpa [VR, VR1, CR, RR] using h2
    have hq : ∀ d : Nat, (Op.equalIn (d + 1) t (.pointer none) (.pointer none)).run B.P s.w = .ok true s.w := fun d => by simp [Op.equalIn, run_underlying hu]
    exact ⟨.bool true, by simp [execOp, e1, e2, eqGuard_at_pointer, binOp, Op.equal, Op.maxDepth, hq 9999], VR_bool.2 rfl⟩

theorem od_eql_ptr_nil {t t' : TypeId} {x y : Operand} {q id l0 i off : Nat} {blk : Blk} {e : TyE} (hT : B.good) (ht : B.T[t]? = some (some e)) (hk : e.kind = .ptr q) (hx : env.ev x = .ptr id l0 i off) (hy : env.ev y = .nilp) (hb : H.get id = some blk) (hl : blk.elems.length = l0) :
    OpD B ⟨d, .binOp .eql t x y t', ty, ps, af, g⟩ env [id] H (.bool false) [] := by
  intro env' H' he hr
  refine opw_quiet fun s a N ho hH hE => ?_
  have h1 := hE.ev x
  have h2 := hE.ev y
  rw [he x (by simp [Op.operands]), hx] at h1
  rw [he y (by simp [Op.operands]), hy] at h2
  obtain ⟨_, blk', k1, _, k3⟩ := VR_ptr.1 h1
  rw [hH, hr id (by simp), hb] at k1
  obtain rfl : blk = blk' := by simpa using k1
  obtain ⟨b, c, _, _, k6, _⟩ := k3 hl
  have hu := (hT.ty ht).ptr hk
  have e2 : a.eval y = .pointer none := by simpa [VR, VR1, CR, RR] using h2
  have hq : ∀ (d : Nat) (u : Addr), (Op.equalIn (d + 1) t (.pointer (some u)) (.pointer none)).run B.P s.w = .ok false s.w := fun d u => by simp [Op.equalIn, run_underlying hu]
  exact ⟨.bool false, by simp [execOp, k6, e2, eqGuard_at_pointer, binOp, Op.equal, Op.maxDepth, hq 9999], VR_bool.2 rfl⟩

theorem od_neq_ptr_same {t t' : TypeId} {x y : Operand} {q id l0 i off : Nat} {blk : Blk} {e ee : TyE} (hT : B.good) (ht : B.T[t]? = some (some e)) (hk : e.kind = .ptr q) (hq : B.T[q]? = some (some ee)) (hx : env.ev x = .ptr id l0 i off) (hy : env.ev y = .ptr id l0 i off) (hb : H.get id = some blk) (hl : blk.elems.length = l0) :
    OpD B ⟨d, .binOp .neq t x y t', ty, ps, af, g⟩ env [id] H (.bool false) [] := by
  intro env' H' he hr
  refine opw_quiet fun s a N ho hH hE => ?_
  have h1 := hE.ev x
  have h2 := hE.ev y
  rw [he x (by simp [Op.operands]), hx] at h1
  rw [he y (by simp [Op.operands]), hy] at h2
  obtain ⟨_, blk', k1, _, k3⟩ := VR_ptr.1 h1
  rw [hH, hr id (by simp), hb] at k1
  obtain rfl : blk = blk' := by simpa using k1
  obtain ⟨b, c, k4, _, k6, _⟩ := k3 hl
  obtain ⟨_, blk', m1, _, m3⟩ := VR_ptr.1 h2
  rw [hH, hr id (by simp), hb] at m1
  obtain rfl : blk = blk' := by simpa using m1
  obtain ⟨b', c', m4, _, m6, _⟩ := m3 hl
  rw [k4] at m4
  obtain ⟨rfl, rfl⟩ : b = b' ∧ c = c' := by simpa using m4
  obtain ⟨ii, _, _, hi, _⟩ := (hT.ty hq).ok
  refine ⟨.bool false, ?_, VR_bool.2 rfl⟩
  have := Lib.run_neq_ptr_same (P := B.P) s.w (tp := t) ⟨b, i * blk.z + off, none⟩ ((hT.ty ht).ptr hk) hi
  simp only [execOp, k6, m6, eqGuard_at_pointer, Sem.run_bind, Sem.run_pure, Result.andThen_ok, this]

/-- To unsafe.Pointer, where a block of its type lies: the pointer as it is. -/
theorem od_to_unsafe {t t' : TypeId} {x : Operand} {q : Nat} {blk : Blk} {e ee : TyE} (hT : B.good) (ht : B.T[t]? = some (some e)) (hk : e.kind = .ptr q) (hq : B.T[q]? = some (some ee)) (hz : ee.size ≠ 0) (hu' : B.P.underlying t' = some .unsafePointer)
    (hx : env.ev x = .ptr (tk q) 1 0 0) (hb : H.get (tk q) = some blk) (hl : blk.elems.length = 1) (hbz : blk.z = ee.size) :
    OpD B ⟨d, .convert t t' x, ty, ps, af, g⟩ env [tk q] H (.ptr (tk q) 1 0 0) [] := by
  intro env' H' he hr
  refine opw_quiet fun s a N ho hH hE => ?_
  have h1 := hE.ev x
  rw [he x (by simp [Op.operands]), hx] at h1
  obtain ⟨_, blk', k1, _, k3⟩ := VR_ptr.1 h1
  have hb2 := k1
  rw [hH, hr (tk q) (by simp), hb] at k1
  obtain rfl : blk = blk' := by simpa using k1
  obtain ⟨b, c, k4, k5, k6, _⟩ := k3 hl
  obtain ⟨b', c', m1, _, m3⟩ := ho.blk _ _ hb2
  rw [k4] at m1
  obtain ⟨rfl, rfl⟩ : b = b' ∧ c = c' := by simpa using m1
  obtain ⟨⟨cells, cty, fr, q1, q2, _, q4⟩, _⟩ := m3 k5
  obtain ⟨ii, _, _, hi, _, hs, _⟩ := (hT.ty hq).ok
  have hsh : s.w.shape? b = some (cty, cells.size) := by simp [World.shape?, q1]
  have hlt : 0 < cells.size := by rw [q2, hbz]; exact Nat.mul_pos k5 (by omega)
  refine ⟨_, ?_, h1⟩
  have := Lib.run_to_unsafe (P := B.P) s.w (src := t) (dst := t') ⟨b, 0, none⟩ ((hT.ty ht).ptr hk) hu' hi (by rw [hs]; exact hz) hsh hlt
  simp only [Nat.zero_mul, Nat.zero_add] at k6
  simp only [execOp, k6, Sem.run_bind, this, Result.andThen_ok, Sem.run_pure]

theorem od_from_unsafe {t t' : TypeId} {x : Operand} {q : Nat} {blk : Blk} {e ee : TyE} (hT : B.good) (ht : B.T[t']? = some (some e)) (hk : e.kind = .ptr q) (hq : B.T[q]? = some (some ee)) (hu' : B.P.underlying t = some .unsafePointer)
    (hx : env.ev x = .ptr (tk q) 1 0 0) (hb : H.get (tk q) = some blk) (hl : blk.elems.length = 1) (hlies : ∀ c, 0 < c → liesAt B.P B.P.depth q (c * blk.z / B.P.cellsOf q) 0 q 1 = true) :
    OpD B ⟨d, .convert t t' x, ty, ps, af, g⟩ env [tk q] H (.ptr (tk q) 1 0 0) [] := by
  intro env' H' he hr
  refine opw_quiet fun s a N ho hH hE => ?_
  have h1 := hE.ev x
  rw [he x (by simp [Op.operands]), hx] at h1
  obtain ⟨_, blk', k1, _, k3⟩ := VR_ptr.1 h1
  have hb2 := k1
  rw [hH, hr (tk q) (by simp), hb] at k1
  obtain rfl : blk = blk' := by simpa using k1
  obtain ⟨b, c, k4, k5, k6, _⟩ := k3 hl
  obtain ⟨b', c', m1, _, m3⟩ := ho.blk _ _ hb2
  rw [k4] at m1
  obtain ⟨rfl, rfl⟩ : b = b' ∧ c = c' := by simpa using m1
  obtain ⟨⟨cells, cty, fr, q1, q2, _, q4⟩, _⟩ := m3 k5
  obtain rfl : cty = q := q4 q rfl
  obtain ⟨ii, _, _, hi, _, hs, _⟩ := (hT.ty hq).ok
  have hsh : s.w.shape? b = some (cty, cells.size) := by simp [World.shape?, q1]
  refine ⟨_, ?_, h1⟩
  have := Lib.run_from_unsafe (P := B.P) s.w (src := t) (dst := t') ⟨b, 0, none⟩ hu' ((hT.ty ht).ptr hk) hi hsh (by rw [q2]; exact hlies c k5)
  simp only [Nat.zero_mul, Nat.zero_add] at k6
  simp only [execOp, k6, Sem.run_bind, this, Result.andThen_ok, Sem.run_pure]

/-- A call of a function without a body that hands on its argument. -/
theorem od_same {f : FuncId} {x : Operand} {ts : Array TypeId} {p : PV} {fn : Func} (hf : B.P.funcs[f]? = some fn) (hname : (fn.name == "runtime.NumGoroutine") = false) (hb : fn.body.isNone = true) (hn : Extern.findNext fn = none) (he : Extern.find fn = some Extern.AbiNoEscape.same) (hx : env.ev x = p) :
    OpD B ⟨d, .call { callee := .value (.func f), args := #[x], argTypes := ts }, ty, ps, af, g⟩ env [] H p [] :=
  opd_pure fun s a _ h => by
    have h1 := h x (by simp [Op.operands, Call.operands])
    rw [hx] at h1
    refine ⟨a.eval x, ?_, h1⟩
    have := run_callFunc_extern (P := B.P) hf hname hb hn he #[a.eval x] s.w
    have ef : a.eval (.func f) = .func (.func f) #[] #[] := rfl
    simp only [execOp, resolve, ef, Deferred.ofValue, Sem.run_bind, Sem.run_pure, Result.andThen_ok, invoke, Array.append_empty, Array.empty_append, List.map_toArray, List.map_cons, List.map_nil, this, Lib.run_noEscape]

theorem od_sliceData {t : TypeId} {x : Operand} {id n : Nat} {blk : Blk} (hx : env.ev x = .sref id n 0 n) (hb : H.get id = some blk) (hl : blk.elems.length = n) (hn : 0 < n) :
    OpD B ⟨d, .call { callee := .builtin .unsafeSliceData, args := #[x], argTypes := #[t] }, ty, ps, af, g⟩ env [id] H (.ptr id n 0 0) [] := by
  intro env' H' he hr
  refine opw_quiet fun s a N ho hH hE => ?_
  have h1 := hE.ev x
  rw [he x (by simp [Op.operands, Call.operands]), hx] at h1
  obtain ⟨_, blk', k1, _, k3⟩ := VR_sref.1 h1
  have hb2 := k1
  rw [hH, hr id (by simp), hb] at k1
  obtain rfl : blk = blk' := by simpa using k1
  obtain ⟨b, c, ad, cap, m1, m2, m3, m4, m5, m6⟩ := k3 hl
  have hcap : cap ≠ 0 := by omega
  have had := m6.resolve_left hcap
  simp only [Nat.zero_mul] at had
  subst had
  refine ⟨.pointer (some ⟨b, 0, none⟩), ?_, VR_ptr.2 ⟨⟨_, rfl⟩, blk, hb2, by omega, fun _ => ⟨b, c, m1, by omega, by simp, hn⟩⟩⟩
  simp only [execOp, resolve, invoke, builtin, List.map_toArray, List.map_cons, List.map_nil, m2, Sem.run_bind, Sem.run_pure, Result.andThen_ok, Lib.run_unsafeSliceData_row s.w #[t] ty ⟨b, 0, none⟩ n cap hcap]

theorem od_sliceData_nil {t : TypeId} {x : Operand} (hx : env.ev x = .nils) :
    OpD B ⟨d, .call { callee := .builtin .unsafeSliceData, args := #[x], argTypes := #[t] }, ty, ps, af, g⟩ env [] H .nilp [] :=
  opd_pure fun s a _ h => by
    have h1 := h x (by simp [Op.operands, Call.operands])
    rw [hx] at h1
    refine ⟨.pointer none, ?_, by simp [VR, VR1, CR, RR]⟩
    simp only [execOp, resolve, invoke, builtin, List.map_toArray, List.map_cons, List.map_nil, VR_nils.1 h1, Sem.run_bind, Sem.run_pure, Result.andThen_ok, Lib.run_unsafeSliceData_nil s.w #[t] ty 0 0]

theorem od_unsafeString_nil {t t' : TypeId} {x y : Operand} (hx : env.ev x = .nilp) (hy : env.ev y = .int .i64 0) :
    OpD B ⟨d, .call { callee := .builtin .unsafeString, args := #[x, y], argTypes := #[t, t'] }, ty, ps, af, g⟩ env [] H (.str []) [] :=
  opd_pure fun s a _ h => by
    have h1 := h x (by simp [Op.operands, Call.operands])
    have h2 := h y (by simp [Op.operands, Call.operands])
    rw [hx] at h1
    rw [hy] at h2
    have e1 : a.eval x = .pointer none := by simpa [VR, VR1, CR, RR] using h1
    refine ⟨.string .empty, ?_, VR_str.2 rfl⟩
    simp only [execOp, resolve, invoke, builtin, List.map_toArray, List.map_cons, List.map_nil, e1, VR_int.1 h2, Sem.run_bind, Sem.run_pure, Result.andThen_ok, Lib.run_unsafeString_none s.w t t' ty none]

/-- Freezing a block's cells: from then on it is data. -/
theorem freeze_heap (w : World) (b n k : Nat) (h : k ≠ b) : (w.freeze ⟨b, 0, none⟩ n).heap[k]? = w.heap[k]? := by
  unfold World.freeze
  split
  · rfl
  · simp only [Array.getElem?_modify]
    rw [if_neg (Ne.symm h)]
theorem freeze_block (w : World) (b n : Nat) {cells : Array Value} {t : TypeId} {fr : Nat × Nat} (h : w.heap[b]? = some (.cells cells t fr)) : ∃ fr', (w.freeze ⟨b, 0, none⟩ n).heap[b]? = some (.cells cells t fr') := by
  unfold World.freeze
  split
  · exact ⟨fr, h⟩
  · simp only [Array.getElem?_modify, if_true, h, Option.map_some]
    exact ⟨_, rfl⟩

def St.fz (s : St) (b n id : Nat) (blk : Blk) : St :=
  { w := s.w.freeze ⟨b, 0, none⟩ n, μ := s.μ, S := fun k => s.S k ∨ k = b, H := (id, { blk with live := false }) :: s.H }

section
variable {s : St} {id b c n : Nat} {blk : Blk}
theorem St.fz_ext (hb : s.H.get id = some blk) (hlv : blk.live = true) (hμ : s.μ id = some (b, c)) (hc : 0 < c) : Ext s (s.fz b n id blk) where
  os := by simp only [St.fz, World.freeze]; split <;> rfl
  tape := by simp only [St.fz, World.freeze]; split <;> rfl
  output := by simp only [St.fz, World.freeze]; split <;> rfl
  size := by simp only [St.fz, World.freeze]; split <;> simp
  frame k hk hn := freeze_heap _ _ _ _ (fun e => hn ⟨id, blk, c, hb, hlv, by rw [e]; exact hμ, hc⟩)
  stab _ h := .inl h
  prov k h := by
    rcases h with h | rfl
    · exact .inl h
    · exact .inr (.inr ⟨id, blk, c, hb, hlv, hμ, hc⟩)
  live k _ := by
    rintro ⟨j, bk, c', h1, h2, h3, h4⟩
    simp only [St.fz, Heap.get_cons] at h1
    split at h1
    · obtain rfl : _ = bk := by simpa using h1
      cases h2
    · exact ⟨j, bk, c', h1, h2, h3, h4⟩
  ids k bk hk := by
    by_cases e : id = k
    · subst e
      rw [hb] at hk
      obtain rfl : blk = bk := by simpa using hk
      exact ⟨{ blk with live := false }, by simp [St.fz, Heap.get_cons], rfl, Nat.le_refl _, fun _ => rfl⟩
    · exact ⟨bk, by simp only [St.fz, Heap.get_cons]; rw [if_neg e]; exact hk, rfl, Nat.le_refl _, fun _ => rfl⟩

theorem St.fz_ok {B : Base} (hb : s.H.get id = some blk) (hlv : blk.live = true) (hd : blk.data = true) (hμ : s.μ id = some (b, c)) (hc : 0 < c) (ho : s.ok B) : (s.fz b n id blk).ok B := by
  have hx := St.fz_ext (n := n) hb hlv hμ hc
  have hsame : ∀ k, k ≠ b → (s.fz b n id blk).w.heap[k]? = s.w.heap[k]? := fun k hk => freeze_heap _ _ _ _ hk
  have hnS : ¬ s.S b := by
    obtain ⟨b', c', k1, _, k3⟩ := ho.blk id blk hb
    rw [hμ] at k1
    obtain ⟨rfl, rfl⟩ : b = b' ∧ c = c' := by simpa using k1
    exact (k3 hc).2.2.1 hlv
  refine ⟨fun k h => Nat.lt_of_lt_of_le ?_ hx.size, fun k bk hk => ?_, fun k k' bk bk' b1 c1 c2 h1 h2 hl hl' m1 m2 hc1 hc2 => ?_, fun k h => ⟨.inl (ho.glob k h).1, ?_⟩⟩
  · rcases h with h | rfl
    · exact ho.lt k h
    · exact St.blk_lt ho hb hμ hc
  · simp only [St.fz, Heap.get_cons] at hk
    split at hk
    · rename_i e
      subst e
      obtain rfl : _ = bk := by simpa using hk
      obtain ⟨b1, c1, k1, k2, k3⟩ := ho.blk id blk hb
      rw [hμ] at k1
      obtain ⟨rfl, rfl⟩ : b = b1 ∧ c = c1 := by simpa using k1
      refine ⟨b, c, hμ, k2, fun _ => ?_⟩
      obtain ⟨⟨cells, ty, fr, q1, q2, q3⟩, k5, k6, k7⟩ := k3 hc
      obtain ⟨fr', q1'⟩ := freeze_block s.w b n q1
      refine ⟨⟨cells, ty, fr', q1', q2, fun h => (by cases h), q3.2⟩, fun i x hi => ?_, fun h => (by cases h), fun _ => Or.inr rfl⟩
      obtain ⟨ecs, m1, m2, m3⟩ := k5 i x hi
      refine ⟨ecs, m1, ?_, fun j v hj => ?_⟩
      · have hd2 : ({ blk with live := false } : Blk).data = true := hd
        rw [hd2]
        rw [hd] at m2
        exact CR_mono hx.stab (fun k hk => hx.keep ho hk) _ _ _ _ (fun _ _ h => h) m2
      · have := m3 j v hj
        simp only [World.cell?, q1] at this
        simp only [World.cell?, St.fz, q1']
        exact this
    · rename_i e
      refine (ho.blk k bk hk).keep hx ho rfl (fun b1 c1 h1 h2 => hsame b1 fun hbb => ?_) (fun b1 c1 h1 h2 hl hS => ?_)
      · subst hbb
        by_cases hl : bk.live = true
        · exact e (ho.inj id k blk bk b1 c c1 hb hk hlv hl hμ h1 hc h2)
        · obtain ⟨b', c', k1, _, k3⟩ := ho.blk k bk hk
          rw [h1] at k1
          obtain ⟨rfl, rfl⟩ : b1 = b' ∧ c1 = c' := by simpa using k1
          exact hnS ((k3 h2).2.2.2 (by simpa using hl))
      · rcases hS with hS | rfl
        · obtain ⟨b', c', k1, _, k3⟩ := ho.blk k bk hk
          rw [h1] at k1
          obtain ⟨rfl, rfl⟩ : b1 = b' ∧ c1 = c' := by simpa using k1
          exact (k3 h2).2.2.1 hl hS
        · exact e (ho.inj id k blk bk b1 c c1 hb hk hlv hl hμ h1 hc h2)
  · simp only [St.fz, Heap.get_cons] at h1 h2
    split at h1
    · obtain rfl : _ = bk := by simpa using h1
      cases hl
    · split at h2
      · obtain rfl : _ = bk' := by simpa using h2
        cases hl'
      · exact ho.inj k k' bk bk' b1 c1 c2 h1 h2 hl hl' m1 m2 hc1 hc2
  · rw [← (ho.glob k h).2]
    exact hsame k fun e => hnS (e ▸ (ho.glob k h).1)
end

theorem od_unsafeString {t' : TypeId} {x y : Operand} {et : Nat} {l : List UInt8} (hT : B.good) {pt : TypeId} {ep : TyE} (hp : B.T[pt]? = some (some ep)) (hpk : ep.kind = .ptr et) (hc : B.P.cellsOf et = 1)
    (hx : env.ev x = .ptr (tk et) l.length 0 0) (hy : env.ev y = .int .i64 (l.length : Nat)) (hb : H.get (tk et) = some ⟨1, true, true, bytesP l⟩) (hl : l ≠ []) (h63 : l.length ≤ 9223372036854775807) :
    OpD B ⟨d, .call { callee := .builtin .unsafeString, args := #[x, y], argTypes := #[pt, t'] }, ty, ps, af, g⟩ env [tk et] H (.str l) [(tk et, ⟨1, false, true, bytesP l⟩)] := by
  intro env' H' he hr s a N ho hH hE
  have h1 := hE.ev x
  have h2 := hE.ev y
  rw [he x (by simp [Op.operands, Call.operands]), hx] at h1
  rw [he y (by simp [Op.operands, Call.operands]), hy] at h2
  have hlen : (bytesP l).length = l.length := by simp [bytesP]
  obtain ⟨_, blk', k1, _, k3⟩ := VR_ptr.1 h1
  have hb2 := k1
  rw [hH, hr (tk et) (by simp), hb] at k1
  obtain rfl : (⟨1, true, true, bytesP l⟩ : Blk) = blk' := by simpa using k1
  obtain ⟨b, c, k4, k5, k6, _⟩ := k3 hlen
  obtain ⟨b', c', m1, m2, m3⟩ := ho.blk _ _ hb2
  rw [k4] at m1
  obtain ⟨rfl, rfl⟩ : b = b' ∧ c = c' := by simpa using m1
  obtain ⟨⟨cells, cty, fr, q1, q2, _, q4⟩, q5, _⟩ := m3 k5
  obtain rfl : cty = et := q4 et rfl
  have hsh : s.w.shape? b = some (cty, cells.size) := by simp [World.shape?, q1]
  have hcell : ∀ j x, l[j]? = some x → s.w.cell? ((⟨b, 0, none⟩ : Addr).add j) = some (.int .u8 x.toNat) := by
    intro j x hj
    obtain ⟨ecs, r1, r2, r3⟩ := q5 j (.int .u8 x.toNat) (by simp [bytesP, hj])
    simp only [CR] at r2
    subst r2
    have := r3 0 _ rfl
    simp only [Nat.mul_one, Nat.add_zero] at this
    rw [Addr.add_mid, Nat.zero_add]
    exact this
  have hrun := Lib.run_unsafeString_row (P := B.P) s.w pt t' ty cty ((hT.ty hp).ptr hpk) hc b cells.size hsh l hl (by rw [q2]; simp only [Nat.mul_one]; simpa [hlen] using m2) h63 hcell
  simp only [Nat.zero_mul, Nat.zero_add] at k6
  unfold Yields
  have : (execOp a.eval (⟨d, .call { callee := .builtin .unsafeString, args := #[x, y], argTypes := #[pt, t'] }, ty, ps, af, g⟩ : Oper)).run B.P s.w = .ok (.value (.string ⟨l.toArray⟩)) (s.w.freeze ⟨b, 0, none⟩ l.length) := by
    simp only [execOp, resolve, invoke, builtin, List.map_toArray, List.map_cons, List.map_nil, k6, VR_int.1 h2, Sem.run_bind, Sem.run_pure, Result.andThen_ok, hrun]
  rw [this]
  refine ⟨s.fz b l.length (tk cty) ⟨1, true, true, bytesP l⟩, .str l, _, rfl, St.fz_ok hb2 rfl rfl k4 k5 ho, St.fz_ext hb2 rfl k4 k5, VR_str.2 rfl, fun k => ?_, rfl, rfl⟩
  simp only [St.fz, Heap.get_cons, List.cons_append, List.nil_append]
  rw [hH k]
end ops
end Go.PM
/- strings.Builder: its contracts. -/
namespace Go.PMS
open Go Go.PM Go.Proofs Go.RowKit
variable {W : World} {gs : Nat}
set_option maxRecDepth 20000

abbrev kB : Nat := tk t_strings_Builder
abbrev kb : Nat := tk t_uint8

/-- A builder that holds the bytes `l`. -/
def bld (l : Str) : Heap := match l with
  | [] => [(kB, ⟨2, true, false, [.agg [.nilp, .nils]]⟩)]
  | c :: cs => [(kB, ⟨2, true, false, [.agg [.ptr kB 1 0 0, .sref kb (cs.length + 1) 0 (cs.length + 1)]]⟩), (kb, ⟨1, true, true, bytesP (c :: cs)⟩)]

theorem bld_ne {l : Str} (h : l ≠ []) : bld l = [(kB, ⟨2, true, false, [.agg [.ptr kB 1 0 0, .sref kb l.length 0 l.length]]⟩), (kb, ⟨1, true, true, bytesP l⟩)] := by
  cases l with
  | nil => exact absurd rfl h
  | cons c cs => rfl

theorem unsUnder : PP.underlying t_unsafe_Pointer = some .unsafePointer := by kernel_rfl
theorem bldLies (c : Nat) (h : 0 < c) : liesAt PP PP.depth t_strings_Builder (c * 2 / PP.cellsOf t_strings_Builder) 0 t_strings_Builder 1 = true := by
  have hc : PP.cellsOf t_strings_Builder = 2 := by kernel_rfl
  rw [hc, Nat.mul_div_cancel _ (by omega)]
  have hd : PP.depth = (2 * (PP.types.size + Made.depth) + 1) + 1 := rfl
  rw [hd]
  simp only [liesAt, Bool.or_eq_true]
  left
  rw [hd]
  have h1 : 1 ≤ c := h
  simp [rowAt, hc, h1, sameLayout]

theorem copyCheck_fresh : PSpec (bs W gs) n_strings_Builder_copyCheck [.ptr kB 1 0 0] (bld []) (fun r H => r = .tup [] ∧ H = [(kB, ⟨2, true, false, [.agg [.ptr kB 1 0 0, .nils]]⟩)]) := by
  refine pspec_intro (fn := b_strings_Builder_copyCheck) (bs_good W gs) rfl rfl rfl (Nat.le_of_ble_eq_true rfl) fun s0 _ => ?_
  have hT := bs_good W gs
  repeat refine prun_step hT rfl ?_
  refine prun_q (od_eql_nilp hT rfl rfl rfl rfl) rfl rfl ?_
  repeat refine prun_step hT rfl ?_
  refine prun_q (od_to_unsafe hT rfl rfl rfl (by decide) unsUnder rfl rfl rfl rfl) rfl rfl ?_
  refine prun_q (od_same (fn := b_internal_abi_NoEscape) rfl (by kernel_rfl) (by kernel_rfl) (by kernel_rfl) (by kernel_rfl) rfl) rfl rfl ?_
  refine prun_q (od_from_unsafe hT rfl rfl rfl unsUnder rfl rfl rfl bldLies) rfl rfl ?_
  repeat refine prun_step hT rfl ?_
  exact end_ends ⟨[], [], [(kB, ⟨2, true, false, [.agg [.ptr kB 1 0 0, .nils]]⟩)], rfl, vws_nil, ⟨rfl, .inr rfl, trivial⟩, rfl, rfl, rfl⟩

theorem copyCheck_used (n : Nat) (l : Str) : PSpec (bs W gs) n_strings_Builder_copyCheck [.ptr kB 1 0 0] [(kB, ⟨2, true, false, [.agg [.ptr kB 1 0 0, .sref kb n 0 n]]⟩), (kb, ⟨1, true, true, bytesP l⟩)]
    (fun r H => r = .tup [] ∧ H = [(kB, ⟨2, true, false, [.agg [.ptr kB 1 0 0, .sref kb n 0 n]]⟩), (kb, ⟨1, true, true, bytesP l⟩)]) := by
  refine pspec_intro (fn := b_strings_Builder_copyCheck) (bs_good W gs) rfl rfl rfl (Nat.le_of_ble_eq_true rfl) fun s0 _ => ?_
  have hT := bs_good W gs
  repeat refine prun_step hT rfl ?_
  refine prun_q (od_eql_ptr_nil hT rfl rfl rfl rfl rfl rfl) rfl rfl ?_
  repeat refine prun_step hT rfl ?_
  refine prun_q (od_neq_ptr_same hT rfl rfl rfl rfl rfl rfl rfl) rfl rfl ?_
  repeat refine prun_step hT rfl ?_
  exact end_ends ⟨[], [], [(kB, ⟨2, true, false, [.agg [.ptr kB 1 0 0, .sref kb n 0 n]]⟩), (kb, ⟨1, true, true, bytesP l⟩)], rfl, vws_nil, ⟨rfl, .inr rfl, rfl, .inl rfl, trivial⟩, rfl, rfl, rfl⟩

theorem kb_ty : ∀ u, kb = tk u → t_uint8 = u := fun u hu => by simp only [kb, tk, t_uint8] at hu ⊢; omega
theorem kB_ty : ∀ u, kB = tk u → t_strings_Builder = u := fun u hu => by simp only [kB, tk, t_strings_Builder] at hu ⊢; omega
theorem bytesP_len (l : Str) : (bytesP l).length = l.length := by simp [bytesP]
theorem bytesP_app (l m : Str) : bytesP l ++ bytesP m = bytesP (l ++ m) := by simp [bytesP]

theorem WriteString_spec (l s : Str) (hs : s ≠ []) (hf : l.length + s.length ≤ 140737488355328) : PSpec (bs W gs) n_strings_Builder_WriteString [.ptr kB 1 0 0, .str s] (bld l) (fun r H => r = .tup [.int .i64 (s.length : Nat), .any] ∧ H = bld (l ++ s)) := by
  cases l with
  | nil =>
    rw [List.nil_append, bld_ne hs]
    refine pspec_intro (fn := b_strings_Builder_WriteString) (bs_good W gs) rfl rfl rfl (Nat.le_of_ble_eq_true rfl) fun s0 _ => ?_
    have hT := bs_good W gs
    repeat refine prun_step hT rfl ?_
    refine prun_cw (G := bld []) copyCheck_fresh rfl rfl ⟨rfl, .inr rfl, trivial⟩ rfl ⟨.inl rfl, trivial⟩ rfl rfl (fun i => rfl) ?_
    repeat refine prun_step hT rfl ?_
    refine prun_n 1 true true (bytesP s) (od_append_nil kb (xs := bytesP s) hT rfl rfl rfl rfl (by simp) rfl rfl rfl rfl (.str rfl rfl) (by rw [bytesP_len]; simpa using hf) kb_ty) rfl rfl rfl ?_
    rw [bytesP_len]
    repeat refine prun_step hT rfl ?_
    exact ret_ends ⟨_, _, [(kB, ⟨2, true, false, [.agg [.ptr kB 1 0 0, .sref kb s.length 0 s.length]]⟩), (kb, ⟨1, true, true, bytesP s⟩)], rfl, vws_flat rfl, ⟨rfl, .inr rfl, rfl, .inl rfl, trivial⟩, rfl, rfl, rfl⟩
  | cons c cs =>
    rw [bld_ne (l := c :: cs ++ s) (by simp)]
    refine pspec_intro (fn := b_strings_Builder_WriteString) (bs_good W gs) rfl rfl rfl (Nat.le_of_ble_eq_true rfl) fun s0 _ => ?_
    have hT := bs_good W gs
    repeat refine prun_step hT rfl ?_
    refine prun_cw (copyCheck_used (cs.length + 1) (c :: cs)) rfl rfl ⟨rfl, .inr rfl, rfl, .inl rfl, trivial⟩ rfl ⟨.inl rfl, .inl rfl, trivial⟩ rfl rfl (fun i => rfl) ?_
    repeat refine prun_step hT rfl ?_
    refine prun_w 1 true true (bytesP (c :: cs ++ s)) (od_append (blk := ⟨1, true, true, bytesP (c :: cs)⟩) (xs := bytesP s) hT rfl rfl rfl rfl (by simp) rfl rfl rfl rfl rfl rfl (bytesP_len _) rfl (.str rfl rfl) (by rw [bytesP_len]; simpa using hf) kb_ty) (by rw [← bytesP_app]) rfl rfl rfl ?_
    rw [bytesP_len, show cs.length + 1 + s.length = (c :: cs ++ s).length from by simp; omega]
    repeat refine prun_step hT rfl ?_
    exact ret_ends ⟨_, _, [(kB, ⟨2, true, false, [.agg [.ptr kB 1 0 0, .sref kb (c :: cs ++ s).length 0 (c :: cs ++ s).length]]⟩), (kb, ⟨1, true, true, bytesP (c :: cs ++ s)⟩)], rfl, vws_flat rfl, ⟨rfl, .inr rfl, rfl, .inl rfl, trivial⟩, rfl, rfl, rfl⟩

theorem Len_spec (l : Str) : PSpec (bs W gs) n_strings_Builder_Len [.ptr kB 1 0 0] (bld l) (fun r H => r = .int .i64 (l.length : Nat) ∧ H = bld l) := by
  cases l with
  | nil =>
    refine pspec_intro (fn := b_strings_Builder_Len) (bs_good W gs) rfl rfl rfl (Nat.le_of_ble_eq_true rfl) fun s0 _ => ?_
    have hT := bs_good W gs
    repeat refine prun_step hT rfl ?_
    exact ret_ends ⟨_, _, bld [], rfl, vws_flat rfl, ⟨rfl, .inr rfl, trivial⟩, rfl, rfl, rfl⟩
  | cons c cs =>
    refine pspec_intro (fn := b_strings_Builder_Len) (bs_good W gs) rfl rfl rfl (Nat.le_of_ble_eq_true rfl) fun s0 _ => ?_
    have hT := bs_good W gs
    repeat refine prun_step hT rfl ?_
    refine prun_q (od_len_ref (blk := ⟨1, true, true, bytesP (c :: cs)⟩) hT rfl rfl rfl rfl (bytesP_len _)) rfl rfl ?_
    repeat refine prun_step hT rfl ?_
    exact ret_ends ⟨_, _, bld (c :: cs), rfl, vws_flat rfl, ⟨rfl, .inr rfl, rfl, .inl rfl, trivial⟩, rfl, rfl, rfl⟩

/-- Behind String nobody writes the bytes. -/
def bldEnd (l : Str) : Heap := match l with
  | [] => bld []
  | c :: cs => [(kB, ⟨2, true, false, [.agg [.ptr kB 1 0 0, .sref kb (cs.length + 1) 0 (cs.length + 1)]]⟩), (kb, ⟨1, false, true, bytesP (c :: cs)⟩)]

theorem bldEnd_get (c : UInt8) (cs : Str) (i : Nat) : (bldEnd (c :: cs)).get i = Heap.get ([(kb, ⟨1, false, true, bytesP (c :: cs)⟩)] ++ bld (c :: cs)) i := by
  simp only [bldEnd, bld, List.cons_append, List.nil_append, Heap.get]
  by_cases h : kB = i
  · subst h; rfl
  · by_cases h2 : kb = i
    · subst h2; rfl
    · simp only [if_neg h, if_neg h2]

theorem String_spec (l : Str) (hl : l.length ≤ 140737488355328) : PSpec (bs W gs) n_strings_Builder_String [.ptr kB 1 0 0] (bld l) (fun r H => r = .str l ∧ H = bldEnd l) := by
  have hc : PP.cellsOf t_uint8 = 1 := by kernel_rfl
  cases l with
  | nil =>
    refine pspec_intro (fn := b_strings_Builder_String) (bs_good W gs) rfl rfl rfl (Nat.le_of_ble_eq_true rfl) fun s0 _ => ?_
    have hT := bs_good W gs
    repeat refine prun_step hT rfl ?_
    refine prun_draw hT (by kernel_rfl) ?_
    repeat refine plex_step hT rfl ?_
    refine plex_q (od_sliceData_nil rfl) rfl rfl ?_
    repeat refine plex_step hT rfl ?_
    refine plex_q (od_unsafeString_nil rfl rfl) rfl rfl ?_
    repeat refine plex_step hT rfl ?_
    refine plex_nil (by kernel_rfl) ?_
    repeat refine prun_step hT rfl ?_
    exact ret_ends ⟨_, _, bld [], rfl, vws_flat rfl, ⟨rfl, .inr rfl, trivial⟩, rfl, rfl, rfl⟩
  | cons c cs =>
    refine pspec_intro (fn := b_strings_Builder_String) (bs_good W gs) rfl rfl rfl (Nat.le_of_ble_eq_true rfl) fun s0 _ => ?_
    have hT := bs_good W gs
    repeat refine prun_step hT rfl ?_
    refine prun_draw hT (by kernel_rfl) ?_
    repeat refine plex_step hT rfl ?_
    refine plex_q (od_sliceData (blk := ⟨1, true, true, bytesP (c :: cs)⟩) rfl rfl (bytesP_len _) (by omega)) rfl rfl ?_
    repeat refine plex_step hT rfl ?_
    refine plex_q (od_len_ref (blk := ⟨1, true, true, bytesP (c :: cs)⟩) hT rfl rfl rfl rfl (bytesP_len _)) rfl rfl ?_
    repeat refine plex_step hT rfl ?_
    refine plex_d (H' := bldEnd (c :: cs)) (od_unsafeString (l := c :: cs) hT rfl rfl hc rfl rfl rfl (by simp) (by simp only [List.length_cons] at hl ⊢; omega)) rfl rfl (bldEnd_get c cs) ?_
    repeat refine plex_step hT rfl ?_
    refine plex_nil (by kernel_rfl) ?_
    repeat refine prun_step hT rfl ?_
    exact ret_ends ⟨_, _, bldEnd (c :: cs), rfl, vws_flat rfl, ⟨rfl, .inr rfl, rfl, .inl rfl, trivial⟩, rfl, rfl, rfl⟩

end Go.PMS
/- A builder beside other blocks. -/
namespace Go.PMS
open Go Go.PM Go.Proofs Go.RowKit
variable {W : World} {gs : Nat}
set_option maxRecDepth 20000

def noB (A : Heap) : Prop := A.get kB = none ∧ A.get kb = none

theorem bld_none (l : Str) {k : Nat} (h1 : k ≠ kB) (h2 : k ≠ kb) : (bld l).get k = none := by
  cases l with
  | nil => simp only [bld, Heap.get]; rw [if_neg (Ne.symm h1)]
  | cons c cs => simp only [bld, Heap.get]; rw [if_neg (Ne.symm h1), if_neg (Ne.symm h2)]

theorem bld_get_kB (l : Str) : ∃ b, (bld l).get kB = some b := by cases l <;> exact ⟨_, rfl⟩

theorem bldEnd_none (l : Str) {k : Nat} (h1 : k ≠ kB) (h2 : k ≠ kb) : (bldEnd l).get k = none := by
  cases l with
  | nil => exact bld_none [] h1 h2
  | cons c cs => simp only [bldEnd, Heap.get]; rw [if_neg (Ne.symm h1), if_neg (Ne.symm h2)]

theorem get_app_none {A C : Heap} {k : Nat} (h : A.get k = none) : Heap.get (A ++ C) k = C.get k := by rw [Heap.get_append, h]

theorem sub_bld (l : Str) (A C : Heap) (hA : noB A) (hC : noB C) : heapSub (A ++ bld l) (bld l) (C ++ bld l) := by
  cases l with
  | nil => exact ⟨by rw [get_app_none hC.1]; rfl, .inr rfl, trivial⟩
  | cons c cs =>
    refine ⟨by rw [get_app_none hC.1]; rfl, .inr ?_, by rw [get_app_none hC.2]; rfl, .inl rfl, trivial⟩
    simp only [refsInl, refsIn, get_app_none hA.1, get_app_none hA.2]
    rfl

theorem Heap.get_cases (A C : Heap) (i : Nat) : (∃ b, A.get i = some b ∧ Heap.get (A ++ C) i = some b) ∨ (A.get i = none ∧ Heap.get (A ++ C) i = C.get i) := by
  rw [Heap.get_append]
  cases h : A.get i with
  | none => exact .inr ⟨rfl, rfl⟩
  | some b => exact .inl ⟨b, rfl, rfl⟩

/-- What stands in the builder's place stands ahead of what was there. -/
theorem over_bld {A X Y : Heap} (hA : noB A) (hX : ∀ k, k ≠ kB → k ≠ kb → X.get k = none) (hXY : ∀ k, (Y.get k).isSome = true → (X.get k).isSome = true) (i : Nat) : Heap.get (A ++ X) i = Heap.get (X ++ (A ++ Y)) i := by
  by_cases h1 : i = kB
  · subst h1
    rw [get_app_none hA.1, Heap.get_append, Heap.get_append, hA.1]
    cases h : X.get kB with
    | some b => rfl
    | none =>
      have := hXY kB
      rw [h] at this
      cases hy : Y.get kB with
      | none => rfl
      | some c => rw [hy] at this; simp at this
  · by_cases h2 : i = kb
    · subst h2
      rw [get_app_none hA.2, Heap.get_append, Heap.get_append, hA.2]
      cases h : X.get kb with
      | some b => rfl
      | none =>
        have := hXY kb
        rw [h] at this
        cases hy : Y.get kb with
        | none => rfl
        | some c => rw [hy] at this; simp at this
    · rw [get_app_none (A := X) (hX i h1 h2), Heap.get_append, Heap.get_append, hX i h1 h2]
      cases h : A.get i with
      | some b => rfl
      | none =>
        cases hy : Y.get i with
        | none => rfl
        | some c =>
          have := hXY i
          rw [hy, hX i h1 h2] at this
          simp at this

theorem bld_more (l s : Str) (k : Nat) (h : ((bld l).get k).isSome = true) : ((bld (l ++ s)).get k).isSome = true := by
  cases l with
  | nil =>
    simp only [bld, Heap.get] at h
    split at h
    · rename_i e; subst e
      obtain ⟨b, hb⟩ := bld_get_kB ([] ++ s)
      rw [hb]; rfl
    · simp at h
  | cons c cs =>
    simp only [bld, Heap.get, List.cons_append] at h ⊢
    split
    · rfl
    · rename_i e; rw [if_neg e] at h
      split
      · rfl
      · rename_i e2; rw [if_neg e2] at h; simp at h

theorem bldEnd_more (l : Str) (k : Nat) (h : ((bld l).get k).isSome = true) : ((bldEnd l).get k).isSome = true := by
  cases l with
  | nil => exact h
  | cons c cs =>
    simp only [bld, bldEnd, Heap.get] at h ⊢
    split
    · rfl
    · rename_i e; rw [if_neg e] at h
      split
      · rfl
      · rename_i e2; rw [if_neg e2] at h; simp at h

theorem fresh_of_keys {G H : Heap} : ∀ (X : Heap), (∀ x ∈ X, (G.get x.1).isSome = true ∨ H.get x.1 = none) → freshIn G H X
  | [], _ => trivial
  | (k, b) :: X, h => ⟨h (k, b) (by simp), fresh_of_keys X fun x hx => h x (by simp [hx])⟩

theorem fresh_bld (l m : Str) (A : Heap) (hA : noB A) : freshIn (bld l) (A ++ bld l) (bld m) := by
  refine fresh_of_keys _ fun x hx => ?_
  have hx : x.1 = kB ∨ x.1 = kb := by
    cases m with
    | nil => simp [bld] at hx; exact .inl (by rw [hx])
    | cons c cs => simp [bld] at hx; rcases hx with h | h <;> simp [h]
  rcases hx with h | h
  · rw [h]; obtain ⟨b, hb⟩ := bld_get_kB l; rw [hb]; exact .inl rfl
  · rw [h, get_app_none hA.2]
    cases hb : (bld l).get kb with
    | none => exact .inr rfl
    | some b => exact .inl rfl

theorem fresh_bldEnd (l : Str) (A : Heap) (hA : noB A) : freshIn (bld l) (A ++ bld l) (bldEnd l) := by
  cases l with
  | nil => exact fresh_bld [] [] A hA
  | cons c cs => exact ⟨.inl rfl, .inl rfl, trivial⟩

theorem refs_B (l : Str) (A : Heap) (hA : noB A) : refsIn (A ++ bld l) (.ptr kB 1 0 0) = true := by
  obtain ⟨b, hb⟩ := bld_get_kB l
  simp only [refsIn, get_app_none hA.1, hb]; rfl
theorem hs_cons {G0 G H : Heap} {id : Nat} {b : Blk} (h1 : H.get id = some b) (h2 : b.data = true ∨ refsInl G0 b.elems = true) (h3 : heapSub G0 G H) : heapSub G0 ((id, b) :: G) H := ⟨h1, h2, h3⟩

section
variable {F : Frm} {all : Array Oper} {rest : List Oper} {k : List It} {d : Option Nat} {ty : TypeId} {ps : String} {af : Array Edge} {g : Option (Nat × Bool)} {env : Env}

theorem prun_len (l : Str) (A : Heap) (hA : noB A) {x : Operand} {ts : Array TypeId} {F : Frm} (hF : F.B = bs W gs) (hx : env.ev x = .ptr kB 1 0 0) (hg : guardK F.N all env g = some true) (hd : dstB F.N d = true)
    (h : Prun F (.ops all rest :: k) (env.put d (.int .i64 (l.length : Nat))) (A ++ bld l)) :
    Prun F (.ops all (⟨d, .call { callee := .value (.func n_strings_Builder_Len), args := #[x], argTypes := ts }, ty, ps, af, g⟩ :: rest) :: k) env (A ++ bld l) :=
  prun_cw (xs := [x]) (G := bld l) (G' := bld l) (by rw [hF]; exact Len_spec l) (by simp [hx]) rfl (sub_bld l [] A ⟨rfl, rfl⟩ hA) (by obtain ⟨b, hb⟩ := bld_get_kB l; simp [refsInl, refsIn, hb]) (fresh_bld l l A hA) hg hd (over_bld hA (fun k h1 h2 => bld_none l h1 h2) fun k h => h) h

theorem prun_write (l s : Str) (A : Heap) (hA : noB A) (hs : s ≠ []) (hf : l.length + s.length ≤ 140737488355328) {x y : Operand} {ts : Array TypeId} {F : Frm} (hF : F.B = bs W gs) (hx : env.ev x = .ptr kB 1 0 0) (hy : env.ev y = .str s) (hg : guardK F.N all env g = some true) (hd : dstB F.N d = true)
    (h : Prun F (.ops all rest :: k) (env.put d (.tup [.int .i64 (s.length : Nat), .any])) (A ++ bld (l ++ s))) :
    Prun F (.ops all (⟨d, .call { callee := .value (.func n_strings_Builder_WriteString), args := #[x, y], argTypes := ts }, ty, ps, af, g⟩ :: rest) :: k) env (A ++ bld l) :=
  prun_cw (xs := [x, y]) (G := bld l) (G' := bld (l ++ s)) (by rw [hF]; exact WriteString_spec l s hs hf) (by simp [hx, hy]) rfl (sub_bld l [] A ⟨rfl, rfl⟩ hA) (by obtain ⟨b, hb⟩ := bld_get_kB l; simp [refsInl, refsIn, hb]) (fresh_bld l _ A hA) hg hd (over_bld hA (fun k h1 h2 => bld_none _ h1 h2) (bld_more l s)) h

theorem prun_string (l : Str) (A : Heap) (hA : noB A) (hl : l.length ≤ 140737488355328) {x : Operand} {ts : Array TypeId} {F : Frm} (hF : F.B = bs W gs) (hx : env.ev x = .ptr kB 1 0 0) (hg : guardK F.N all env g = some true) (hd : dstB F.N d = true)
    (h : Prun F (.ops all rest :: k) (env.put d (.str l)) (A ++ bldEnd l)) :
    Prun F (.ops all (⟨d, .call { callee := .value (.func n_strings_Builder_String), args := #[x], argTypes := ts }, ty, ps, af, g⟩ :: rest) :: k) env (A ++ bld l) :=
  prun_cw (xs := [x]) (G := bld l) (G' := bldEnd l) (by rw [hF]; exact String_spec l hl) (by simp [hx]) rfl (sub_bld l [] A ⟨rfl, rfl⟩ hA) (by obtain ⟨b, hb⟩ := bld_get_kB l; simp [refsInl, refsIn, hb]) (fresh_bldEnd l A hA) hg hd (over_bld hA (fun k h1 h2 => bldEnd_none l h1 h2) (bldEnd_more l)) h
end
end Go.PMS
/- impl.RiverWrite, walked. -/
namespace Go.PMS
open Go Go.PM Go.Proofs Go.RowKit
variable {W : World} {gs : Nat}
set_option maxRecDepth 20000

def lineStep (e : Ev) (line : Str) (x : Lk) : Str := if (lineOf e x).2 = true then (lineOf e x).1 else line
def pickLine (e : Ev) : Str := kinds.foldl (lineStep e) []
def write8 : Str → List Ev → Str
  | out, [] => if 60000 < out.length then [] else out
  | out, e :: l => if pickLine e = [] ∨ 60000 < out.length then [] else write8 (out ++ (pickLine e ++ [10])) l

theorem lineLoop_len (e : Ev) : ∀ (fs : Str) (m : Ev) (out : Str) {r : Ev × Str}, lineLoop e fs m out = some r → r.2.length ≤ out.length + 21 * fs.length
  | [], m, out, r, h => by
    simp only [lineLoop, Option.some.injEq] at h
    subst h; simp
  | c :: cs, m, out, r, h => by
    simp only [lineLoop] at h
    split at h
    · rename_i hn
      have := lineLoop_len e cs _ _ h
      have hd : (dec (getF c e)).length ≤ 20 := dec_le ⟨by omega, by omega⟩
      simp only [List.length_append, List.length_cons, List.length_nil] at this ⊢
      omega
    · cases h

theorem lineOf_len {e : Ev} {x : Lk} (hx : x.word.length ≤ 10) (hf : x.fields.length ≤ 8) : (lineOf e x).1.length ≤ 210 + e.text.length := by
  unfold lineOf
  split
  · simp
  · rename_i m out h
    have := lineLoop_len e _ _ _ h
    simp only at this
    split
    · split
      · simp only [List.length_append, List.length_cons, List.length_nil]; omega
      · simp
    · simp only; omega

theorem kinds_ok : ∀ x ∈ kinds, x.word.length ≤ 10 ∧ x.fields.length ≤ 8 := by decide

theorem fold_len (e : Ev) : ∀ (xs : List Lk) (line : Str), (∀ x ∈ xs, x.word.length ≤ 10 ∧ x.fields.length ≤ 8) → line.length ≤ 210 + e.text.length → (xs.foldl (lineStep e) line).length ≤ 210 + e.text.length
  | [], _, _, h => h
  | x :: xs, line, hx, h => by
    rw [List.foldl_cons]
    refine fold_len e xs _ (fun y hy => hx y (by simp [hy])) ?_
    unfold lineStep
    split
    · have := hx x (by simp)
      exact lineOf_len this.1 this.2
    · exact h
theorem pickLine_len (e : Ev) : (pickLine e).length ≤ 210 + e.text.length := fold_len e _ _ kinds_ok (by simp)

theorem take_fold {α β : Type} (f : β → α → β) (b : β) {l : List α} {i : Nat} {x : α} (h : l[i]? = some x) : (l.take (i + 1)).foldl f b = f ((l.take i).foldl f b) x := by
  rw [List.take_add_one, h]
  simp

set_option maxHeartbeats 4000000 in
theorem implRiverWrite_spec (l : List Ev) (hl : l.length ≤ 1099511627776) (hok : ∀ e ∈ l, e.ok)
    (hI : ∀ n : Int, 0 ≤ n → n ≤ 9999 → PSpec (bs W gs) n_strconv_Itoa [.int .i64 n] [] (fun r H => r = .str (dec n) ∧ H = [])) :
    PSpec (bs W gs) n_impl_RiverWrite [.snap 10 (l.map Ev.pv)] [] (fun r H => r = .str (write8 [] l) ∧ H = []) := by
  refine pspec_intro (fn := b_impl_RiverWrite) (bs_good W gs) rfl rfl rfl (Nat.le_of_ble_eq_true rfl) fun s0 _ => ?_
  have hT := bs_good W gs
  iterate 6 refine prun_step hT rfl ?_
  refine prun_n 2 true false [.agg [.nilp, .nils]] (od_alloc kB hT rfl (List.cons_ne_nil _ _) rfl (.inl rfl) rfl kB_ty) rfl rfl rfl ?_
  repeat refine prun_step hT rfl ?_
  refine prun_loop (σ := Nat × Str) (fun x => x.1 ≤ l.length ∧ x.2.length ≤ 1200000 ∧ write8 [] l = write8 x.2 (l.drop x.1))
    (fun x => [(0, .snap 10 (l.map Ev.pv)), (3, .ptr kB 1 0 0), (11, .snap 10 (l.map Ev.pv)), (12, .int .i64 (l.length : Nat)), (13, .int .i64 (x.1 : Nat))]) (fun x => bld x.2)
    (fun x => l.length - x.1) (0, []) ⟨Nat.zero_le _, by simp, rfl⟩ ⟨rfl, rfl, rfl, rfl, rfl, rfl, by simp [Env.get], rfl, rfl, rfl, trivial⟩ (sub_bld [] [] [] ⟨rfl, rfl⟩ ⟨rfl, rfl⟩) (fun _ => rfl) (fun x hx => ?_)
  obtain ⟨i, out⟩ := x
  obtain ⟨hi, ho, hf⟩ := hx
  simp only at hi ho hf
  rw [hf]
  obtain ⟨bk, hbk⟩ := bld_get_kB out
  repeat refine prun_step hT rfl ?_
  refine prun_if rfl (fun h => ?_) (fun h => ?_)
  · have hlt : i < l.length := by omega
    obtain ⟨e, he⟩ := ex_get hlt
    have heok := hok e (List.mem_of_getElem? he)
    have het := heok.text
    rw [drop_get he, write8]
    repeat refine prun_step hT rfl ?_
    refine prun_q (od_ixm i hT rfl rfl rfl rfl rfl rfl) rfl rfl ?_
    repeat refine prun_step hT rfl ?_
    refine prun_n 10 true false [zEv] (od_alloc 5 hT rfl (List.cons_ne_nil _ _) rfl (.inl rfl) (bld_none out (by decide) (by decide))) rfl rfl rfl ?_
    repeat refine prun_step hT rfl ?_
    refine prun_callx (lineKinds_spec) rfl rfl rfl rfl rfl ?_
    repeat refine prun_step hT rfl ?_
    refine prun_loop (σ := Nat) (fun j => j ≤ kinds.length)
      (fun j => [(0, .snap 10 (l.map Ev.pv)), (3, .ptr kB 1 0 0), (5, .ptr 5 1 0 0), (6, .str ((kinds.take j).foldl (lineStep e) [])), (11, .snap 10 (l.map Ev.pv)), (12, .int .i64 (l.length : Nat)), (13, .int .i64 (i : Nat)), (17, .snap 3 (kinds.map Lk.pv)), (18, .int .i64 14), (19, .int .i64 (j : Nat))])
      (fun _ => (5, (⟨10, true, false, [e.pv]⟩ : Blk)) :: bld out)
      (fun j => kinds.length - j) 0 (Nat.zero_le _) ⟨rfl, rfl, rfl, refs_B out [(5, _)] ⟨rfl, rfl⟩, rfl, rfl, rfl, rfl, rfl, rfl, rfl, rfl, rfl, rfl, rfl, rfl, rfl, rfl, rfl, rfl, trivial⟩ (hs_cons rfl (.inr rfl) (sub_bld out [(5, _)] [(5, _)] ⟨rfl, rfl⟩ ⟨rfl, rfl⟩)) (fun _ => rfl) (fun j hj => ?_)
    repeat refine prun_step hT rfl ?_
    refine prun_if rfl (fun h2 => ?_) (fun h2 => ?_)
    · have hjt : j < kinds.length := by simp only [kinds, List.length_cons, List.length_nil]; omega
      obtain ⟨x, hx⟩ := ex_get hjt
      have hxo := kinds_ok x (List.mem_of_getElem? hx)
      repeat refine prun_step hT rfl ?_
      refine prun_q (od_ixm j hT rfl rfl rfl rfl rfl rfl) rfl rfl ?_
      repeat refine prun_step hT rfl ?_
      refine prun_n 3 true false [.agg [.str [], .int .i64 0, .str []]] (od_alloc 8 hT rfl (List.cons_ne_nil _ _) rfl (.inl rfl) (bld_none out (by decide) (by decide))) rfl rfl rfl ?_
      repeat refine prun_step hT rfl ?_
      refine prun_callx (lineOf_spec e x heok hxo.1 hxo.2 hI) rfl rfl rfl rfl rfl ?_
      repeat refine prun_step hT rfl ?_
      refine prun_if rfl (fun h3 => ?_) (fun h3 => ?_)
      all_goals
        repeat (first | refine prun_q (od_ar rfl rfl rfl) rfl rfl ?_ | refine prun_step hT rfl ?_)
        refine prun_lp ⟨j + 1, hjt, by omega, ⟨rfl, rfl, rfl, refs_B out [(5, _)] ⟨rfl, rfl⟩, rfl, rfl, ?_, rfl, rfl, rfl, rfl, rfl, rfl, rfl, rfl, rfl, rfl, rfl, rfl, rfl, trivial⟩, hs_cons rfl (.inr rfl) (sub_bld out [(5, _)] [(8, _), (5, _)] ⟨rfl, rfl⟩ ⟨rfl, rfl⟩)⟩
        rw [take_fold _ _ hx, lineStep]
        first | rw [if_pos h3] | rw [if_neg h3]
        rfl
    · have hjt : j = kinds.length := by simp only [kinds, List.length_cons, List.length_nil] at hj ⊢; omega
      subst hjt
      rw [List.take_length]
      repeat refine prun_step hT rfl ?_
      have hpl := pickLine_len e
      rw [show kinds.foldl (lineStep e) [] = pickLine e from rfl]
      refine prun_sp 34 rfl (fun h4 => ?_) (fun h4 => ?_)
      · repeat refine prun_step hT rfl ?_
        exact ret_ends (ends_flat rfl rfl ⟨by rw [if_pos (.inl h4)]; rfl, rfl⟩)
      repeat refine prun_step hT rfl ?_
      refine prun_len out [(5, _)] ⟨rfl, rfl⟩ rfl rfl rfl rfl ?_
      repeat refine prun_step hT rfl ?_
      refine prun_if rfl (fun h5 => ?_) (fun h5 => ?_)
      · repeat refine prun_step hT rfl ?_
        exact ret_ends (ends_flat rfl rfl ⟨by rw [if_pos (.inr (by omega))]; rfl, rfl⟩)
      rw [if_neg (fun h6 => h6.elim h4 (by omega))]
      repeat refine prun_step hT rfl ?_
      refine prun_q (od_cat rfl rfl (by simp only [List.length_cons, List.length_nil]; omega)) rfl rfl ?_
      repeat refine prun_step hT rfl ?_
      refine prun_write out (pickLine e ++ [10]) [(5, _)] ⟨rfl, rfl⟩ (by simp) (by simp only [List.length_append, List.length_cons, List.length_nil]; omega) rfl rfl rfl rfl rfl ?_
      repeat (first | refine prun_q (od_ar rfl rfl rfl) rfl rfl ?_ | refine prun_step hT rfl ?_)
      refine prun_lp ⟨(i + 1, out ++ (pickLine e ++ [10])), ⟨hlt, by simp only [List.length_append, List.length_cons, List.length_nil]; omega, rfl⟩, by simp only; omega, ⟨rfl, rfl, rfl, refs_B _ [] ⟨rfl, rfl⟩, rfl, rfl, rfl, rfl, rfl, rfl, trivial⟩, sub_bld _ [] [(5, _)] ⟨rfl, rfl⟩ ⟨rfl, rfl⟩⟩
  · have hge : i = l.length := by omega
    subst hge
    rw [List.drop_length, write8]
    repeat refine prun_step hT rfl ?_
    refine prun_len out [] ⟨rfl, rfl⟩ rfl rfl rfl rfl ?_
    repeat refine prun_step hT rfl ?_
    refine prun_if rfl (fun h5 => ?_) (fun h5 => ?_)
    · repeat refine prun_step hT rfl ?_
      exact ret_ends (ends_flat rfl rfl ⟨by rw [if_pos (by omega)]; rfl, rfl⟩)
    · repeat refine prun_step hT rfl ?_
      refine prun_string out [] ⟨rfl, rfl⟩ (by omega) rfl rfl rfl rfl ?_
      repeat refine prun_step hT rfl ?_
      exact ret_ends (ends_flat rfl rfl ⟨by rw [if_neg (by omega)]; rfl, rfl⟩)

end Go.PMS
/- Lines of events: what is written by kinds is what the reference writes and reads back. Plain Lean. -/
namespace Go.PMS
open Go Go.PM

/-! ### numbers -/
theorem valN_app (s : Str) (c : UInt8) : valN (s ++ [c]) = valN s * 10 + (c.toNat - 48) := by simp [valN]

theorem valN_decN (n : Nat) : valN (decN n) = n := by
  induction n using Nat.strongRecOn with
  | _ n ih =>
    rw [decN]
    split
    · rename_i h
      have := digit_toNat h
      simp [valN, this]
    · rename_i h
      rw [valN_app, ih _ (by omega), digit_toNat (by omega)]
      omega

theorem decN_dig (n : Nat) : ∀ c ∈ decN n, isDig c = true := by
  induction n using Nat.strongRecOn with
  | _ n ih =>
    rw [decN]
    split
    · rename_i h
      have := digit_toNat h
      simp [isDig, this]; omega
    · rename_i h
      intro c hc
      rcases List.mem_append.1 hc with hc | hc
      · exact ih _ (by omega) c hc
      · have := digit_toNat (n := n % 10) (by omega)
        simp at hc
        subst hc
        simp [isDig, this]; omega

theorem decN_ne (n : Nat) : decN n ≠ [] := by
  rw [decN]; split <;> simp

def R4 (n : Int) : Prop := 0 ≤ n ∧ n ≤ 9999
instance (n : Int) : Decidable (R4 n) := inferInstanceAs (Decidable (_ ∧ _))

theorem dec_nn {n : Int} (h : 0 ≤ n) : dec n = decN n.toNat := by
  rw [dec, if_neg (by omega)]
  congr 1; omega

theorem num4_dec {n : Int} (h : R4 n) : num4 (dec n) = n := by
  obtain ⟨h0, h1⟩ := h
  rw [dec_nn h0, num4, if_pos]
  · rw [valN_decN]; omega
  · refine ⟨List.length_pos_iff.2 (decN_ne _), decN_len _ 4 (by omega) (by omega), List.all_eq_true.2 (decN_dig _), ?_⟩
    rw [valN_decN, dec_nn (by omega)]; congr 1

theorem dec_dig {n : Int} (h : 0 ≤ n) : ∀ c ∈ dec n, isDig c = true := by
  rw [dec_nn h]; exact decN_dig _

theorem dec_nosp {n : Int} (h : 0 ≤ n) : ∀ c ∈ dec n, c ≠ 32 := by
  rintro c hc rfl
  have := dec_dig h 32 hc
  simp [isDig] at this

theorem num4_inv {w : Str} (h : 0 ≤ num4 w) : w = dec (num4 w) ∧ R4 (num4 w) := by
  unfold num4 at h ⊢
  split at h
  · rename_i hc
    rw [if_pos hc]
    obtain ⟨h1, h2, h3, h4⟩ := hc
    refine ⟨h4.symm, by omega, ?_⟩
    have := valN_lt w (List.all_eq_true.1 h3)
    have h5 : 10 ^ w.length ≤ 10 ^ 4 := Nat.pow_le_pow_right (by omega) h2
    omega
  · omega

/-! ### lines -/
def tailOf (ns : List Int) : Str := (ns.map fun n => 32 :: dec n).flatten
def ln (w : Str) (ns : List Int) : Str := w ++ tailOf ns

theorem splitAt_word {w rest : Str} (hw : ∀ c ∈ w, c ≠ 32) : splitAt 32 (w ++ 32 :: rest) = w :: splitAt 32 rest := by
  induction w with
  | nil => simp [splitAt]
  | cons c w ih =>
    have hc : c ≠ 32 := hw c (by simp)
    rw [List.cons_append, splitAt, if_neg hc, ih fun x hx => hw x (by simp [hx])]

theorem splitAt_one {w : Str} (hw : ∀ c ∈ w, c ≠ 32) : splitAt 32 w = [w] := by
  induction w with
  | nil => rfl
  | cons c w ih =>
    have hc : c ≠ 32 := hw c (by simp)
    rw [splitAt, if_neg hc, ih fun x hx => hw x (by simp [hx])]

theorem splitAt_ln {w : Str} (hw : ∀ c ∈ w, c ≠ 32) : ∀ (ns : List Int), (∀ n ∈ ns, R4 n) → splitAt 32 (ln w ns) = w :: ns.map dec := by
  intro ns hn
  induction ns generalizing w with
  | nil => simpa [ln, tailOf] using splitAt_one hw
  | cons n ns ih =>
    have h1 : ln w (n :: ns) = w ++ 32 :: ln (dec n) ns := by simp [ln, tailOf]
    rw [h1, splitAt_word hw, ih (w := dec n) (dec_nosp (hn n (by simp)).1) fun m hm => hn m (by simp [hm])]
    rfl

/-- The words of a text, put together again. -/
def joinW : List Str → Str
  | [] => []
  | [w] => w
  | w :: v :: ws => w ++ 32 :: joinW (v :: ws)

theorem joinW_split (s : Str) : joinW (splitAt 32 s) = s := by
  induction s with
  | nil => rfl
  | cons c s ih =>
    simp only [splitAt]
    split
    · rename_i h
      subst h
      cases hs : splitAt 32 s with
      | nil => exact absurd hs (splitAt_ne _ _)
      | cons w ws => rw [hs] at ih; simp [joinW, ih]
    · cases hs : splitAt 32 s with
      | nil => exact absurd hs (splitAt_ne _ _)
      | cons w ws =>
        rw [hs] at ih
        simp only
        cases ws with
        | nil => simp [joinW] at ih ⊢; exact ih
        | cons v ws => simp [joinW] at ih ⊢; exact ih

theorem joinW_ln (w : Str) : ∀ (ns : List Int), joinW (w :: ns.map dec) = ln w ns := by
  intro ns
  induction ns generalizing w with
  | nil => simp [joinW, ln, tailOf]
  | cons n ns ih =>
    rw [List.map_cons, joinW, ih]
    simp [ln, tailOf]

theorem nums44_dec {ns : List Int} (h : ∀ n ∈ ns, R4 n) : nums44 (ns.map dec) = (ns, true) := by
  unfold nums44
  rw [if_pos]
  · congr 1
    rw [List.map_map]
    conv => rhs; rw [← List.map_id ns]
    exact List.map_congr_left fun n hn => num4_dec (h n hn)
  · rw [List.all_eq_true]
    intro w hw
    obtain ⟨n, hn, rfl⟩ := List.mem_map.1 hw
    rw [num4_dec (h n hn)]
    simpa using (h n hn).1

theorem nums44_inv {ws : List Str} {ns : List Int} (h : nums44 ws = (ns, true)) : ws = ns.map dec ∧ ∀ n ∈ ns, R4 n := by
  unfold nums44 at h
  split at h
  · rename_i hc
    obtain rfl : ws.map num4 = ns := by simpa using h
    rw [List.all_eq_true] at hc
    refine ⟨?_, fun n hn => ?_⟩
    · rw [List.map_map]
      conv => lhs; rw [← List.map_id ws]
      exact List.map_congr_left fun w hw => (num4_inv (by simpa using hc w hw)).1
    · obtain ⟨w, hw, rfl⟩ := List.mem_map.1 hn
      exact (num4_inv (by simpa using hc w hw)).2
  · simp at h

theorem ownHead {s : Str} (h : s.take 4 = [111, 119, 110, 32]) : (splitAt 32 s).headD [] = own := by
  have h1 : s = own ++ 32 :: s.drop 4 := by
    conv => lhs; rw [← List.take_append_drop 4 s, h]
    rfl
  rw [h1, splitAt_word (by decide)]
  rfl

theorem read_ln {w : Str} (hw : ∀ c ∈ w, c ≠ 32) (ho : w ≠ own) {ns : List Int} (hn : ∀ n ∈ ns, R4 n) : read44 (ln w ns) = look44 w ns 13 2 := by
  have hs := splitAt_ln hw ns hn
  unfold read44
  rw [if_neg, hs, List.tail_cons, nums44_dec hn, if_neg (by simp)]
  · rfl
  · rintro ⟨_, h⟩
    have := ownHead h
    rw [hs] at this
    exact ho this

/-! ### what is written by kinds -/
theorem lineLoop_eq (e : Ev) : ∀ (fs : Str) (m : Ev) (out : Str), lineLoop e fs m out = if (∀ c ∈ fs, R4 (getF c e)) then some (fs.foldl (fun m c => setF c (getF c e) m) m, out ++ tailOf (fs.map fun c => getF c e)) else none
  | [], m, out => by simp [lineLoop, tailOf]
  | c :: cs, m, out => by
    rw [lineLoop, lineLoop_eq e cs]
    by_cases h : R4 (getF c e)
    · rw [if_pos (show 0 ≤ getF c e ∧ getF c e ≤ 9999 from h)]
      by_cases h2 : ∀ c ∈ cs, R4 (getF c e)
      · rw [if_pos h2, if_pos (by simpa using ⟨h, h2⟩)]
        simp [tailOf]
      · rw [if_neg h2, if_neg (by simp; intro _; simpa using h2)]
    · rw [if_neg (show ¬ (0 ≤ getF c e ∧ getF c e ≤ 9999) from h), if_neg (fun h3 => h (h3 c (by simp)))]

/-- A kind's line, where its word is not that of what a keeper takes in. -/
theorem lineOf_ln {e : Ev} {x : Lk} {s : Str} (ho : x.word ≠ own) : lineOf e x = (s, true) ↔
    (∀ c ∈ x.fields, R4 (getF c e)) ∧ s = ln x.word (x.fields.map fun c => getF c e) ∧
      (if x.word = dbl then { x.fields.foldl (fun m c => setF c (getF c e) m) (⟨x.kind, 0, 0, 0, 0, 0, 0, 0, 0, []⟩ : Ev) with keep := 1 } else x.fields.foldl (fun m c => setF c (getF c e) m) (⟨x.kind, 0, 0, 0, 0, 0, 0, 0, 0, []⟩ : Ev)) = e := by
  unfold lineOf
  rw [lineLoop_eq]
  by_cases h : ∀ c ∈ x.fields, R4 (getF c e)
  · rw [if_pos h]
    simp only [if_neg ho, Prod.mk.injEq, decide_eq_true_eq]
    exact ⟨fun ⟨h1, h2⟩ => ⟨h, h1.symm, h2⟩, fun ⟨_, h1, h2⟩ => ⟨h1.symm, h2⟩⟩
  · rw [if_neg h]
    simp [h]

theorem R4_of {n : Int} (h : R4 n) : 0 ≤ n ∧ n ≤ 9999 := h

theorem lineOf_own {e : Ev} {s : Str} : lineOf e ⟨own, 1, [97, 116, 117]⟩ = (s, true) ↔
    ∃ a t u tx, R4 a ∧ R4 t ∧ R4 u ∧ textOk tx = true ∧ e = ⟨1, a, 0, 0, 0, 0, 0, t, u, tx⟩ ∧ s = ln own [a, t, u] ++ 32 :: tx := by
  obtain ⟨k, a, f, n, w, m, kp, t, u, tx⟩ := e
  unfold lineOf
  rw [lineLoop_eq]
  by_cases h : ∀ c ∈ [97, 116, 117], R4 (getF c ⟨k, a, f, n, w, m, kp, t, u, tx⟩)
  · rw [if_pos h]
    simp only [List.forall_mem_cons, getF] at h
    simp only [show own ≠ dbl by decide, if_true, if_false]
    by_cases h2 : textOk tx = true
    · rw [if_pos h2]
      simp only [List.foldl, List.map, getF, setF, Prod.mk.injEq, decide_eq_true_eq, Ev.mk.injEq]
      constructor
      · rintro ⟨rfl, hh⟩
        refine ⟨a, t, u, tx, h.1, h.2.1, h.2.2.1, h2, ?_, by simp [ln]⟩
        simp at hh ⊢
        omega
      · rintro ⟨a', t', u', tx', _, _, _, _, hh, rfl⟩
        obtain ⟨rfl, rfl, rfl, rfl, rfl, rfl, rfl, rfl, rfl, rfl⟩ := hh
        simp [ln]
    · rw [if_neg h2]
      simp only [Prod.mk.injEq, Bool.false_eq_true, and_false, false_iff]
      rintro ⟨a', t', u', tx', _, _, _, h4, hh, _⟩
      obtain ⟨rfl, rfl, rfl, rfl, rfl, rfl, rfl, rfl, rfl, rfl⟩ := hh
      exact h2 h4
  · rw [if_neg h]
    simp only [Prod.mk.injEq, Bool.false_eq_true, and_false, false_iff]
    rintro ⟨a', t', u', tx', q1, q2, q3, _, hh, _⟩
    obtain ⟨rfl, rfl, rfl, rfl, rfl, rfl, rfl, rfl, rfl, rfl⟩ := hh
    refine h ?_
    simp only [List.forall_mem_cons, getF]
    exact ⟨q1, q2, q3, by simp⟩

theorem word1_ln {w rest : Str} (hw : ∀ c ∈ w, c ≠ 32) : word1 (w ++ 32 :: rest) = (w, rest) := by
  have h := word1_at (s := w ++ 32 :: rest) (i := w.length) (by
    intro x hx
    rw [List.take_left] at hx
    simpa using hw x hx) (by simp)
  rw [h]
  simp

theorem read_own {a t u : Int} (ha : R4 a) (ht : R4 t) (hu : R4 u) {tx : Str} (h : textOk tx = true) : read44 (ln own [a, t, u] ++ 32 :: tx) = (⟨1, a, 0, 0, 0, 0, 0, t, u, tx⟩, true) := by
  have e1 : ln own [a, t, u] ++ 32 :: tx = [111, 119, 110, 32] ++ (dec a ++ 32 :: (dec t ++ 32 :: (dec u ++ 32 :: tx))) := by simp [ln, tailOf, own]
  have e2 : ∀ X : Str, (([111, 119, 110, 32] : Str) ++ X).drop 4 = X := fun X => rfl
  rw [e1, read44, if_pos ⟨by simp, rfl⟩, e2]
  have hn : nums 3 (dec a ++ 32 :: (dec t ++ 32 :: (dec u ++ 32 :: tx))) = ([a, t, u], tx) := by
    simp only [nums, word1_ln (dec_nosp ha.1), word1_ln (dec_nosp ht.1), word1_ln (dec_nosp hu.1), num4_dec ha, num4_dec ht, num4_dec hu]
  unfold own44
  rw [hn]
  simp only [textOk, Bool.and_eq_true, decide_eq_true_eq] at h
  obtain ⟨h1, h2, h3⟩ := h
  have hneg : ¬ (([a, t, u] : List Int).getD 0 0 < 0 ∨ ([a, t, u] : List Int).getD 1 0 < 0 ∨ ([a, t, u] : List Int).getD 2 0 < 0) := by
    have := ha.1; have := ht.1; have := hu.1
    simp; omega
  rw [if_neg hneg, if_neg (by rw [h1]; simp)]
  simp; omega

theorem kinds_cases {P : Lk → Prop} (h1 : P ⟨own, 1, [97, 116, 117]⟩) (h2 : ∀ x ∈ kinds.tail, P x) : ∀ x ∈ kinds, P x := by
  intro x hx
  rcases List.mem_cons.1 (show x ∈ ⟨own, 1, [97, 116, 117]⟩ :: kinds.tail from hx) with rfl | h
  · exact h1
  · exact h2 x h

theorem look_at (w : Str) (n : List Int) (k : Nat) (h2 : 2 ≤ k) (h15 : k < 15) (hw : w = wordAt k) : look44 w n 13 2 = make44 k n := by
  subst hw
  have : k = 2 ∨ k = 3 ∨ k = 4 ∨ k = 5 ∨ k = 6 ∨ k = 7 ∨ k = 8 ∨ k = 9 ∨ k = 10 ∨ k = 11 ∨ k = 12 ∨ k = 13 ∨ k = 14 := by omega
  rcases this with rfl | rfl | rfl | rfl | rfl | rfl | rfl | rfl | rfl | rfl | rfl | rfl | rfl <;> simp [look44, wordAt, words]

/-- What a kind writes is the reference's line, and is read back. -/
theorem lineOf_read (e : Ev) : ∀ x ∈ kinds, ∀ s, lineOf e x = (s, true) → s = line44 e ∧ read44 s = (e, true) ∧ s ≠ [] := by
  refine kinds_cases ?_ ?_
  · intro s h
    obtain ⟨a, t, u, tx, ha, ht, hu, hx, rfl, rfl⟩ := lineOf_own.1 h
    refine ⟨?_, read_own ha ht hu hx, by simp [ln]⟩
    simp [line44, ln, tailOf, own, wordAt, words, sp]
  · intro x hx s h
    obtain ⟨k, a, f, n, w, m, kp, t, u, tx⟩ := e
    simp only [kinds, List.tail_cons, List.mem_cons, List.not_mem_nil, or_false] at hx
    rcases hx with rfl | rfl | rfl | rfl | rfl | rfl | rfl | rfl | rfl | rfl | rfl | rfl | rfl
    all_goals
      obtain ⟨h1, rfl, h3⟩ := (lineOf_ln (by decide)).1 h
      simp [setF, getF, dbl] at h3
      repeat (obtain ⟨h4, h3⟩ := h3; subst h4)
      subst h3
      refine ⟨by simp [line44, ln, tailOf, wordAt, words, sp, getF], ?_, by simp [ln]⟩
      rw [read_ln (by decide) (by decide) (by simpa [getF] using h1)]
      simp [look44, wordAt, words, make44, getF]

theorem textOk_of {tx : Str} (h1 : tx.all printable = true) (h2 : tx.length ≤ 24) (h3 : 0 < tx.length) : textOk tx = true := by
  rw [textOk, h1]; simp; omega

/-- Whatever the reference reads, a kind writes. -/
theorem read_lineOf {s : Str} {e : Ev} (h : read44 s = (e, true)) : ∃ x ∈ kinds, lineOf e x = (s, true) := by
  unfold read44 at h
  split at h
  · rename_i hs
    refine ⟨⟨own, 1, [97, 116, 117]⟩, by simp [kinds, own], lineOf_own.2 ?_⟩
    have hs1 : s = own ++ 32 :: s.drop 4 := by
      conv => lhs; rw [← List.take_append_drop 4 s, hs.2]
      rfl
    generalize s.drop 4 = r at h hs1
    unfold own44 at h
    simp only [nums] at h
    obtain ⟨p1, hw1⟩ : ∃ p, word1 r = p := ⟨_, rfl⟩
    obtain ⟨p2, hw2⟩ : ∃ p, word1 p1.2 = p := ⟨_, rfl⟩
    obtain ⟨p3, hw3⟩ : ∃ p, word1 p2.2 = p := ⟨_, rfl⟩
    simp only [hw1, hw2, hw3, List.getD_cons_zero, List.getD_cons_succ] at h
    split at h
    · simp at h
    · rename_i hn
      split at h
      · simp at h
      · rename_i hp
        simp only [Prod.mk.injEq, Bool.and_eq_true, decide_eq_true_eq] at h
        obtain ⟨rfl, h24, h0⟩ := h
        have n1 := num4_inv (w := p1.1) (by omega)
        have n2 := num4_inv (w := p2.1) (by omega)
        have n3 := num4_inv (w := p3.1) (by omega)
        refine ⟨num4 p1.1, num4 p2.1, num4 p3.1, p3.2, n1.2, n2.2, n3.2, textOk_of (by simpa using hp) h24 h0, rfl, ?_⟩
        have back : ∀ {r : Str} {p : Str × Str}, word1 r = p → p.2 ≠ [] → r = p.1 ++ 32 :: p.2 := by
          intro r p hr hne
          subst hr
          unfold word1 at hne ⊢
          simp only at hne ⊢
          have h1 := List.takeWhile_append_dropWhile (p := fun x : UInt8 => x != 32) (l := r)
          cases hd : r.dropWhile (fun x : UInt8 => x != 32) with
          | nil => rw [hd] at hne; simp at hne
          | cons c t =>
            have hc : c = 32 := by
              have := List.head?_dropWhile_not (fun x : UInt8 => x != 32) r
              rw [hd] at this
              simpa using this
            rw [hd] at h1
            subst hc
            simpa using h1.symm
        have hne3 : p3.2 ≠ [] := List.length_pos_iff.1 h0
        have b3 := back hw3 hne3
        have b2 := back hw2 (by rw [b3]; simp)
        have b1 := back hw1 (by rw [b2]; simp)
        rw [hs1, b1, b2, b3]
        conv => lhs; rw [n1.1, n2.1, n3.1]
        simp [ln, tailOf]
  · split at h
    · simp at h
    · rename_i hn
      obtain ⟨ns, hns⟩ : ∃ ns, nums44 (splitAt 32 s).tail = (ns, true) := ⟨_, Prod.ext rfl (by simpa using hn)⟩
      obtain ⟨i1, i2⟩ := nums44_inv hns
      rw [hns] at h
      have hsj := joinW_split s
      cases hs : splitAt 32 s with
      | nil => exact absurd hs (splitAt_ne _ _)
      | cons w ws =>
        rw [hs, List.tail_cons] at i1
        subst i1
        rw [hs, joinW_ln] at hsj
        rw [hs, List.headD_cons] at h
        simp only at h
        have key : ∀ (f k : Nat), look44 w ns f k = (e, true) → ∃ j, k ≤ j ∧ j < k + f ∧ w = wordAt j ∧ make44 j ns = (e, true) := by
          intro f
          induction f with
          | zero => intro k hk; simp [look44] at hk
          | succ f ih =>
            intro k hk
            rw [look44] at hk
            split at hk
            · exact ⟨k, Nat.le_refl _, by omega, by assumption, hk⟩
            · obtain ⟨j, j1, j2, j3⟩ := ih (k + 1) hk
              exact ⟨j, by omega, by omega, j3⟩
        obtain ⟨j, j1, j2, rfl, j4⟩ := key 13 2 h
        subst hsj
        have hj : j = 2 ∨ j = 3 ∨ j = 4 ∨ j = 5 ∨ j = 6 ∨ j = 7 ∨ j = 8 ∨ j = 9 ∨ j = 10 ∨ j = 11 ∨ j = 12 ∨ j = 13 ∨ j = 14 := by omega
        clear h hs key hns hn
        rcases hj with rfl | rfl | rfl | rfl | rfl | rfl | rfl | rfl | rfl | rfl | rfl | rfl | rfl
        · by_cases hl : ns.length = 1
          · obtain ⟨a, rfl⟩ := len1 hl
            simp [make44] at j4
            subst j4
            exact ⟨⟨[116, 105, 109, 101], 2, [97]⟩, by simp [kinds], (lineOf_ln (by decide)).2 ⟨by simpa [getF] using i2, by simp [getF, wordAt, words], by simp [setF, getF, dbl]⟩⟩
          · simp [make44, hl] at j4
        · by_cases hl : ns.length = 4
          · obtain ⟨a, b, c, d, rfl⟩ := len4 hl
            simp [make44] at j4
            subst j4
            exact ⟨⟨[109, 105, 120], 3, [97, 102, 110, 109]⟩, by simp [kinds], (lineOf_ln (by decide)).2 ⟨by simpa [getF] using i2, by simp [getF, wordAt, words], by simp [setF, getF, dbl]⟩⟩
          · simp [make44, hl] at j4
        · by_cases hl : ns.length = 1
          · obtain ⟨a, rfl⟩ := len1 hl
            simp [make44] at j4
            subst j4
            exact ⟨⟨[98, 114, 105, 110, 103, 115], 4, [119]⟩, by simp [kinds], (lineOf_ln (by decide)).2 ⟨by simpa [getF] using i2, by simp [getF, wordAt, words], by simp [setF, getF, dbl]⟩⟩
          · simp [make44, hl] at j4
        · by_cases hl : ns.length = 1
          · obtain ⟨a, rfl⟩ := len1 hl
            simp [make44] at j4
            subst j4
            exact ⟨⟨[108, 111, 115, 101, 115], 5, [119]⟩, by simp [kinds], (lineOf_ln (by decide)).2 ⟨by simpa [getF] using i2, by simp [getF, wordAt, words], by simp [setF, getF, dbl]⟩⟩
          · simp [make44, hl] at j4
        · by_cases hl : ns.length = 3
          · obtain ⟨a, b, c, rfl⟩ := len3 hl
            simp [make44] at j4
            subst j4
            exact ⟨⟨[115, 112, 111, 105, 108, 115], 6, [119, 109, 107]⟩, by simp [kinds], (lineOf_ln (by decide)).2 ⟨by simpa [getF] using i2, by simp [getF, wordAt, words], by simp [setF, getF, dbl]⟩⟩
          · simp [make44, hl] at j4
        · by_cases hl : ns.length = 2
          · obtain ⟨a, b, rfl⟩ := len2 hl
            simp [make44] at j4
            subst j4
            exact ⟨⟨[102, 97, 108, 108, 115], 7, [97, 107]⟩, by simp [kinds], (lineOf_ln (by decide)).2 ⟨by simpa [getF] using i2, by simp [getF, wordAt, words], by simp [setF, getF, dbl]⟩⟩
          · simp [make44, hl] at j4
        · by_cases hl : ns.length = 1
          · obtain ⟨a, rfl⟩ := len1 hl
            simp [make44] at j4
            subst j4
            exact ⟨⟨[114, 105, 115, 101, 115], 8, [97]⟩, by simp [kinds], (lineOf_ln (by decide)).2 ⟨by simpa [getF] using i2, by simp [getF, wordAt, words], by simp [setF, getF, dbl]⟩⟩
          · simp [make44, hl] at j4
        · by_cases hl : ns.length = 1
          · obtain ⟨a, rfl⟩ := len1 hl
            simp [make44] at j4
            subst j4
            exact ⟨⟨[111, 112, 101, 110, 115], 9, [97]⟩, by simp [kinds], (lineOf_ln (by decide)).2 ⟨by simpa [getF] using i2, by simp [getF, wordAt, words], by simp [setF, getF, dbl]⟩⟩
          · simp [make44, hl] at j4
        · by_cases hl : ns.length = 1
          · obtain ⟨a, rfl⟩ := len1 hl
            simp [make44] at j4
            subst j4
            exact ⟨⟨[99, 108, 111, 115, 101, 115], 10, [97]⟩, by simp [kinds], (lineOf_ln (by decide)).2 ⟨by simpa [getF] using i2, by simp [getF, wordAt, words], by simp [setF, getF, dbl]⟩⟩
          · simp [make44, hl] at j4
        · by_cases hl : ns.length = 3
          · obtain ⟨a, b, c, rfl⟩ := len3 hl
            simp [make44] at j4
            subst j4
            exact ⟨⟨[101, 97, 116, 115], 11, [97, 102, 110]⟩, by simp [kinds], (lineOf_ln (by decide)).2 ⟨by simpa [getF] using i2, by simp [getF, wordAt, words], by simp [setF, getF, dbl]⟩⟩
          · simp [make44, hl] at j4
        · by_cases hl : ns.length = 1
          · obtain ⟨a, rfl⟩ := len1 hl
            simp [make44] at j4
            subst j4
            exact ⟨⟨[112, 97, 99, 107, 115], 12, [97]⟩, by simp [kinds], (lineOf_ln (by decide)).2 ⟨by simpa [getF] using i2, by simp [getF, wordAt, words], by simp [setF, getF, dbl]⟩⟩
          · simp [make44, hl] at j4
        · by_cases hl : ns.length = 1
          · obtain ⟨a, rfl⟩ := len1 hl
            simp [make44] at j4
            subst j4
            exact ⟨⟨[102, 111, 114, 99, 101, 115], 13, [97]⟩, by simp [kinds], (lineOf_ln (by decide)).2 ⟨by simpa [getF] using i2, by simp [getF, wordAt, words], by simp [setF, getF, dbl]⟩⟩
          · simp [make44, hl] at j4
        · by_cases hl : ns.length = 1
          · obtain ⟨a, rfl⟩ := len1 hl
            simp [make44] at j4
            subst j4
            exact ⟨⟨[100, 111, 117, 98, 108, 101, 115], 4, [119]⟩, by simp [kinds], (lineOf_ln (by decide)).2 ⟨by simpa [getF] using i2, by simp [getF, wordAt, words], by simp [setF, getF, dbl]⟩⟩
          · simp [make44, hl] at j4

end Go.PMS
/- impl.natural, impl.naturals: walked. -/
namespace Go.PMS
open Go Go.PM Go.Proofs Go.RowKit
variable {W : World} {gs : Nat}
set_option maxRecDepth 20000

/-- A number of at most five figures. -/
def nat5 (s : Str) : Int × Bool := if 1 ≤ s.length ∧ s.length ≤ 5 ∧ ¬ (s[0]? = some 48 ∧ 1 < s.length) ∧ s.all isDig = true then ((valN s : Int), true) else (0, false)

theorem dig_bd {c : UInt8} (h : isDig c = true) : 48 ≤ c.toNat ∧ c.toNat ≤ 57 := by simpa [isDig] using h

theorem b48 {c : UInt8} (h : (c.toNat : Int) = 48) : c = 48 := UInt8.toNat_inj.1 (by simp; omega)

theorem natural_spec (s : Str) (hs : s.length ≤ 140737488355328) : PSpec (bs W gs) n_impl_natural [.str s] [] (fun r H => r = .tup [.int .i64 (nat5 s).1, .bool (nat5 s).2] ∧ H = []) := by
  refine pspec_intro (fn := b_impl_natural) (bs_good W gs) rfl rfl rfl (Nat.le_of_ble_eq_true rfl) fun s0 _ => ?_
  have hT := bs_good W gs
  iterate 7 refine prun_step hT rfl ?_
  refine prun_join2 (1 ≤ s.length ∧ s.length ≤ 5 ∧ ¬ (s[0]? = some 48 ∧ 1 < s.length)) [(0, .str s)] [] rfl ?_ (fun hj => ?_)
  · repeat refine prun_step hT rfl ?_
    refine prun_callx (in_spec _ _ _) rfl rfl rfl rfl rfl ?_
    repeat refine prun_step hT rfl ?_
    refine prun_sp 10 rfl (fun h => ?_) (fun h => ?_)
    · repeat refine prun_step hT rfl ?_
      refine ret_ends (ends_flat rfl rfl ⟨?_, rfl⟩)
      rw [nat5, if_neg (by omega)]; rfl
    obtain ⟨c, hc⟩ := ex_get (show 0 < s.length by omega)
    repeat refine prun_step hT rfl ?_
    refine prun_q (od_ixs 0 hT rfl rfl rfl rfl) rfl rfl ?_
    repeat refine prun_step hT rfl ?_
    refine prun_sp 14 rfl (fun h1 => ?_) (fun h1 => ?_)
    · repeat refine prun_step hT rfl ?_
      refine prun_if rfl (fun h2 => ?_) (fun h2 => ?_)
      · repeat refine prun_step hT rfl ?_
        refine ret_ends (ends_flat rfl rfl ⟨?_, rfl⟩)
        rw [nat5, if_neg (fun hh => hh.2.2.1 ⟨by rw [hc, b48 h1], by omega⟩)]; rfl
      · repeat refine prun_step hT rfl ?_
        exact prun_lp ⟨⟨by omega, by omega, fun hh => by omega⟩, ⟨rfl, rfl, trivial⟩, trivial⟩
    · repeat refine prun_step hT rfl ?_
      refine prun_lp ⟨⟨by omega, by omega, fun hh => ?_⟩, ⟨rfl, rfl, trivial⟩, trivial⟩
      rw [hc] at hh
      obtain rfl : c = 48 := by simpa using hh.1
      exact h1 rfl
  obtain ⟨h1, h5, hz⟩ := hj
  repeat refine prun_step hT rfl ?_
  refine prun_loop (σ := Nat) (fun i => i ≤ s.length ∧ ∀ x ∈ s.take i, isDig x = true)
    (fun i => [(0, .str s), (4, .int .i64 (valN (s.take i) : Nat)), (5, .int .i64 (i : Nat))]) (fun _ => [])
    (fun i => s.length - i) 0 ⟨Nat.zero_le _, by simp⟩ ⟨rfl, rfl, rfl, rfl, rfl, rfl, trivial⟩ trivial (fun _ => rfl) (fun i hi => ?_)
  obtain ⟨hi, ha⟩ := hi
  repeat refine prun_step hT rfl ?_
  refine prun_if rfl (fun h => ?_) (fun h => ?_)
  · have hlt : i < s.length := by omega
    obtain ⟨c, hc⟩ := ex_get hlt
    have hcm : c ∈ s := List.mem_of_getElem? hc
    have hcl := c.toNat_lt
    repeat (first
      | refine prun_q (od_ar rfl rfl rfl) rfl rfl ?_
      | refine prun_q (od_cvb hT rfl rfl rfl rfl) rfl rfl ?_
      | refine prun_step hT rfl ?_
      | refine prun_q (od_ixs _ hT rfl rfl rfl rfl) rfl rfl ?_
      | refine prun_q (od_ixm _ hT rfl rfl rfl rfl rfl rfl) rfl rfl ?_)
    refine prun_callx (in_spec _ _ _) rfl rfl rfl rfl rfl ?_
    repeat refine prun_step hT rfl ?_
    refine prun_if rfl (fun h2 => ?_) (fun h2 => ?_)
    · repeat refine prun_step hT rfl ?_
      refine ret_ends (ends_flat rfl rfl ⟨?_, rfl⟩)
      rw [nat5, if_neg]
      · rfl
      · rintro ⟨_, _, _, h3⟩
        have := dig_bd (List.all_eq_true.1 h3 c hcm)
        omega
    · have hd : isDig c = true := by simp [isDig]; omega
      have hv : valN (s.take i) < 100000 := Nat.lt_of_lt_of_le (valN_lt _ ha) (Nat.pow_le_pow_right (n := 10) (by omega) (by simp; omega : (s.take i).length ≤ 5))
      repeat (first
        | refine prun_q (od_ar rfl rfl rfl) rfl rfl ?_
        | refine prun_q (od_cvb hT rfl rfl rfl rfl) rfl rfl ?_
        | refine prun_step hT rfl ?_
        | refine prun_q (od_ixs _ hT rfl rfl rfl rfl) rfl rfl ?_
        | refine prun_q (od_ixm _ hT rfl rfl rfl rfl rfl rfl) rfl rfl ?_)
      rw [wrapu8 (n := (c.toNat : Int) - 48) (by omega) (by omega), wrap64 (n := (c.toNat : Int) - 48) (by omega) (by omega), wrap64 (n := 10 * (valN (s.take i) : Int) + ((c.toNat : Int) - 48)) (by omega) (by omega)]
      refine prun_lp ⟨i + 1, ⟨by omega, all_take_succ ha hc hd⟩, by omega, ⟨rfl, rfl, ?_, rfl, rfl, rfl, trivial⟩, trivial⟩
      rw [valN_snoc hc]
      refine congrArg (PV.int .i64) ?_
      show (_ : Int) = _
      push_cast
      omega
  · have hge : i = s.length := by omega
    subst hge
    rw [List.take_length] at ha ⊢
    repeat refine prun_step hT rfl ?_
    refine ret_ends (ends_flat rfl rfl ⟨?_, rfl⟩)
    rw [nat5, if_pos ⟨h1, h5, hz, List.all_eq_true.2 ha⟩]; rfl

theorem vw_nils {H G : Heap} {z : Nat} : vw H G .nils (.snap z []) := by simp only [vw]

def nats5 (ws : List Str) : List Int × Bool := if ws.all (fun w => (nat5 w).2) = true then (ws.map fun w => (nat5 w).1, true) else ([], false)

theorem naturals_spec (ws : List Str) (hl : ws.length ≤ 1099511627776) (hw : ∀ w ∈ ws, w.length ≤ 140737488355328) : PSpec (bs W gs) n_impl_naturals [.snap 1 (strsP ws)] [] (fun r H => r = .tup [.snap 1 (intsP (nats5 ws).1), .bool (nats5 ws).2] ∧ H = []) := by
  refine pspec_intro (fn := b_impl_naturals) (bs_good W gs) rfl rfl rfl (Nat.le_of_ble_eq_true rfl) fun s0 _ => ?_
  have hT := bs_good W gs
  repeat refine prun_step hT rfl ?_
  refine prun_ghost 4 4 1 rfl rfl ?_
  refine prun_loop (σ := Nat) (fun i => i ≤ ws.length ∧ (ws.take i).all (fun w => (nat5 w).2) = true)
    (fun i => [(4, .sref 4 i 0 i), (9, .snap 1 (strsP ws)), (10, .int .i64 (ws.length : Nat)), (11, .int .i64 (i : Nat))])
    (fun i => [(4, ⟨1, true, true, intsP ((ws.take i).map fun w => (nat5 w).1)⟩)])
    (fun i => ws.length - i) 0 ⟨Nat.zero_le _, by simp⟩ ⟨rfl, rfl, rfl, rfl, by simp [Env.get, strsP], rfl, rfl, rfl, trivial⟩ ⟨rfl, .inl rfl, trivial⟩ (fun _ => rfl) (fun i hi => ?_)
  obtain ⟨hi, ha⟩ := hi
  repeat refine prun_step hT rfl ?_
  refine prun_if rfl (fun h => ?_) (fun h => ?_)
  · have hlt : i < ws.length := by omega
    obtain ⟨w, hwi⟩ := ex_get hlt
    have hwm := hw w (List.mem_of_getElem? hwi)
    repeat refine prun_step hT rfl ?_
    refine prun_q (od_ixm (f := PV.str) (l := ws) i hT rfl rfl rfl rfl rfl rfl) rfl rfl ?_
    repeat refine prun_step hT rfl ?_
    refine prun_callx (natural_spec w hwm) rfl rfl rfl rfl rfl ?_
    repeat refine prun_step hT rfl ?_
    refine prun_if rfl (fun h2 => ?_) (fun h2 => ?_)
    · repeat refine prun_step hT rfl ?_
      refine ret_ends ⟨_, [.snap 1 [], .bool false], [], rfl, vws_cons vw_nils (vws_cons (vw_flat rfl) vws_nil), trivial, rfl, ?_, rfl⟩
      rw [nats5, if_neg (fun hh => h2 (List.all_eq_true.1 hh w (List.mem_of_getElem? hwi)))]; rfl
    · repeat refine prun_step hT rfl ?_
      refine prun_app1 hT rfl rfl rfl rfl rfl (by simp) rfl rfl rfl rfl rfl (by simp [intsP]; omega) rfl (by simp; omega) rfl rfl ?_
      repeat (first
        | refine prun_q (od_ar rfl rfl rfl) rfl rfl ?_
        | refine prun_q (od_cvb hT rfl rfl rfl rfl) rfl rfl ?_
        | refine prun_step hT rfl ?_
        | refine prun_q (od_ixs _ hT rfl rfl rfl rfl) rfl rfl ?_
        | refine prun_q (od_ixm _ hT rfl rfl rfl rfl rfl rfl) rfl rfl ?_)
      refine prun_lp ⟨i + 1, ⟨hlt, by rw [List.take_add_one, hwi, List.all_append, ha]; simpa using h2⟩, by omega, ⟨rfl, rfl, rfl, rfl, rfl, rfl, rfl, rfl, trivial⟩, ⟨?_, .inl rfl, trivial⟩⟩
      rw [List.take_add_one, hwi]
      simp [intsP, updK, Heap.get]
  · have hge : i = ws.length := by omega
    subst hge
    rw [List.take_length] at ha ⊢
    repeat refine prun_step hT rfl ?_
    refine ret_ends ⟨_, _, [], rfl, vws_cons (vw_sref rfl (by simp [intsP])) (vws_cons (vw_flat rfl) vws_nil), trivial, rfl, ?_, rfl⟩
    rw [nats5, if_pos ha]
    rfl

end Go.PMS
/- impl.eventOf: walked. -/
namespace Go.PMS
open Go Go.PM Go.Proofs Go.RowKit
variable {W : World} {gs : Nat}
set_option maxRecDepth 20000

def cutW (x : Lk) (s : Str) : List Str := if x.word = own then cutN 32 (min (x.fields.length + 2) (s.length + 1) - 1) s else splitAt 32 s
def made8 (x : Lk) : Ev := if x.word = dbl then ⟨x.kind, 0, 0, 0, 0, 0, 1, 0, 0, []⟩ else ⟨x.kind, 0, 0, 0, 0, 0, 0, 0, 0, []⟩
def start8 (x : Lk) (s : Str) : Ev := if x.word = own then { made8 x with text := ((cutW x s)[x.fields.length + 1]?).getD [] } else made8 x
def words8 (x : Lk) (s : Str) : List Str := if x.word = own then (cutW x s).take (x.fields.length + 1) else cutW x s
def okOwn (x : Lk) (s : Str) : Prop := x.word = own → (cutW x s).length = x.fields.length + 2 ∧ textOk (((cutW x s)[x.fields.length + 1]?).getD []) = true
instance (x : Lk) (s : Str) : Decidable (okOwn x s) := inferInstanceAs (Decidable (_ → _))

def fill8 : List Int → Str → Ev → Ev × Bool
  | [], _, e => (e, true)
  | k :: ks, cs, e => if 9999 < k then (Ev.none, false) else fill8 ks (cs.drop 1) (setF (cs.headD 0) k e)

/-- A line read as one of a kind; none where its word is another. -/
def kind8 (x : Lk) (s : Str) : Option (Ev × Bool) :=
  if (cutW x s).headD [] ≠ x.word then none
  else if ¬ okOwn x s then some (Ev.none, false)
  else if (nats5 (words8 x s).tail).2 = false ∨ (nats5 (words8 x s).tail).1.length ≠ x.fields.length then some (Ev.none, false)
  else some (fill8 (nats5 (words8 x s).tail).1 x.fields (start8 x s))

def readKinds : List Lk → Str → Ev × Bool
  | [], _ => (Ev.none, false)
  | x :: xs, s => match kind8 x s with
    | none => readKinds xs s
    | some r => r
def event8 (s : Str) : Ev × Bool := readKinds kinds s

theorem cutW_ne (x : Lk) (s : Str) : cutW x s ≠ [] := by
  unfold cutW; split
  · exact cutN_ne _ _ _
  · exact splitAt_ne _ _
theorem splitAt_lens (a : UInt8) : ∀ (s : Str), ∀ w ∈ splitAt a s, w.length ≤ s.length
  | [], w, h => by simp [splitAt] at h; subst h; simp
  | c :: s, w, h => by
    have ih := splitAt_lens a s
    simp only [splitAt] at h
    split at h
    · rcases List.mem_cons.1 h with rfl | h
      · simp
      · have := ih w h; simp; omega
    · cases hs : splitAt a s with
      | nil => exact absurd hs (splitAt_ne _ _)
      | cons v vs =>
        rw [hs] at h ih
        rcases List.mem_cons.1 h with rfl | h
        · have := ih v (by simp); simp; omega
        · have := ih w (by simp [h]); simp; omega
theorem cutN_lens (a : UInt8) : ∀ (k : Nat) (s : Str), ∀ w ∈ cutN a k s, w.length ≤ s.length
  | 0, s, w, h => by simp [cutN] at h; subst h; exact Nat.le_refl _
  | k + 1, [], w, h => by simp [cutN] at h; subst h; simp
  | k + 1, c :: s, w, h => by
    simp only [cutN] at h
    split at h
    · rcases List.mem_cons.1 h with rfl | h
      · simp
      · have := cutN_lens a k s w h; simp; omega
    · cases hs : cutN a (k + 1) s with
      | nil => exact absurd hs (cutN_ne _ _ _)
      | cons v vs =>
        have ih := cutN_lens a (k + 1) s
        rw [hs] at h ih
        rcases List.mem_cons.1 h with rfl | h
        · have := ih v (by simp); simp; omega
        · have := ih w (by simp [h]); simp; omega
theorem cutW_lens (x : Lk) (s : Str) : ∀ w ∈ cutW x s, w.length ≤ s.length := by
  unfold cutW; split
  · exact cutN_lens _ _ _
  · exact splitAt_lens _ _
theorem cutN_len (a : UInt8) : ∀ (k : Nat) (s : Str), (cutN a k s).length ≤ s.length + 1
  | 0, s => by simp [cutN]
  | k + 1, [] => by simp [cutN]
  | k + 1, c :: s => by
    simp only [cutN]
    split
    · have := cutN_len a k s; simp; omega
    · have := cutN_len a (k + 1) s
      cases hs : cutN a (k + 1) s with
      | nil => simp
      | cons v vs => rw [hs] at this; simp at this ⊢; omega
theorem cutW_len (x : Lk) (s : Str) : (cutW x s).length ≤ s.length + 1 := by
  unfold cutW; split
  · exact cutN_len _ _ _
  · exact splitAt_len _ _
theorem words8_sub (x : Lk) (s : Str) : ∀ w ∈ words8 x s, w ∈ cutW x s := by
  unfold words8; split
  · exact fun w h => List.mem_of_mem_take h
  · exact fun w h => h
theorem words8_len (x : Lk) (s : Str) : 1 ≤ (words8 x s).length ∧ (words8 x s).length ≤ s.length + 1 := by
  have h := List.length_pos_iff.2 (cutW_ne x s)
  have h2 := cutW_len x s
  unfold words8; split
  · simp; omega
  · omega
theorem nats5_len (ws : List Str) : (nats5 ws).1.length ≤ ws.length := by
  unfold nats5; split <;> simp
theorem headD_cons {α : Type} {l : List α} {a d : α} {r : List α} (h : l = a :: r) : l.headD d = a := by subst h; rfl

set_option maxHeartbeats 16000000 in
theorem eventOf_spec (s : Str) (hs : s.length ≤ 1048576) (hm : ∀ t : St, t.ok (bs W gs) → ∃ m, t.w.cell? ⟨0, 0, none⟩ = some (.int .i64 m)) :
    PSpec (bs W gs) n_impl_eventOf [.str s] [] (fun r H => r = .tup [(event8 s).1.pv, .bool (event8 s).2] ∧ H = []) := by
  refine pspec_intro (fn := b_impl_eventOf) (bs_good W gs) rfl rfl rfl (Nat.le_of_ble_eq_true rfl) fun s0 _ => ?_
  have hT := bs_good W gs
  repeat refine prun_step hT rfl ?_
  refine prun_callx (lineKinds_spec) rfl rfl rfl rfl rfl ?_
  repeat refine prun_step hT rfl ?_
  refine prun_loop (σ := Nat) (fun j => j ≤ kinds.length ∧ event8 s = readKinds (kinds.drop j) s)
    (fun j => [(0, .str s), (2, .ptr 2 1 0 0), (13, .snap 3 (kinds.map Lk.pv)), (14, .int .i64 14), (15, .int .i64 (j : Nat))])
    (fun _ => [(2, ⟨10, true, false, [Ev.none.pv]⟩)])
    (fun j => kinds.length - j) 0 ⟨Nat.zero_le _, rfl⟩ ⟨rfl, rfl, rfl, rfl, rfl, rfl, rfl, rfl, rfl, rfl, trivial⟩ ⟨rfl, .inr rfl, trivial⟩ (fun _ => rfl) (fun j hj => ?_)
  obtain ⟨hj, he⟩ := hj
  rw [he]
  repeat refine prun_step hT rfl ?_
  refine prun_if rfl (fun h => ?_) (fun h => ?_)
  · have hjt : j < kinds.length := by simp only [kinds, List.length_cons, List.length_nil]; omega
    obtain ⟨x, hx⟩ := ex_get hjt
    have hxo := kinds_ok x (List.mem_of_getElem? hx)
    rw [drop_get hx, readKinds]
    repeat refine prun_step hT rfl ?_
    refine prun_q (od_ixm j hT rfl rfl rfl rfl rfl rfl) rfl rfl ?_
    repeat (first
      | refine prun_q (od_ar rfl rfl rfl) rfl rfl ?_
      | refine prun_q (od_cvb hT rfl rfl rfl rfl) rfl rfl ?_
      | refine prun_step hT rfl ?_
      | refine prun_q (od_ixs _ hT rfl rfl rfl rfl) rfl rfl ?_
      | refine prun_q (od_ixm _ hT rfl rfl rfl rfl rfl rfl) rfl rfl ?_)
    refine prun_callx (Split_spec 32 s (by omega) hm) rfl rfl rfl rfl rfl ?_
    repeat refine prun_step hT rfl ?_
    refine prun_join1 True [(0, .str s), (2, .ptr 2 1 0 0), (5, .ptr 5 1 0 0), (6, .int .i64 ((x.fields.length : Nat) + 1)), (7, .snap 1 (strsP (cutW x s))), (13, .snap 3 (kinds.map Lk.pv)), (14, .int .i64 14), (15, .int .i64 (j : Nat))]
      [(5, ⟨3, true, false, [x.pv]⟩), (2, ⟨10, true, false, [Ev.none.pv]⟩)] rfl ?_ (fun _ => ?_)
    · refine prun_if rfl (fun h2 => ?_) (fun h2 => ?_)
      · have h2 : x.word = own := h2
        repeat (first
          | refine prun_q (od_ar rfl rfl rfl) rfl rfl ?_
          | refine prun_q (od_cvb hT rfl rfl rfl rfl) rfl rfl ?_
          | refine prun_step hT rfl ?_
          | refine prun_q (od_ixs _ hT rfl rfl rfl rfl) rfl rfl ?_
          | refine prun_q (od_ixm _ hT rfl rfl rfl rfl rfl rfl) rfl rfl ?_)
        refine prun_callx (SplitN_spec 32 s (x.fields.length + 2) (by omega) (by omega) (by omega) hm) rfl rfl rfl rfl rfl ?_
        repeat refine prun_step hT rfl ?_
        refine prun_lp ⟨trivial, ⟨rfl, rfl, rfl, rfl, rfl, rfl, rfl, rfl, ?_, rfl, rfl, rfl, rfl, rfl, rfl, rfl, trivial⟩, ⟨rfl, .inr rfl, rfl, .inr rfl, trivial⟩⟩
        rw [cutW, if_pos h2]; rfl
      · have h2 : ¬ x.word = own := h2
        repeat refine prun_step hT rfl ?_
        refine prun_lp ⟨trivial, ⟨rfl, rfl, rfl, rfl, rfl, rfl, rfl, rfl, ?_, rfl, rfl, rfl, rfl, rfl, rfl, rfl, trivial⟩, ⟨rfl, .inr rfl, rfl, .inr rfl, trivial⟩⟩
        rw [cutW, if_neg h2]; rfl
    obtain ⟨w0, ws, hcw⟩ : ∃ w0 ws, cutW x s = w0 :: ws := by
      cases h : cutW x s with
      | nil => exact absurd h (cutW_ne x s)
      | cons a l => exact ⟨a, l, rfl⟩
    have h0 : (cutW x s)[0]? = some w0 := by rw [hcw]; rfl
    repeat refine prun_step hT rfl ?_
    refine prun_draw hT (by kernel_rfl) ?_
    repeat refine plex_step hT rfl ?_
    refine plex_q (od_ixm (f := PV.str) (l := cutW x s) 0 hT rfl rfl rfl rfl rfl rfl) rfl rfl ?_
    repeat refine plex_step hT rfl ?_
    refine plex_nil (by kernel_rfl) ?_
    repeat refine prun_step hT rfl ?_
    refine prun_if rfl (fun h3 => ?_) (fun h3 => ?_)
    · repeat (first | refine prun_q (od_ar rfl rfl rfl) rfl rfl ?_ | refine prun_step hT rfl ?_)
      refine prun_lp ⟨j + 1, ⟨hjt, ?_⟩, by omega, ⟨rfl, rfl, rfl, rfl, rfl, rfl, rfl, rfl, rfl, rfl, trivial⟩, ⟨rfl, .inr rfl, trivial⟩⟩
      rw [kind8, headD_cons hcw, if_pos h3]
    have hk1 : kind8 x s = if ¬ okOwn x s then some (Ev.none, false)
        else if (nats5 (words8 x s).tail).2 = false ∨ (nats5 (words8 x s).tail).1.length ≠ x.fields.length then some (Ev.none, false)
        else some (fill8 (nats5 (words8 x s).tail).1 x.fields (start8 x s)) := by rw [kind8, headD_cons hcw, if_neg h3]
    rw [hk1]
    repeat refine prun_step hT rfl ?_
    refine prun_join1 True [(0, .str s), (2, .ptr 2 1 0 0), (5, .ptr 5 1 0 0), (6, .int .i64 ((x.fields.length : Nat) + 1)), (7, .snap 1 (strsP (cutW x s))), (8, .ptr 8 1 0 0)]
      [(8, ⟨10, true, false, [(made8 x).pv]⟩), (5, ⟨3, true, false, [x.pv]⟩), (2, ⟨10, true, false, [Ev.none.pv]⟩)] rfl ?_ (fun _ => ?_)
    · refine prun_if rfl (fun h4 => ?_) (fun h4 => ?_)
      · have h4 : x.word = dbl := h4
        repeat refine prun_step hT rfl ?_
        refine prun_lp ⟨trivial, ⟨rfl, rfl, rfl, rfl, rfl, rfl, rfl, rfl, rfl, rfl, rfl, rfl, trivial⟩, ⟨?_, .inr rfl, rfl, .inr rfl, rfl, .inr rfl, trivial⟩⟩
        rw [made8, if_pos h4]; rfl
      · have h4 : ¬ x.word = dbl := h4
        repeat refine prun_step hT rfl ?_
        refine prun_lp ⟨trivial, ⟨rfl, rfl, rfl, rfl, rfl, rfl, rfl, rfl, rfl, rfl, rfl, rfl, trivial⟩, ⟨?_, .inr rfl, rfl, .inr rfl, rfl, .inr rfl, trivial⟩⟩
        rw [made8, if_neg h4]; rfl
    repeat refine prun_step hT rfl ?_
    refine prun_join1 (okOwn x s) [(0, .str s), (2, .ptr 2 1 0 0), (5, .ptr 5 1 0 0), (7, .snap 1 (strsP (words8 x s))), (8, .ptr 8 1 0 0)]
      [(8, ⟨10, true, false, [(start8 x s).pv]⟩), (5, ⟨3, true, false, [x.pv]⟩), (2, ⟨10, true, false, [Ev.none.pv]⟩)] rfl ?_ (fun hok => ?_)
    · refine prun_if rfl (fun h4 => ?_) (fun h4 => ?_)
      · have h4 : x.word = own := h4
        have hcl : (strsP (cutW x s)).length = (cutW x s).length := by simp [strsP]
        repeat (first
          | refine prun_q (od_ar rfl rfl rfl) rfl rfl ?_
          | refine prun_q (od_cvb hT rfl rfl rfl rfl) rfl rfl ?_
          | refine prun_step hT rfl ?_
          | refine prun_q (od_ixs _ hT rfl rfl rfl rfl) rfl rfl ?_
          | refine prun_q (od_ixm _ hT rfl rfl rfl rfl rfl rfl) rfl rfl ?_)
        refine prun_sp 53 rfl (fun h5 => ?_) (fun h5 => ?_)
        · repeat refine prun_step hT rfl ?_
          refine ret_ends (ends_flat rfl rfl ⟨?_, rfl⟩)
          rw [if_pos (fun hh => by have := (hh h4).1; omega)]; rfl
        have h5 : (cutW x s).length = x.fields.length + 2 := by omega
        obtain ⟨tx, htx⟩ := ex_get (l := cutW x s) (i := x.fields.length + 1) (by omega)
        have htl := cutW_lens x s tx (List.mem_of_getElem? htx)
        repeat refine prun_step hT rfl ?_
        refine prun_q (od_ixm (f := PV.str) (l := cutW x s) (x.fields.length + 1) hT rfl rfl rfl rfl rfl rfl) rfl rfl ?_
        repeat refine prun_step hT rfl ?_
        refine prun_callx (textOk_spec tx (by omega)) rfl rfl rfl rfl rfl ?_
        repeat refine prun_step hT rfl ?_
        refine prun_if rfl (fun h6 => ?_) (fun h6 => ?_)
        · repeat refine prun_step hT rfl ?_
          refine ret_ends (ends_flat rfl rfl ⟨?_, rfl⟩)
          rw [if_pos (fun hh => h6 (by have := (hh h4).2; rw [htx] at this; exact this))]; rfl
        · repeat refine prun_step hT rfl ?_
          refine prun_q (od_ixm (f := PV.str) (l := cutW x s) (x.fields.length + 1) hT rfl rfl rfl rfl rfl rfl) rfl rfl ?_
          repeat refine prun_step hT rfl ?_
          refine prun_q (od_slice_snap (l := 0) (m := x.fields.length + 1) hT rfl rfl rfl rfl rfl rfl ⟨_, _, rfl, by omega, by omega⟩ (by omega) (by omega)) rfl rfl ?_
          repeat refine prun_step hT rfl ?_
          refine prun_lp ⟨fun _ => ⟨h5, by rw [htx]; simpa using h6⟩, ⟨rfl, rfl, rfl, rfl, rfl, rfl, ?_, rfl, rfl, rfl, trivial⟩, ⟨?_, .inr rfl, rfl, .inr rfl, rfl, .inr rfl, trivial⟩⟩
          · rw [words8, if_pos h4]
            show PV.snap 1 (((strsP (cutW x s)).take (x.fields.length + 1)).drop 0) = _
            rw [List.drop_zero, strsP, strsP, List.map_take]
          · rw [start8, if_pos h4, htx]; rfl
      · have h4 : ¬ x.word = own := h4
        repeat refine prun_step hT rfl ?_
        refine prun_lp ⟨fun h => absurd h h4, ⟨rfl, rfl, rfl, rfl, rfl, rfl, ?_, rfl, rfl, rfl, trivial⟩, ⟨?_, .inr rfl, rfl, .inr rfl, rfl, .inr rfl, trivial⟩⟩
        · rw [words8, if_neg h4]; rfl
        · rw [start8, if_neg h4]; rfl
    have hwl := words8_len x s
    have hwsl : (strsP (words8 x s)).length = (words8 x s).length := by simp [strsP]
    rw [if_neg (by simpa using hok)]
    repeat refine prun_step hT rfl ?_
    refine prun_q (od_slice_snap (l := 1) (m := (words8 x s).length) hT rfl rfl rfl rfl rfl ⟨_, _, rfl, by omega, by omega⟩ hwsl.symm (by omega) (by omega)) rfl rfl ?_
    have htail : ((strsP (words8 x s)).take (words8 x s).length).drop 1 = strsP (words8 x s).tail := by
      rw [List.take_of_length_le (by omega), strsP, strsP, List.drop_one, List.map_tail]
    rw [htail]
    repeat refine prun_step hT rfl ?_
    refine prun_callx (naturals_spec (words8 x s).tail (by simp; omega) (fun w hw => by have := cutW_lens x s w (words8_sub x s w (List.mem_of_mem_tail hw)); omega)) rfl rfl rfl rfl rfl ?_
    have hnl := nats5_len (words8 x s).tail
    obtain ⟨ns, ob, hns⟩ : ∃ ns ob, nats5 (words8 x s).tail = (ns, ob) := ⟨_, _, rfl⟩
    rw [hns]
    rw [hns] at hnl
    simp only [List.length_tail] at hnl
    have hil : (intsP ns).length = ns.length := by simp [intsP]
    repeat refine prun_step hT rfl ?_
    refine prun_sp 78 rfl (fun h5 => ?_) (fun h5 => ?_)
    · repeat refine prun_step hT rfl ?_
      refine ret_ends (ends_flat rfl rfl ⟨?_, rfl⟩)
      rw [if_pos (.inl (by simpa using h5))]; rfl
    have h5 : ob = true := by simpa using h5
    subst h5
    repeat refine prun_step hT rfl ?_
    refine prun_if rfl (fun h6 => ?_) (fun h6 => ?_)
    · have h6 : ¬ ((intsP ns).length : Int) = (x.fields.length : Nat) := h6
      repeat refine prun_step hT rfl ?_
      refine ret_ends (ends_flat rfl rfl ⟨?_, rfl⟩)
      rw [if_pos (.inr (by simp only; omega))]; rfl
    have h6 : ¬ ¬ ((intsP ns).length : Int) = (x.fields.length : Nat) := h6
    have h6 : ns.length = x.fields.length := by omega
    rw [if_neg (by simp [h6])]
    repeat refine prun_step hT rfl ?_
    refine prun_loop (σ := Nat × Ev) (fun y => y.1 ≤ ns.length ∧ fill8 ns x.fields (start8 x s) = fill8 (ns.drop y.1) (x.fields.drop y.1) y.2)
      (fun y => [(2, .ptr 2 1 0 0), (5, .ptr 5 1 0 0), (8, .ptr 8 1 0 0), (87, .snap 1 (intsP ns)), (88, .int .i64 (ns.length : Nat)), (89, .int .i64 (y.1 : Nat))])
      (fun y => [(8, ⟨10, true, false, [y.2.pv]⟩), (5, ⟨3, true, false, [x.pv]⟩), (2, ⟨10, true, false, [Ev.none.pv]⟩)])
      (fun y => ns.length - y.1) (0, start8 x s) ⟨Nat.zero_le _, rfl⟩ ⟨rfl, rfl, rfl, rfl, rfl, rfl, rfl, rfl, by simp [Env.get, hil], rfl, rfl, rfl, trivial⟩ ⟨rfl, .inr rfl, rfl, .inr rfl, rfl, .inr rfl, trivial⟩ (fun _ => rfl) (fun y hy => ?_)
    obtain ⟨i, m⟩ := y
    obtain ⟨hi, hf⟩ := hy
    simp only at hi hf
    rw [hf]
    repeat refine prun_step hT rfl ?_
    refine prun_if rfl (fun h7 => ?_) (fun h7 => ?_)
    · have hlt : i < ns.length := by simp only at h7; omega
      obtain ⟨n, hn⟩ := ex_get hlt
      obtain ⟨c, hc⟩ := ex_get (show i < x.fields.length by omega)
      have hfd : x.fields.drop i = c :: x.fields.drop (i + 1) := drop_get hc
      rw [drop_get hn, fill8, hfd]
      simp only [List.drop_one, List.tail_cons, List.headD_cons]
      repeat refine prun_step hT rfl ?_
      refine prun_q (od_ixm (f := PV.int .i64) (l := ns) i hT rfl rfl rfl rfl rfl rfl) rfl rfl ?_
      repeat refine prun_step hT rfl ?_
      refine prun_if rfl (fun h8 => ?_) (fun h8 => ?_)
      · repeat refine prun_step hT rfl ?_
        refine ret_ends (ends_flat rfl rfl ⟨?_, rfl⟩)
        rw [if_pos (by omega)]; rfl
      · rw [if_neg (by omega)]
        repeat refine prun_step hT rfl ?_
        refine prun_q (od_ixs i hT rfl rfl rfl rfl) rfl rfl ?_
        refine prun_callr (G := [(8, ⟨10, true, false, [m.pv]⟩)]) (field_spec 8 ⟨10, true, false, [m.pv]⟩ c rfl (.inr rfl)) rfl rfl ⟨rfl, .inr rfl, trivial⟩ rfl rfl rfl ?_
        repeat refine prun_step hT rfl ?_
        refine prun_w 10 true false [(setF c n m).pv] (od_store (blk := ⟨10, true, false, [m.pv]⟩) (q := m.pv) (p := .int .i64 n) hT rfl rfl rfl rfl rfl rfl rfl rfl rfl (by simp [PV.cells]) rfl (by have := foff_le c; simp [PV.cells, Ev.pv]; omega) (fun h => by cases h)) (by rw [← splice_setF]; rfl) rfl rfl rfl ?_
        repeat (first | refine prun_q (od_ar rfl rfl rfl) rfl rfl ?_ | refine prun_step hT rfl ?_)
        exact prun_lp ⟨(i + 1, setF c n m), ⟨hlt, rfl⟩, by simp only; omega, ⟨rfl, rfl, rfl, rfl, rfl, rfl, rfl, rfl, rfl, rfl, rfl, rfl, trivial⟩, ⟨rfl, .inr rfl, rfl, .inr rfl, rfl, .inr rfl, trivial⟩⟩
    · have hge : i = ns.length := by simp only at h7; omega
      subst hge
      rw [List.drop_length, fill8]
      repeat refine prun_step hT rfl ?_
      exact ret_ends (ends_flat rfl rfl ⟨rfl, rfl⟩)
  · have hge : j = kinds.length := by simp only [kinds, List.length_cons, List.length_nil] at hj ⊢; omega
    subst hge
    rw [List.drop_length, readKinds]
    repeat refine prun_step hT rfl ?_
    exact ret_ends (ends_flat rfl rfl ⟨rfl, rfl⟩)

end Go.PMS
/- What impl.eventOf reads is what the reference reads. Plain Lean. -/
namespace Go.PMS
open Go Go.PM

/-! ### numbers -/
theorem valN_pos {c : UInt8} {w : Str} (h : ∀ x ∈ c :: w, isDig x = true) (hc : c ≠ 48) : 1 ≤ valN (c :: w) := by
  have key : ∀ (w : Str) (a : Nat), 1 ≤ a → 1 ≤ w.foldl (fun a c => a * 10 + (c.toNat - 48)) a := by
    intro w
    induction w with
    | nil => intro a h; exact h
    | cons d w ih => intro a h; rw [List.foldl_cons]; exact ih _ (by omega)
  unfold valN
  rw [List.foldl_cons]
  refine key w _ ?_
  have h1 := dig_bd (h c (by simp))
  have : c.toNat ≠ 48 := fun e => hc (UInt8.toNat_inj.1 (by simpa using e))
  omega

theorem digit_of {c : UInt8} (h : isDig c = true) : digit (c.toNat - 48) = c := by
  have h1 := dig_bd h
  apply UInt8.toNat_inj.1
  rw [digit_toNat (by omega)]
  omega

/-- A number without a nought ahead is written as it was. -/
theorem decN_valN : ∀ (n : Nat) (w : Str), w.length = n → w ≠ [] → (∀ x ∈ w, isDig x = true) → ¬ (w[0]? = some 48 ∧ 1 < w.length) → decN (valN w) = w := by
  intro n
  induction n using Nat.strongRecOn with
  | _ n ih =>
    intro w hn hne hd hz
    rcases List.eq_nil_or_concat w with rfl | ⟨u, c, rfl⟩
    · exact absurd rfl hne
    · have hc := hd c (by simp)
      have hb := dig_bd hc
      rw [List.concat_eq_append, valN_app]
      cases u with
      | nil =>
        rw [decN, if_pos (by simp [valN]; omega)]
        simp [valN, digit_of hc]
      | cons d v =>
        have hdv : ∀ x ∈ d :: v, isDig x = true := fun x hx => hd x (by simp at hx ⊢; rcases hx with h | h <;> simp [h])
        have hd0 : d ≠ 48 := by
          rintro rfl
          exact hz ⟨by simp, by simp⟩
        have hp := valN_pos hdv hd0
        have hrec := ih (d :: v).length (by simp at hn ⊢; omega) (d :: v) rfl (by simp) hdv (fun hh => hd0 (by simpa using hh.1))
        rw [decN, if_neg (by omega)]
        have e1 : (valN (d :: v) * 10 + (c.toNat - 48)) / 10 = valN (d :: v) := by omega
        have e2 : (valN (d :: v) * 10 + (c.toNat - 48)) % 10 = c.toNat - 48 := by omega
        rw [e1, e2, hrec, digit_of hc]

theorem dec0 {n : Int} (h : 0 ≤ n) (h0 : (dec n)[0]? = some 48) : (dec n).length = 1 := by
  rw [dec_nn h] at h0 ⊢
  generalize n.toNat = m at h0 ⊢
  have key : ∀ m : Nat, (decN m)[0]? = some 48 → m = 0 := by
    intro m
    induction m using Nat.strongRecOn with
    | _ m ih =>
      intro h
      rw [decN] at h
      split at h
      · rename_i hm
        have := digit_toNat hm
        have h2 : digit m = 48 := by simpa using h
        rw [h2] at this
        simp at this
        omega
      · rename_i hm
        have hne := decN_ne (m / 10)
        rw [List.getElem?_append_left (List.length_pos_iff.2 hne)] at h
        have := ih (m / 10) (by omega) h
        omega
  rw [key m h0, decN, if_pos (by omega)]
  rfl

theorem nat5_dec {n : Int} (h : R4 n) : nat5 (dec n) = (n, true) := by
  have hl1 : 1 ≤ (dec n).length := by rw [dec_nn h.1]; exact List.length_pos_iff.2 (decN_ne _)
  have hl2 : (dec n).length ≤ 4 := by rw [dec_nn h.1]; exact decN_len _ 4 (by have := h.2; omega) (by omega)
  rw [nat5, if_pos ⟨hl1, by omega, fun hh => by have := dec0 h.1 hh.1; omega, List.all_eq_true.2 (dec_dig h.1)⟩]
  rw [dec_nn h.1, valN_decN]
  have := h.1
  congr 1; omega

theorem nat5_inv {w : Str} (h : (nat5 w).2 = true) (h9 : (nat5 w).1 ≤ 9999) : R4 (nat5 w).1 ∧ w = dec (nat5 w).1 := by
  unfold nat5 at h h9 ⊢
  split at h
  · rename_i hc
    rw [if_pos hc] at h9 ⊢
    obtain ⟨h1, h2, h3, h4⟩ := hc
    refine ⟨⟨by simp, h9⟩, ?_⟩
    simp only
    rw [dec_nn (by simp), Int.toNat_natCast]
    exact (decN_valN _ w rfl (List.length_pos_iff.1 h1) (List.all_eq_true.1 h4) h3).symm
  · cases h

theorem nats5_dec {ns : List Int} (h : ∀ n ∈ ns, R4 n) : nats5 (ns.map dec) = (ns, true) := by
  unfold nats5
  rw [if_pos]
  · congr 1
    rw [List.map_map]
    conv => rhs; rw [← List.map_id ns]
    exact List.map_congr_left fun n hn => by simp [nat5_dec (h n hn)]
  · rw [List.all_eq_true]
    intro w hw
    obtain ⟨n, hn, rfl⟩ := List.mem_map.1 hw
    rw [nat5_dec (h n hn)]

theorem nats5_inv {ws : List Str} {ns : List Int} (h : nats5 ws = (ns, true)) (h9 : ∀ n ∈ ns, n ≤ 9999) : ws = ns.map dec ∧ ∀ n ∈ ns, R4 n := by
  unfold nats5 at h
  split at h
  · rename_i hc
    obtain rfl : (ws.map fun w => (nat5 w).1) = ns := by simpa using h
    rw [List.all_eq_true] at hc
    refine ⟨?_, fun n hn => ?_⟩
    · rw [List.map_map]
      conv => lhs; rw [← List.map_id ws]
      exact List.map_congr_left fun w hw => (nat5_inv (hc w hw) (h9 _ (List.mem_map.2 ⟨w, hw, rfl⟩))).2
    · obtain ⟨w, hw, rfl⟩ := List.mem_map.1 hn
      exact (nat5_inv (hc w hw) (h9 _ hn)).1
  · simp at h

theorem fill8_le : ∀ (ns : List Int) (fs : Str) (m e : Ev), fill8 ns fs m = (e, true) → ∀ n ∈ ns, n ≤ 9999
  | [], _, _, _, _ => by simp
  | k :: ks, fs, m, e, h => by
    rw [fill8] at h
    split at h
    · simp at h
    · intro n hn
      rcases List.mem_cons.1 hn with rfl | hn
      · omega
      · exact fill8_le ks _ _ e h n hn

/-! ### the first word decides -/
theorem cutN_head (c : UInt8) : ∀ (k : Nat) (s : Str), (1 ≤ k ∨ s = []) → (cutN c k s).headD [] = (splitAt c s).headD []
  | 0, s, h => by
    rcases h with h | rfl
    · omega
    · rfl
  | k + 1, [], _ => rfl
  | k + 1, x :: s, _ => by
    have ih := cutN_head c (k + 1) s (.inl (by omega))
    simp only [cutN, splitAt]
    split
    · rfl
    · cases h1 : cutN c (k + 1) s with
      | nil => exact absurd h1 (cutN_ne _ _ _)
      | cons v vs =>
        cases h2 : splitAt c s with
        | nil => exact absurd h2 (splitAt_ne _ _)
        | cons w ws => rw [h1, h2] at ih; simp at ih; simp [ih]

theorem cutW_head (x : Lk) (s : Str) : (cutW x s).headD [] = (splitAt 32 s).headD [] := by
  unfold cutW
  split
  · refine cutN_head 32 _ s ?_
    cases s with
    | nil => exact .inr rfl
    | cons c s => left; simp
  · rfl

theorem readKinds_none {s : Str} : ∀ (xs : List Lk), (∀ x ∈ xs, x.word ≠ (splitAt 32 s).headD []) → readKinds xs s = (Ev.none, false)
  | [], _ => rfl
  | x :: xs, h => by
    rw [readKinds, kind8, cutW_head, if_pos (Ne.symm (h x (by simp)))]
    exact readKinds_none xs fun y hy => h y (by simp [hy])

theorem readKinds_at {s : Str} {x : Lk} (hw : x.word = (splitAt 32 s).headD []) : ∀ (xs : List Lk), x ∈ xs → (∀ y ∈ xs, y.word = x.word → y = x) → ∃ r, kind8 x s = some r ∧ readKinds xs s = r
  | [], h, _ => by simp at h
  | y :: xs, h, hu => by
    by_cases hy : y.word = x.word
    · obtain rfl := hu y (by simp) hy
      have : ∃ r, kind8 y s = some r := by
        unfold kind8
        rw [cutW_head, if_neg (by simp [hw])]
        split
        · exact ⟨_, rfl⟩
        · split <;> exact ⟨_, rfl⟩
      obtain ⟨r, hr⟩ := this
      exact ⟨r, hr, by rw [readKinds, hr]⟩
    · have h0 : kind8 y s = none := by rw [kind8, cutW_head, if_pos (by rw [← hw]; exact fun e => hy e.symm)]
      obtain ⟨r, h1, h2⟩ := readKinds_at hw xs ((List.mem_cons.1 h).resolve_left fun e => hy (by rw [e])) fun z hz => hu z (by simp [hz])
      exact ⟨r, h1, by rw [readKinds, h0]; exact h2⟩

theorem kinds_words : ∀ x ∈ kinds, ∀ y ∈ kinds, y.word = x.word → y = x := by
  have key : ∀ x ∈ kinds, ∀ y ∈ kinds, y.word = x.word → (y.kind = x.kind ∧ y.fields = x.fields) := by decide
  intro x hx y hy h
  obtain ⟨h1, h2⟩ := key x hx y hy h
  cases x; cases y; simp_all

theorem event8_at {s : Str} {x : Lk} (hx : x ∈ kinds) (hw : x.word = (splitAt 32 s).headD []) : ∃ r, kind8 x s = some r ∧ event8 s = r :=
  readKinds_at hw kinds hx (kinds_words x hx)

/-! ### cutting behind the word -/
theorem word1_ne {r : Str} (h : (word1 r).2 ≠ []) : r = (word1 r).1 ++ 32 :: (word1 r).2 := by
  unfold word1 at h ⊢
  simp only at h ⊢
  have h1 := List.takeWhile_append_dropWhile (p := fun x : UInt8 => x != 32) (l := r)
  cases hd : r.dropWhile (fun x : UInt8 => x != 32) with
  | nil => rw [hd] at h; simp at h
  | cons c t =>
    have hc : c = 32 := by
      have := List.head?_dropWhile_not (fun x : UInt8 => x != 32) r
      rw [hd] at this
      simpa using this
    rw [hd] at h1
    subst hc
    simpa using h1.symm

theorem cutN_word {w rest : Str} (hw : ∀ c ∈ w, c ≠ 32) (k : Nat) : cutN 32 (k + 1) (w ++ 32 :: rest) = w :: cutN 32 k rest := by
  induction w with
  | nil => simp [cutN]
  | cons c w ih =>
    have hc : c ≠ 32 := hw c (by simp)
    rw [List.cons_append, cutN, if_neg hc, ih fun x hx => hw x (by simp [hx])]

theorem cutN_two {k : Nat} {r : Str} (h : 2 ≤ (cutN 32 (k + 1) r).length) : ∃ w rest, (∀ c ∈ w, c ≠ 32) ∧ r = w ++ 32 :: rest ∧ cutN 32 (k + 1) r = w :: cutN 32 k rest := by
  induction r with
  | nil => simp [cutN] at h
  | cons c r ih =>
    by_cases hc : c = 32
    · subst hc
      exact ⟨[], r, by simp, rfl, by simp [cutN]⟩
    · have e : cutN 32 (k + 1) (c :: r) = match cutN 32 (k + 1) r with | w :: ws => (c :: w) :: ws | [] => [[c]] := by
        first
          | (rw [cutN, if_neg hc]; done)
          | (rw [cutN, if_neg hc]; cases cutN 32 (k + 1) r <;> rfl)
      rw [e] at h ⊢
      cases hs : cutN 32 (k + 1) r with
      | nil => exact absurd hs (cutN_ne _ _ _)
      | cons v vs =>
        rw [hs] at h
        obtain ⟨w, rest, h1, h2, h3⟩ := ih (by rw [hs]; simpa using h)
        rw [hs] at h3
        obtain ⟨rfl, rfl⟩ : v = w ∧ vs = cutN 32 k rest := by simpa using h3
        refine ⟨c :: v, rest, fun x hx => ?_, by rw [h2]; rfl, rfl⟩
        rcases List.mem_cons.1 hx with rfl | hx
        · exact hc
        · exact h1 x hx

theorem cutN_le (c : UInt8) : ∀ (k : Nat) (s : Str), (cutN c k s).length ≤ k + 1
  | 0, s => by simp [cutN]
  | k + 1, [] => by simp [cutN]
  | k + 1, x :: s => by
    rw [cutN]
    split
    · have := cutN_le c k s
      simp; omega
    · have := cutN_le c (k + 1) s
      cases h : cutN c (k + 1) s with
      | nil => simp
      | cons w ws => rw [h] at this; simpa using this

theorem cutW_own {s : Str} (h : (cutW ⟨own, 1, [97, 116, 117]⟩ s).length = 5) : cutW ⟨own, 1, [97, 116, 117]⟩ s = cutN 32 4 s := by
  unfold cutW at h ⊢
  rw [if_pos rfl] at h ⊢
  have := cutN_le 32 (min ([97, 116, 117].length + 2) (s.length + 1) - 1) s
  have e : min (([97, 116, 117] : Str).length + 2) (s.length + 1) - 1 = 4 := by
    simp at h this ⊢
    omega
  show cutN 32 (min (([97, 116, 117] : Str).length + 2) (s.length + 1) - 1) s = _
  rw [e]

/-- A line of what a keeper takes in. -/
theorem kind8_own {s : Str} {e : Ev} (h0 : own = (splitAt 32 s).headD []) (h : kind8 ⟨own, 1, [97, 116, 117]⟩ s = some (e, true)) : read44 s = (e, true) := by
  unfold kind8 at h
  rw [cutW_head, if_neg (by rw [← h0]; simp)] at h
  split at h
  · simp at h
  rename_i h5
  have h6 : okOwn ⟨own, 1, [97, 116, 117]⟩ s := Classical.not_not.1 h5
  obtain ⟨h1, h2⟩ : (cutW ⟨own, 1, [97, 116, 117]⟩ s).length = 5 ∧ textOk (((cutW ⟨own, 1, [97, 116, 117]⟩ s)[4]?).getD []) = true := h6 rfl
  have hc := cutW_own h1
  have hh := cutW_head ⟨own, 1, [97, 116, 117]⟩ s
  rw [← h0] at hh
  split at h
  · simp at h
  rename_i h3
  obtain ⟨ns, hns⟩ : ∃ ns, nats5 (words8 ⟨own, 1, [97, 116, 117]⟩ s).tail = (ns, true) := ⟨_, Prod.ext rfl (by
    cases hb : (nats5 (words8 ⟨own, 1, [97, 116, 117]⟩ s).tail).2
    · exact absurd (.inl hb) h3
    · rfl)⟩
  rw [hns] at h h3
  have hl : ns.length = 3 := by
    rcases Nat.decEq ns.length 3 with hh | hh
    · exact absurd (.inr hh) h3
    · exact hh
  obtain ⟨a, t, u, rfl⟩ := len3 hl
  have h7 := Option.some.inj h
  have h9 := fill8_le _ _ _ _ h7
  replace hns : nats5 ((cutW ⟨own, 1, [97, 116, 117]⟩ s).take 4).tail = ([a, t, u], true) := hns
  replace h : fill8 [a, t, u] [97, 116, 117] { made8 ⟨own, 1, [97, 116, 117]⟩ with text := ((cutW ⟨own, 1, [97, 116, 117]⟩ s)[4]?).getD [] } = (e, true) := h7
  rw [hc] at h1 h2 hh hns h
  clear h0 hc h3 h5 h6 h7
  obtain ⟨w1, r1, a1, rfl, c1⟩ := cutN_two (k := 3) (r := s) (by show 2 ≤ (cutN 32 4 s).length; omega)
  rw [c1] at h1 h2 hh hns h
  obtain ⟨w2, r2, a2, rfl, c2⟩ := cutN_two (k := 2) (r := r1) (by simp only [List.length_cons] at h1; show 2 ≤ (cutN 32 3 r1).length; omega)
  rw [c2] at h1 h2 hh hns h
  obtain ⟨w3, r3, a3, rfl, c3⟩ := cutN_two (k := 1) (r := r2) (by simp only [List.length_cons] at h1; show 2 ≤ (cutN 32 2 r2).length; omega)
  rw [c3] at h1 h2 hh hns h
  obtain ⟨w4, r4, a4, rfl, c4⟩ := cutN_two (k := 0) (r := r3) (by simp only [List.length_cons] at h1; show 2 ≤ (cutN 32 1 r3).length; omega)
  rw [c4] at h1 h2 hh hns h
  simp only [cutN, List.headD_cons] at hh
  subst hh
  obtain ⟨q1, q2⟩ := nats5_inv hns h9
  simp [cutN] at q1 h2 h
  obtain ⟨rfl, rfl, rfl⟩ := q1
  have e1 : own ++ 32 :: (dec a ++ 32 :: (dec t ++ 32 :: (dec u ++ 32 :: r4))) = ln own [a, t, u] ++ 32 :: r4 := by simp [ln, tailOf]
  have ha := q2 a (by simp)
  have ht := q2 t (by simp)
  have hu := q2 u (by simp)
  rw [e1, read_own ha ht hu h2]
  have g1 : ¬ 9999 < a := by have := ha.2; omega
  have g2 : ¬ 9999 < t := by have := ht.2; omega
  have g3 : ¬ 9999 < u := by have := hu.2; omega
  simp [fill8, g1, g2, g3, made8, setF, own, dbl] at h
  rw [← h]

/-- A line of any other kind. -/
theorem kind8_ln {s : Str} {e : Ev} {x : Lk} (ho : x.word ≠ own) (h0 : x.word = (splitAt 32 s).headD []) (h : kind8 x s = some (e, true)) :
    ∃ ns, s = ln x.word ns ∧ (∀ n ∈ ns, R4 n) ∧ ns.length = x.fields.length ∧ fill8 ns x.fields (made8 x) = (e, true) := by
  unfold kind8 at h
  rw [cutW_head, if_neg (by rw [← h0]; simp)] at h
  have hok : okOwn x s := fun h => absurd h ho
  rw [if_neg (not_not_intro hok), words8, if_neg ho, cutW, if_neg ho, start8, if_neg ho] at h
  split at h
  · simp at h
  rename_i h3
  obtain ⟨ns, hns⟩ : ∃ ns, nats5 (splitAt 32 s).tail = (ns, true) := ⟨_, Prod.ext rfl (by
    cases hb : (nats5 (splitAt 32 s).tail).2
    · exact absurd (.inl hb) h3
    · rfl)⟩
  rw [hns] at h h3
  have hl : ns.length = x.fields.length := by
    rcases Nat.decEq ns.length x.fields.length with hh | hh
    · exact absurd (.inr hh) h3
    · exact hh
  have h := Option.some.inj h
  simp only at h
  obtain ⟨q1, q2⟩ := nats5_inv hns (fill8_le _ _ _ _ h)
  refine ⟨ns, ?_, q2, hl, h⟩
  have hj := joinW_split s
  cases hs : splitAt 32 s with
  | nil => exact absurd hs (splitAt_ne _ _)
  | cons w ws =>
    rw [hs] at q1 h0 hj
    simp at q1 h0
    rw [q1, ← h0, joinW_ln] at hj
    exact hj.symm

theorem kind8_ln' {e : Ev} {x : Lk} {ns : List Int} (hw : ∀ c ∈ x.word, c ≠ 32) (ho : x.word ≠ own) (hn : ∀ n ∈ ns, R4 n) (hl : ns.length = x.fields.length) (h : fill8 ns x.fields (made8 x) = (e, true)) :
    kind8 x (ln x.word ns) = some (e, true) := by
  have hs := splitAt_ln hw ns hn
  have hok : okOwn x (ln x.word ns) := fun h => absurd h ho
  rw [kind8, cutW_head, if_neg (by rw [hs]; simp), if_neg (not_not_intro hok), words8, if_neg ho, cutW, if_neg ho, start8, if_neg ho, hs, List.tail_cons, nats5_dec hn, if_neg (by simp [hl])]
  exact congrArg some h

theorem kind8_own' {a t u : Int} {tx : Str} (ha : R4 a) (ht : R4 t) (hu : R4 u) (h : textOk tx = true) : kind8 ⟨own, 1, [97, 116, 117]⟩ (ln own [a, t, u] ++ 32 :: tx) = some (⟨1, a, 0, 0, 0, 0, 0, t, u, tx⟩, true) := by
  have e1 : ln own [a, t, u] ++ 32 :: tx = own ++ 32 :: (dec a ++ 32 :: (dec t ++ 32 :: (dec u ++ 32 :: tx))) := by simp [ln, tailOf]
  rw [e1]
  have hc : cutW ⟨own, 1, [97, 116, 117]⟩ (own ++ 32 :: (dec a ++ 32 :: (dec t ++ 32 :: (dec u ++ 32 :: tx)))) = [own, dec a, dec t, dec u, tx] := by
    unfold cutW
    rw [if_pos rfl]
    have e : min (([97, 116, 117] : Str).length + 2) ((own ++ 32 :: (dec a ++ 32 :: (dec t ++ 32 :: (dec u ++ 32 :: tx)))).length + 1) - 1 = 4 := by
      simp [own]
    rw [show cutN 32 (min ((⟨own, 1, [97, 116, 117]⟩ : Lk).fields.length + 2) ((own ++ 32 :: (dec a ++ 32 :: (dec t ++ 32 :: (dec u ++ 32 :: tx)))).length + 1) - 1) = cutN 32 4 from congrArg _ e]
    rw [cutN_word (by decide), cutN_word (dec_nosp ha.1), cutN_word (dec_nosp ht.1), cutN_word (dec_nosp hu.1), cutN]
  have hok : okOwn ⟨own, 1, [97, 116, 117]⟩ (own ++ 32 :: (dec a ++ 32 :: (dec t ++ 32 :: (dec u ++ 32 :: tx)))) := fun _ => by rw [hc]; exact ⟨rfl, h⟩
  have hn : nats5 [dec a, dec t, dec u] = ([a, t, u], true) := nats5_dec (ns := [a, t, u]) (by simp; exact ⟨ha, ht, hu⟩)
  rw [kind8, hc, if_neg (by simp), if_neg (not_not_intro hok), words8, if_pos rfl, start8, if_pos rfl, hc]
  simp only [List.length_cons, List.length_nil, List.take, List.tail_cons, hn]
  have g1 : ¬ 9999 < a := by have := ha.2; omega
  have g2 : ¬ 9999 < t := by have := ht.2; omega
  have g3 : ¬ 9999 < u := by have := hu.2; omega
  simp [fill8, g1, g2, g3, made8, setF, own, dbl]

theorem kind8_read {s : Str} {e : Ev} : ∀ x ∈ kinds, x.word = (splitAt 32 s).headD [] → kind8 x s = some (e, true) → read44 s = (e, true) := by
  refine kinds_cases (fun h1 h2 => kind8_own h1 h2) ?_
  intro x hx h0 h
  obtain ⟨hw, ho⟩ : (∀ c ∈ x.word, c ≠ 32) ∧ x.word ≠ own := by
    have key : ∀ x ∈ kinds.tail, (∀ c ∈ x.word, c ≠ 32) ∧ x.word ≠ own := by decide
    exact key x hx
  obtain ⟨ns, rfl, hn, hl, hf⟩ := kind8_ln ho h0 h
  rw [read_ln hw ho hn]
  simp only [kinds, List.tail_cons, List.mem_cons, List.not_mem_nil, or_false] at hx
  clear h0 h hw ho
  have hn' : ∀ n ∈ ns, ¬ 9999 < n := fun n h => by have := (hn n h).2; omega
  rcases hx with rfl | rfl | rfl | rfl | rfl | rfl | rfl | rfl | rfl | rfl | rfl | rfl | rfl
  all_goals
    first
      | (obtain ⟨a, rfl⟩ := len1 hl)
      | (obtain ⟨a, b, rfl⟩ := len2 hl)
      | (obtain ⟨a, b, c, rfl⟩ := len3 hl)
      | (obtain ⟨a, b, c, d, rfl⟩ := len4 hl)
    simp only [List.forall_mem_cons] at hn'
    simp [fill8, hn', made8, setF, dbl] at hf
    rw [← hf]
    simp [look44, wordAt, words, make44]

theorem read_kind8 {s : Str} {e : Ev} : ∀ x ∈ kinds, lineOf e x = (s, true) → x.word = (splitAt 32 s).headD [] ∧ kind8 x s = some (e, true) := by
  refine kinds_cases ?_ ?_
  · intro h
    obtain ⟨a, t, u, tx, ha, ht, hu, hx, rfl, rfl⟩ := lineOf_own.1 h
    refine ⟨?_, kind8_own' ha ht hu hx⟩
    have e1 : ln own [a, t, u] ++ 32 :: tx = own ++ 32 :: (dec a ++ 32 :: (dec t ++ 32 :: (dec u ++ 32 :: tx))) := by simp [ln, tailOf]
    rw [e1, splitAt_word (by decide)]
    rfl
  · intro x hx h
    obtain ⟨hw, ho⟩ : (∀ c ∈ x.word, c ≠ 32) ∧ x.word ≠ own := by
      have key : ∀ x ∈ kinds.tail, (∀ c ∈ x.word, c ≠ 32) ∧ x.word ≠ own := by decide
      exact key x hx
    obtain ⟨h1, rfl, h3⟩ := (lineOf_ln ho).1 h
    have hn : ∀ n ∈ x.fields.map (fun c => getF c e), R4 n := by
      intro n hn
      obtain ⟨c, hc, rfl⟩ := List.mem_map.1 hn
      exact h1 c hc
    refine ⟨by rw [splitAt_ln hw _ hn]; rfl, kind8_ln' hw ho hn (by simp) ?_⟩
    simp only [kinds, List.tail_cons, List.mem_cons, List.not_mem_nil, or_false] at hx
    clear h hw ho
    obtain ⟨k, a, f, n0, w, m, kp, t, u, tx⟩ := e
    have hn' := fun n (h : n ∈ x.fields.map (fun c => getF c ⟨k, a, f, n0, w, m, kp, t, u, tx⟩)) => (show ¬ 9999 < n by have := (hn n h).2; omega)
    rcases hx with rfl | rfl | rfl | rfl | rfl | rfl | rfl | rfl | rfl | rfl | rfl | rfl | rfl
    all_goals
      simp [setF, getF, dbl] at h3 hn'
      repeat (obtain ⟨h4, h3⟩ := h3; subst h4)
      subst h3
      simp only [List.map_cons, List.map_nil, fill8, getF, List.drop, List.headD_cons, made8, setF]
      simp [dbl]
      first | done | omega | (repeat rw [if_neg (by omega)])

/-- What is read here is what the reference reads. -/
theorem event8_read (s : Str) (e : Ev) : event8 s = (e, true) ↔ read44 s = (e, true) := by
  constructor
  · intro h
    by_cases hex : ∃ x ∈ kinds, x.word = (splitAt 32 s).headD []
    · obtain ⟨x, hx, hw⟩ := hex
      obtain ⟨r, h1, h2⟩ := event8_at hx hw
      rw [← h2, h] at h1
      exact kind8_read x hx hw h1
    · rw [event8, readKinds_none kinds fun x hx hw => hex ⟨x, hx, hw⟩] at h
      simp at h
  · intro h
    obtain ⟨x, hx, hl⟩ := read_lineOf h
    obtain ⟨hw, hk⟩ := read_kind8 x hx hl
    obtain ⟨r, h1, h2⟩ := event8_at hx hw
    rw [hk] at h1
    rw [h2, ← Option.some.inj h1]

end Go.PMS
/- Reading whole: impl.copied, spec.RiverRead, impl.RiverRead; the marks. -/
namespace Go.PMS
open Go Go.PM Go.Proofs Go.RowKit
variable {W : World} {gs : Nat}
set_option maxRecDepth 20000

/-- Every line read, up to the first that cannot be. -/
def all44 : Nat → List Ev → List Str → List Ev × Int
  | _, out, [] => (out, 0)
  | i, out, w :: ws => if w = [] then all44 (i + 1) out ws else if (read44 w).2 = false then ([], ((i + 1 : Nat) : Int)) else all44 (i + 1) (out ++ [(read44 w).1]) ws
def readAll (s : Str) : List Ev × Int := if 60000 < s.length then ([], -1) else all44 0 [] (splitAt 10 s)

theorem event8_2 (s : Str) : (event8 s).2 = (read44 s).2 := by
  cases h : (event8 s).2 with
  | true =>
    have := (event8_read s (event8 s).1).1 (Prod.ext rfl h)
    rw [this]
  | false =>
    cases h2 : (read44 s).2 with
    | false => rfl
    | true =>
      have := (event8_read s (read44 s).1).2 (Prod.ext rfl h2)
      rw [this] at h
      cases h

theorem event8_1 {s : Str} (h : (read44 s).2 = true) : (event8 s).1 = (read44 s).1 := by
  have := (event8_read s (read44 s).1).2 (Prod.ext rfl h)
  rw [this]

theorem vw_own {H G : Heap} {id l0 off len : Nat} {b : Blk} (h2 : G.get id = some b) : vw H G (.sref id l0 off len) (.sref id l0 off len) := by
  simp [vw, h2]

theorem copied_spec (l : List Ev) (hl : l.length ≤ 1048576) : PSpec (bs W gs) n_impl_copied_impl_RiverEvent [.snap 10 (l.map Ev.pv)] [] (fun r H => r = .sref 2 l.length 0 l.length ∧ H = [(2, ⟨10, true, true, l.map Ev.pv⟩)]) := by
  refine pspec_intro (fn := b_impl_copied_impl_RiverEvent) (bs_good W gs) rfl rfl rfl (Nat.le_of_ble_eq_true rfl) fun s0 _ => ?_
  have hT := bs_good W gs
  repeat refine prun_step hT rfl ?_
  refine prun_if rfl (fun h => ?_) (fun h => ?_)
  · have h0 : l = [] := List.length_eq_zero_iff.1 (by simp at h; simpa using h)
    subst h0
    repeat refine prun_step hT rfl ?_
    refine prun_ghost 2 2 10 rfl rfl ?_
    exact ret_ends ⟨_, [.sref 2 0 0 0], [(2, ⟨10, true, true, []⟩)], rfl, vws_cons (vw_own rfl) vws_nil, ⟨rfl, .inl rfl, trivial⟩, rfl, rfl, rfl⟩
  · repeat refine prun_step hT rfl ?_
    refine prun_n 10 true true (List.replicate l.length zEv) (od_make 2 (kx := .i64) (ky := .i64) (n := (l.length : Nat)) (bs_good W gs) rfl rfl rfl (by simp) rfl (.inl rfl) (by simp) rfl (by simp [Env.ev, Env.get]) (by simp [Env.ev, Env.get]) (by omega) (by simp; omega) rfl) rfl rfl rfl ?_
    repeat refine prun_step hT rfl ?_
    refine prun_w 10 true true (l.map Ev.pv) (od_copy (xs := l.map Ev.pv) (bs_good W gs) rfl rfl rfl rfl rfl rfl rfl rfl rfl (by simp) rfl (.snap rfl)) (by simp [List.take_of_length_le]) rfl rfl rfl ?_
    repeat refine prun_step hT rfl ?_
    exact ret_ends ⟨_, [.sref 2 l.length 0 l.length], [(2, ⟨10, true, true, l.map Ev.pv⟩)], rfl, vws_cons (vw_own rfl) vws_nil, ⟨rfl, .inl rfl, trivial⟩, rfl, rfl, rfl⟩

theorem splitAt_each (a : UInt8) {s w : Str} (h : w ∈ splitAt a s) : w.length ≤ s.length := splitAt_lens a s w h

set_option maxHeartbeats 4000000 in
theorem specRiverRead_spec (s : Str) (hs : s.length ≤ 1048576) : PSpec (bs W gs) n_spec_RiverRead [.str s] [] (fun r H => r = .tup [.snap 10 ((readAll s).1.map Ev.pv), .int .i64 (readAll s).2] ∧ H = []) := by
  refine pspec_intro (fn := b_spec_RiverRead) (bs_good W gs) rfl rfl rfl (Nat.le_of_ble_eq_true rfl) fun s0 _ => ?_
  have hT := bs_good W gs
  repeat refine prun_step hT rfl ?_
  refine prun_if rfl (fun h => ?_) (fun h => ?_)
  · repeat refine prun_step hT rfl ?_
    refine ret_ends ⟨_, [.snap 10 [], .int .i64 (-1)], [], rfl, vws_cons (vw_sref rfl rfl) (vws_cons (vw_flat rfl) vws_nil), trivial, rfl, ?_, rfl⟩
    rw [readAll, if_pos (by omega)]; rfl
  rw [readAll, if_neg (by omega)]
  repeat refine prun_step hT rfl ?_
  refine prun_callx (l44Split_spec s 10 (by omega)) rfl rfl rfl rfl rfl ?_
  repeat refine prun_step hT rfl ?_
  have hwl := splitAt_len 10 s
  have hwe : ∀ w ∈ splitAt 10 s, w.length ≤ s.length := fun w hw => splitAt_each 10 hw
  generalize splitAt 10 s = ws at hwl hwe ⊢
  refine prun_loop (σ := Nat × List Ev) (fun y => y.1 ≤ ws.length ∧ y.2.length ≤ y.1 ∧ all44 0 [] ws = all44 y.1 y.2 (ws.drop y.1))
    (fun y => [(4, .sref 10 0 0 0), (5, .sref 15 y.2.length 0 y.2.length), (6, .snap 1 (strsP ws)), (7, .int .i64 (y.1 : Nat))])
    (fun y => [(15, ⟨10, true, true, y.2.map Ev.pv⟩), (10, ⟨10, true, true, []⟩)])
    (fun y => ws.length - y.1) (0, []) ⟨Nat.zero_le _, Nat.le_refl _, rfl⟩ ⟨rfl, rfl, rfl, rfl, rfl, rfl, rfl, rfl, trivial⟩ ⟨rfl, .inl rfl, rfl, .inl rfl, trivial⟩ (fun _ => rfl) (fun y hy => ?_)
  obtain ⟨i, out⟩ := y
  obtain ⟨hi, ho, he⟩ := hy
  simp only at hi ho he
  rw [he]
  repeat refine prun_step hT rfl ?_
  refine prun_if rfl (fun h => ?_) (fun h => ?_)
  · have hlt : i < ws.length := by simp [strsP] at h; omega
    obtain ⟨w, hw⟩ := ex_get hlt
    have hwm := hwe w (List.mem_of_getElem? hw)
    rw [drop_get hw, all44]
    repeat refine prun_step hT rfl ?_
    refine prun_q (od_ixm (f := PV.str) (l := ws) i hT rfl rfl rfl rfl rfl rfl) rfl rfl ?_
    repeat refine prun_step hT rfl ?_
    refine prun_if rfl (fun h2 => ?_) (fun h2 => ?_)
    · have h2 : w = [] := h2
      rw [if_pos h2]
      repeat refine prun_step hT rfl ?_
      rw [wrap64 (n := (i : Int) + 1) (by omega) (by omega)]
      exact prun_lp ⟨(i + 1, out), ⟨hlt, by simp only; omega, rfl⟩, by simp only; omega, ⟨rfl, rfl, rfl, rfl, rfl, rfl, rfl, rfl, trivial⟩, ⟨rfl, .inl rfl, rfl, .inl rfl, trivial⟩⟩
    · have h2 : ¬ w = [] := h2
      rw [if_neg h2]
      repeat refine prun_step hT rfl ?_
      refine prun_q (od_ixm (f := PV.str) (l := ws) i hT rfl rfl rfl rfl rfl rfl) rfl rfl ?_
      repeat refine prun_step hT rfl ?_
      refine prun_callx (l44Read_spec w (by omega)) rfl rfl rfl rfl rfl ?_
      repeat refine prun_step hT rfl ?_
      refine prun_if rfl (fun h3 => ?_) (fun h3 => ?_)
      · repeat refine prun_step hT rfl ?_
        rw [wrap64 (n := (i : Int) + 1) (by omega) (by omega)]
        refine ret_ends ⟨_, [.snap 10 [], .int .i64 ((i + 1 : Nat) : Int)], [], rfl, vws_cons (vw_sref rfl rfl) (vws_cons (vw_flat rfl) vws_nil), trivial, rfl, ?_, rfl⟩
        rw [if_pos (by simpa using h3)]; rfl
      · rw [if_neg (by simpa using h3)]
        repeat refine prun_step hT rfl ?_
        refine prun_app1 hT rfl rfl rfl rfl rfl (by simp) rfl rfl rfl rfl rfl (by simp) rfl (by simp; omega) rfl rfl ?_
        repeat refine prun_step hT rfl ?_
        rw [wrap64 (n := (i : Int) + 1) (by omega) (by omega)]
        refine prun_lp ⟨(i + 1, out ++ [(read44 w).1]), ⟨hlt, by simp; omega, rfl⟩, by simp only; omega, ⟨rfl, rfl, ?_, rfl, rfl, rfl, rfl, rfl, trivial⟩, ⟨?_, .inl rfl, rfl, .inl rfl, trivial⟩⟩
        · simp [Env.get]
        · simp [updK, Heap.get]; rfl
  · have hge : i = ws.length := by simp [strsP] at h; omega
    subst hge
    rw [List.drop_length, all44]
    repeat refine prun_step hT rfl ?_
    exact ret_ends ⟨_, _, [], rfl, vws_cons (vw_sref rfl (by simp)) (vws_cons (vw_flat rfl) vws_nil), trivial, rfl, rfl, rfl⟩

set_option maxHeartbeats 4000000 in
theorem implRiverRead_spec (s : Str) (hs : s.length ≤ 1048576) (hm : ∀ t : St, t.ok (bs W gs) → ∃ m, t.w.cell? ⟨0, 0, none⟩ = some (.int .i64 m)) :
    PSpec (bs W gs) n_impl_RiverRead [.str s] [] (fun r H => r = .tup [.sref 2 (readAll s).1.length 0 (readAll s).1.length, .int .i64 (readAll s).2] ∧ H = [(2, ⟨10, true, true, (readAll s).1.map Ev.pv⟩)]) := by
  refine pspec_intro (fn := b_impl_RiverRead) (bs_good W gs) rfl rfl rfl (Nat.le_of_ble_eq_true rfl) fun s0 _ => ?_
  have hT := bs_good W gs
  repeat refine prun_step hT rfl ?_
  refine prun_if rfl (fun h => ?_) (fun h => ?_)
  · repeat refine prun_step hT rfl ?_
    rw [readAll, if_pos (by omega)]
    refine prun_ghost 2 2 10 rfl rfl ?_
    exact ret_ends ⟨_, [.sref 2 0 0 0, .int .i64 (-1)], [(2, ⟨10, true, true, []⟩)], rfl, vws_cons (vw_own rfl) (vws_cons (vw_flat rfl) vws_nil), ⟨rfl, .inl rfl, trivial⟩, rfl, rfl, rfl⟩
  rw [readAll, if_neg (by omega)]
  repeat refine prun_step hT rfl ?_
  refine prun_callx (Split_spec 10 s (by omega) hm) rfl rfl rfl rfl rfl ?_
  repeat refine prun_step hT rfl ?_
  refine prun_ghost 4 4 10 rfl rfl ?_
  have hwl := splitAt_len 10 s
  have hwe : ∀ w ∈ splitAt 10 s, w.length ≤ s.length := fun w hw => splitAt_each 10 hw
  generalize splitAt 10 s = ws at hwl hwe ⊢
  have hsl : (strsP ws).length = ws.length := by simp [strsP]
  refine prun_loop (σ := Nat × List Ev) (fun y => y.1 ≤ ws.length ∧ y.2.length ≤ y.1 ∧ all44 0 [] ws = all44 y.1 y.2 (ws.drop y.1))
    (fun y => [(4, .sref 4 y.2.length 0 y.2.length), (13, .snap 1 (strsP ws)), (14, .int .i64 (ws.length : Nat)), (15, .int .i64 (y.1 : Nat))])
    (fun y => [(4, ⟨10, true, true, y.2.map Ev.pv⟩)])
    (fun y => ws.length - y.1) (0, []) ⟨Nat.zero_le _, Nat.le_refl _, rfl⟩ ⟨rfl, rfl, rfl, rfl, by simp [Env.get, hsl], rfl, rfl, rfl, trivial⟩ ⟨rfl, .inl rfl, trivial⟩ (fun _ => rfl) (fun y hy => ?_)
  obtain ⟨i, out⟩ := y
  obtain ⟨hi, ho, he⟩ := hy
  simp only at hi ho he
  rw [he]
  repeat refine prun_step hT rfl ?_
  refine prun_if rfl (fun h => ?_) (fun h => ?_)
  · have hlt : i < ws.length := by simp only at h; omega
    obtain ⟨w, hw⟩ := ex_get hlt
    have hwm := hwe w (List.mem_of_getElem? hw)
    rw [drop_get hw, all44]
    repeat refine prun_step hT rfl ?_
    refine prun_q (od_ixm (f := PV.str) (l := ws) i hT rfl rfl rfl rfl rfl rfl) rfl rfl ?_
    repeat refine prun_step hT rfl ?_
    refine prun_if rfl (fun h2 => ?_) (fun h2 => ?_)
    · have h2 : w = [] := h2
      rw [if_pos h2]
      repeat refine prun_step hT rfl ?_
      rw [wrap64 (n := (i : Int) + 1) (by omega) (by omega)]
      exact prun_lp ⟨(i + 1, out), ⟨hlt, by simp only; omega, rfl⟩, by simp only; omega, ⟨rfl, rfl, rfl, rfl, rfl, rfl, rfl, rfl, trivial⟩, ⟨rfl, .inl rfl, trivial⟩⟩
    · have h2 : ¬ w = [] := h2
      rw [if_neg h2]
      repeat refine prun_step hT rfl ?_
      refine prun_callx (eventOf_spec w (by omega) hm) rfl rfl rfl rfl rfl ?_
      rw [event8_2]
      repeat refine prun_step hT rfl ?_
      refine prun_if rfl (fun h3 => ?_) (fun h3 => ?_)
      · repeat refine prun_step hT rfl ?_
        rw [wrap64 (n := (i : Int) + 1) (by omega) (by omega), if_pos (by simpa using h3)]
        refine prun_ghost 2 2 10 rfl rfl ?_
        exact ret_ends ⟨_, [.sref 2 0 0 0, .int .i64 ((i + 1 : Nat) : Int)], [(2, ⟨10, true, true, []⟩)], rfl, vws_cons (vw_own rfl) (vws_cons (vw_flat rfl) vws_nil), ⟨rfl, .inl rfl, trivial⟩, rfl, rfl, rfl⟩
      · rw [if_neg (by simpa using h3)]
        have h4 : (event8 w).1 = (read44 w).1 := event8_1 (by simpa using h3)
        rw [h4]
        repeat refine prun_step hT rfl ?_
        refine prun_app1 hT rfl rfl rfl rfl rfl (by simp) rfl rfl rfl rfl rfl (by simp) rfl (by simp; omega) rfl rfl ?_
        repeat refine prun_step hT rfl ?_
        rw [wrap64 (n := (i : Int) + 1) (by omega) (by omega)]
        refine prun_lp ⟨(i + 1, out ++ [(read44 w).1]), ⟨hlt, by simp; omega, rfl⟩, by simp only; omega, ⟨?_, rfl, rfl, rfl, rfl, rfl, rfl, rfl, trivial⟩, ⟨?_, .inl rfl, trivial⟩⟩
        · simp [Env.get]
        · simp [updK, Heap.get]; rfl
  · have hge : i = ws.length := by simp only at h; omega
    subst hge
    rw [List.drop_length, all44]
    repeat refine prun_step hT rfl ?_
    refine prun_frz 36 (id := 4) (n := out.length) (z := 10) (lv := true) (es := out.map Ev.pv) rfl rfl (by simp) ?_
    refine prun_cw (G := []) (G' := [(2, ⟨10, true, true, out.map Ev.pv⟩)]) (copied_spec out (by omega)) rfl rfl trivial rfl ⟨.inr rfl, trivial⟩ rfl rfl (fun i => rfl) ?_
    repeat refine prun_step hT rfl ?_
    exact ret_ends ⟨_, [.sref 2 out.length 0 out.length, .int .i64 0], [(2, ⟨10, true, true, out.map Ev.pv⟩)], rfl, vws_cons (vw_own rfl) (vws_cons (vw_flat rfl) vws_nil), ⟨rfl, .inl rfl, trivial⟩, rfl, rfl, rfl⟩

end Go.PMS
/- The marks: set, and found again. -/
namespace Go.PMS
open Go Go.PM Go.Proofs Go.RowKit
variable {W : World} {gs : Nat}
set_option maxRecDepth 20000

def dpos (m : Int) : Str := if m ≤ 0 then [] else dec m
/-- The text that marks a place. -/
def mk (n : Int) : Str := if n ≤ 0 then [109, 48] else 109 :: dec n

theorem dpos_step {m : Int} (h : 0 < m) : dpos m = dpos (m.tdiv 10) ++ [digit (m.tmod 10).toNat] := by
  have e1 : m.tdiv 10 = m / 10 := Int.tdiv_eq_ediv_of_nonneg (by omega)
  have e2 : m.tmod 10 = m % 10 := Int.tmod_eq_emod_of_nonneg (by omega)
  by_cases h2 : m < 10
  · rw [dpos, if_neg (by omega), dpos, if_pos (by omega), dec_small (by omega) h2, e2]
    simp
    congr 1; omega
  · rw [dpos, if_neg (by omega), dpos, if_neg (by omega), dec_step (by omega)]

set_option maxHeartbeats 4000000 in
theorem markText_spec (n : Int) (h2 : n ≤ 9223372036854775807) : PSpec (bs W gs) n_laws_markText [.int .i64 n] [] (fun r H => r = .str (mk n) ∧ H = []) := by
  refine pspec_intro (fn := b_laws_markText) (bs_good W gs) rfl rfl rfl (Nat.le_of_ble_eq_true rfl) fun s0 _ => ?_
  have hT := bs_good W gs
  repeat refine prun_step hT rfl ?_
  refine prun_if rfl (fun h => ?_) (fun h => ?_)
  · repeat refine prun_step hT rfl ?_
    refine ret_ends (ends_flat rfl rfl ⟨?_, rfl⟩)
    rw [mk, if_pos (by omega)]; rfl
  have hd : (dec n).length ≤ 19 := by
    rw [dec, if_neg (by omega)]
    exact decN_len _ 19 (by omega) (by omega)
  rw [mk, if_neg (by omega)]
  repeat refine prun_step hT rfl ?_
  refine prun_loop (σ := Int × Str) (fun y => 0 ≤ y.1 ∧ y.1 ≤ n ∧ dpos y.1 ++ y.2 = dec n)
    (fun y => [(0, .int .i64 y.1), (3, .str y.2)]) (fun _ => []) (fun y => y.1.toNat) (n, []) ⟨by simp only; omega, Int.le_refl _, by simp only [dpos]; rw [if_neg (by omega)]; simp⟩ ⟨rfl, rfl, rfl, rfl, trivial⟩ trivial (fun _ => rfl) (fun y hy => ?_)
  obtain ⟨m, a⟩ := y
  obtain ⟨hm0, hmn, hy⟩ := hy
  simp only at hm0 hmn hy
  have hal : a.length ≤ 19 := by rw [← hy] at hd; simp at hd; omega
  repeat refine prun_step hT rfl ?_
  refine prun_if rfl (fun h => ?_) (fun h => ?_)
  · have hp : 0 < m := by omega
    have e1 : m.tdiv 10 = m / 10 := Int.tdiv_eq_ediv_of_nonneg (by omega)
    have e2 : m.tmod 10 = m % 10 := Int.tmod_eq_emod_of_nonneg (by omega)
    repeat refine prun_step hT rfl ?_
    refine prun_q (od_byte1 (b := digit (m.tmod 10).toNat) hT rfl rfl rfl rfl rfl rfl rfl rfl ?_) rfl rfl ?_
    · simp only
      rw [wrap64 (by omega) (by omega), wrapu8 (by omega) (by omega), digit_toNat (by omega)]; omega
    repeat refine prun_step hT rfl ?_
    refine prun_q (od_cat rfl rfl (by simp; omega)) rfl rfl ?_
    repeat refine prun_step hT rfl ?_
    rw [wrap64 (n := m.tdiv 10) (by omega) (by omega)]
    refine prun_lp ⟨(m.tdiv 10, digit (m.tmod 10).toNat :: a), ⟨by simp only; omega, by simp only; omega, ?_⟩, by simp only; omega, ⟨rfl, rfl, rfl, rfl, trivial⟩, trivial⟩
    rw [← hy, dpos_step hp]
    simp
  · have hp : m = 0 := by omega
    subst hp
    have hy : a = dec n := by simpa [dpos] using hy
    subst hy
    repeat refine prun_step hT rfl ?_
    refine prun_q (od_cat rfl rfl (by simp; omega)) rfl rfl ?_
    repeat refine prun_step hT rfl ?_
    exact ret_ends (ends_flat rfl rfl ⟨rfl, rfl⟩)

/-- Nine numbers and a text, one after another. -/
def mkEv (c : Int) : Ev := ⟨c, c + 1, c + 2, c + 3, c + 4, c + 5, c + 6, c + 7, c + 8, mk (c + 9)⟩
def marks (n : Nat) : List Ev := (List.range n).map fun (i : Nat) => mkEv (1 + 10 * (i : Int))

theorem marks_len (n : Nat) : (marks n).length = n := by simp [marks]
theorem marks_get {n i : Nat} (h : i < n) : (marks n)[i]? = some (mkEv (1 + 10 * (i : Int))) := by simp [marks, h]
theorem marks_succ (n : Nat) : marks (n + 1) = marks n ++ [mkEv (1 + 10 * (n : Int))] := by simp [marks, List.range_succ]

/-- Half marked: one element stands out. -/
theorem half_marked {l : List Ev} {i : Nat} {e : Ev} (he : l[i]? = some e) : ∃ L : List PV, L.length = l.length ∧ i < L.length ∧ (marks i ++ l.drop i).map Ev.pv = L.set i e.pv ∧ L.set i (mkEv (1 + 10 * (i : Int))).pv = (marks (i + 1) ++ l.drop (i + 1)).map Ev.pv := by
  have hlt : i < l.length := (List.getElem?_eq_some_iff.1 he).1
  have hd : l.drop i = e :: l.drop (i + 1) := drop_get he
  refine ⟨(marks i ++ l.drop i).map Ev.pv, by simp [marks_len]; omega, by simp [marks_len]; omega, ?_, ?_⟩
  · rw [hd, List.map_append, List.map_cons, List.set_append_right _ _ (by simp [marks_len])]
    simp [marks_len]
  · rw [hd, List.map_append, List.map_cons, List.set_append_right _ _ (by simp [marks_len]), marks_succ]
    simp [marks_len]

set_option maxHeartbeats 16000000 in
theorem markRiverEventS_spec (κ : Nat) (l : List Ev) (hl : l.length ≤ 1048576) : PSpec (bs W gs) n_laws_markRiverEventS [.sref κ l.length 0 l.length, .int .i64 1] [(κ, ⟨10, true, true, l.map Ev.pv⟩)]
    (fun r H => r = .int .i64 (1 + 10 * (l.length : Nat)) ∧ H = [(κ, ⟨10, true, true, (marks l.length).map Ev.pv⟩)]) := by
  refine pspec_intro (fn := b_laws_markRiverEventS) (bs_good W gs) rfl rfl rfl (Nat.le_of_ble_eq_true rfl) fun s0 _ => ?_
  have hT := bs_good W gs
  repeat refine prun_step hT rfl ?_
  refine prun_loop (σ := Nat) (fun i => i ≤ l.length)
    (fun i => [(0, .sref κ l.length 0 l.length), (1, .int .i64 (1 + 10 * (i : Int))), (5, .int .i64 (i : Nat))])
    (fun i => [(κ, ⟨10, true, true, (marks i ++ l.drop i).map Ev.pv⟩)])
    (fun i => l.length - i) 0 (Nat.zero_le _) ⟨rfl, by simp [refsIn, Heap.get], rfl, rfl, rfl, rfl, trivial⟩ ⟨by simp [Heap.get, marks], .inl rfl, trivial⟩ (fun _ => by simp [keysIn, Heap.get, frm]) (fun i hi => ?_)
  have hk : ∀ b : Blk, Heap.get [(κ, b)] κ = some b := fun b => by simp [Heap.get]
  have hk2 : ∀ b b' : Blk, updK [(κ, b)] κ b' = [(κ, b')] := fun b b' => by simp [updK]
  have hml : ((marks i ++ l.drop i).map Ev.pv).length = l.length := by simp [marks_len]; omega
  repeat refine prun_step hT rfl ?_
  refine prun_q (od_len_ref hT rfl rfl rfl (hk _) hml) rfl rfl ?_
  repeat refine prun_step hT rfl ?_
  refine prun_if rfl (fun h => ?_) (fun h => ?_)
  · have hlt : i < l.length := by omega
    obtain ⟨e, he⟩ := ex_get hlt
    obtain ⟨L, hL1, hL2, hL3, hL4⟩ := half_marked he
    obtain ⟨k0, a0, f0, n0, w0, m0, p0, t0, u0, x0⟩ := e
    rw [hL3]
    have hLl : ∀ q : PV, (L.set i q).length = l.length := fun q => by simp [hL1]
    have hLg : ∀ q : PV, (L.set i q)[0 + (i : Int).toNat]? = some q := fun q => by simp [hL2]
    have hLs : ∀ q q' : PV, (L.set i q).set (0 + (i : Int).toNat) q' = L.set i q' := fun q q' => by simp
    obtain ⟨c, hc⟩ : ∃ c : Int, c = 1 + 10 * (i : Int) := ⟨_, rfl⟩
    rw [← hc] at hL4 ⊢
    repeat refine prun_step hT rfl ?_
    refine prun_q (od_indexAddr_ref hT rfl rfl rfl rfl rfl (hk _) (hLl _) rfl (by omega) (by omega)) rfl rfl ?_
    refine prun_q (od_fieldAddr (id := κ) (l0 := l.length) (i := 0 + (i : Int).toNat) (off := 0) hT rfl rfl rfl rfl (by simp) rfl (hk _) (hLl _)) rfl rfl ?_
    refine prun_w 10 true true (L.set i (.agg [.int .i64 (c), .int .i64 (a0), .int .i64 (f0), .int .i64 (n0), .int .i64 (w0), .int .i64 (m0), .int .i64 (p0), .int .i64 (t0), .int .i64 (u0), .str (x0)])) (od_store (id := κ) (l0 := l.length) (i := 0 + (i : Int).toNat) (off := 0) (q := .agg [.int .i64 (k0), .int .i64 (a0), .int .i64 (f0), .int .i64 (n0), .int .i64 (w0), .int .i64 (m0), .int .i64 (p0), .int .i64 (t0), .int .i64 (u0), .str (x0)]) (p := (.int .i64 (c))) hT rfl rfl rfl (hk _) rfl (hLl _) (hLg _) rfl rfl (by simp [PV.cells]) rfl (Nat.le_of_ble_eq_true rfl) (fun _ => rfl)) (by rw [hLs]; rfl) rfl rfl (hk _) ?_
    rw [hk2]
    repeat refine prun_step hT rfl ?_
    rw [show IntKind.i64.wrap (c + 1) = c + 1 by rw [wrap64 (by omega) (by omega)]]
    repeat refine prun_step hT rfl ?_
    refine prun_q (od_indexAddr_ref hT rfl rfl rfl rfl rfl (hk _) (hLl _) rfl (by omega) (by omega)) rfl rfl ?_
    refine prun_q (od_fieldAddr (id := κ) (l0 := l.length) (i := 0 + (i : Int).toNat) (off := 0) hT rfl rfl rfl rfl (by simp) rfl (hk _) (hLl _)) rfl rfl ?_
    refine prun_w 10 true true (L.set i (.agg [.int .i64 (c), .int .i64 (c + 1), .int .i64 (f0), .int .i64 (n0), .int .i64 (w0), .int .i64 (m0), .int .i64 (p0), .int .i64 (t0), .int .i64 (u0), .str (x0)])) (od_store (id := κ) (l0 := l.length) (i := 0 + (i : Int).toNat) (off := 1) (q := .agg [.int .i64 (c), .int .i64 (a0), .int .i64 (f0), .int .i64 (n0), .int .i64 (w0), .int .i64 (m0), .int .i64 (p0), .int .i64 (t0), .int .i64 (u0), .str (x0)]) (p := (.int .i64 (c + 1))) hT rfl rfl rfl (hk _) rfl (hLl _) (hLg _) rfl rfl (by simp [PV.cells]) rfl (Nat.le_of_ble_eq_true rfl) (fun _ => rfl)) (by rw [hLs]; rfl) rfl rfl (hk _) ?_
    rw [hk2]
    repeat refine prun_step hT rfl ?_
    rw [show IntKind.i64.wrap (c + 1 + 1) = c + 2 by rw [wrap64 (by omega) (by omega)]; omega]
    repeat refine prun_step hT rfl ?_
    refine prun_q (od_indexAddr_ref hT rfl rfl rfl rfl rfl (hk _) (hLl _) rfl (by omega) (by omega)) rfl rfl ?_
    refine prun_q (od_fieldAddr (id := κ) (l0 := l.length) (i := 0 + (i : Int).toNat) (off := 0) hT rfl rfl rfl rfl (by simp) rfl (hk _) (hLl _)) rfl rfl ?_
    refine prun_w 10 true true (L.set i (.agg [.int .i64 (c), .int .i64 (c + 1), .int .i64 (c + 2), .int .i64 (n0), .int .i64 (w0), .int .i64 (m0), .int .i64 (p0), .int .i64 (t0), .int .i64 (u0), .str (x0)])) (od_store (id := κ) (l0 := l.length) (i := 0 + (i : Int).toNat) (off := 2) (q := .agg [.int .i64 (c), .int .i64 (c + 1), .int .i64 (f0), .int .i64 (n0), .int .i64 (w0), .int .i64 (m0), .int .i64 (p0), .int .i64 (t0), .int .i64 (u0), .str (x0)]) (p := (.int .i64 (c + 2))) hT rfl rfl rfl (hk _) rfl (hLl _) (hLg _) rfl rfl (by simp [PV.cells]) rfl (Nat.le_of_ble_eq_true rfl) (fun _ => rfl)) (by rw [hLs]; rfl) rfl rfl (hk _) ?_
    rw [hk2]
    repeat refine prun_step hT rfl ?_
    rw [show IntKind.i64.wrap (c + 2 + 1) = c + 3 by rw [wrap64 (by omega) (by omega)]; omega]
    repeat refine prun_step hT rfl ?_
    refine prun_q (od_indexAddr_ref hT rfl rfl rfl rfl rfl (hk _) (hLl _) rfl (by omega) (by omega)) rfl rfl ?_
    refine prun_q (od_fieldAddr (id := κ) (l0 := l.length) (i := 0 + (i : Int).toNat) (off := 0) hT rfl rfl rfl rfl (by simp) rfl (hk _) (hLl _)) rfl rfl ?_
    refine prun_w 10 true true (L.set i (.agg [.int .i64 (c), .int .i64 (c + 1), .int .i64 (c + 2), .int .i64 (c + 3), .int .i64 (w0), .int .i64 (m0), .int .i64 (p0), .int .i64 (t0), .int .i64 (u0), .str (x0)])) (od_store (id := κ) (l0 := l.length) (i := 0 + (i : Int).toNat) (off := 3) (q := .agg [.int .i64 (c), .int .i64 (c + 1), .int .i64 (c + 2), .int .i64 (n0), .int .i64 (w0), .int .i64 (m0), .int .i64 (p0), .int .i64 (t0), .int .i64 (u0), .str (x0)]) (p := (.int .i64 (c + 3))) hT rfl rfl rfl (hk _) rfl (hLl _) (hLg _) rfl rfl (by simp [PV.cells]) rfl (Nat.le_of_ble_eq_true rfl) (fun _ => rfl)) (by rw [hLs]; rfl) rfl rfl (hk _) ?_
    rw [hk2]
    repeat refine prun_step hT rfl ?_
    rw [show IntKind.i64.wrap (c + 3 + 1) = c + 4 by rw [wrap64 (by omega) (by omega)]; omega]
    repeat refine prun_step hT rfl ?_
    refine prun_q (od_indexAddr_ref hT rfl rfl rfl rfl rfl (hk _) (hLl _) rfl (by omega) (by omega)) rfl rfl ?_
    refine prun_q (od_fieldAddr (id := κ) (l0 := l.length) (i := 0 + (i : Int).toNat) (off := 0) hT rfl rfl rfl rfl (by simp) rfl (hk _) (hLl _)) rfl rfl ?_
    refine prun_w 10 true true (L.set i (.agg [.int .i64 (c), .int .i64 (c + 1), .int .i64 (c + 2), .int .i64 (c + 3), .int .i64 (c + 4), .int .i64 (m0), .int .i64 (p0), .int .i64 (t0), .int .i64 (u0), .str (x0)])) (od_store (id := κ) (l0 := l.length) (i := 0 + (i : Int).toNat) (off := 4) (q := .agg [.int .i64 (c), .int .i64 (c + 1), .int .i64 (c + 2), .int .i64 (c + 3), .int .i64 (w0), .int .i64 (m0), .int .i64 (p0), .int .i64 (t0), .int .i64 (u0), .str (x0)]) (p := (.int .i64 (c + 4))) hT rfl rfl rfl (hk _) rfl (hLl _) (hLg _) rfl rfl (by simp [PV.cells]) rfl (Nat.le_of_ble_eq_true rfl) (fun _ => rfl)) (by rw [hLs]; rfl) rfl rfl (hk _) ?_
    rw [hk2]
    repeat refine prun_step hT rfl ?_
    rw [show IntKind.i64.wrap (c + 4 + 1) = c + 5 by rw [wrap64 (by omega) (by omega)]; omega]
    repeat refine prun_step hT rfl ?_
    refine prun_q (od_indexAddr_ref hT rfl rfl rfl rfl rfl (hk _) (hLl _) rfl (by omega) (by omega)) rfl rfl ?_
    refine prun_q (od_fieldAddr (id := κ) (l0 := l.length) (i := 0 + (i : Int).toNat) (off := 0) hT rfl rfl rfl rfl (by simp) rfl (hk _) (hLl _)) rfl rfl ?_
    refine prun_w 10 true true (L.set i (.agg [.int .i64 (c), .int .i64 (c + 1), .int .i64 (c + 2), .int .i64 (c + 3), .int .i64 (c + 4), .int .i64 (c + 5), .int .i64 (p0), .int .i64 (t0), .int .i64 (u0), .str (x0)])) (od_store (id := κ) (l0 := l.length) (i := 0 + (i : Int).toNat) (off := 5) (q := .agg [.int .i64 (c), .int .i64 (c + 1), .int .i64 (c + 2), .int .i64 (c + 3), .int .i64 (c + 4), .int .i64 (m0), .int .i64 (p0), .int .i64 (t0), .int .i64 (u0), .str (x0)]) (p := (.int .i64 (c + 5))) hT rfl rfl rfl (hk _) rfl (hLl _) (hLg _) rfl rfl (by simp [PV.cells]) rfl (Nat.le_of_ble_eq_true rfl) (fun _ => rfl)) (by rw [hLs]; rfl) rfl rfl (hk _) ?_
    rw [hk2]
    repeat refine prun_step hT rfl ?_
    rw [show IntKind.i64.wrap (c + 5 + 1) = c + 6 by rw [wrap64 (by omega) (by omega)]; omega]
    repeat refine prun_step hT rfl ?_
    refine prun_q (od_indexAddr_ref hT rfl rfl rfl rfl rfl (hk _) (hLl _) rfl (by omega) (by omega)) rfl rfl ?_
    refine prun_q (od_fieldAddr (id := κ) (l0 := l.length) (i := 0 + (i : Int).toNat) (off := 0) hT rfl rfl rfl rfl (by simp) rfl (hk _) (hLl _)) rfl rfl ?_
    refine prun_w 10 true true (L.set i (.agg [.int .i64 (c), .int .i64 (c + 1), .int .i64 (c + 2), .int .i64 (c + 3), .int .i64 (c + 4), .int .i64 (c + 5), .int .i64 (c + 6), .int .i64 (t0), .int .i64 (u0), .str (x0)])) (od_store (id := κ) (l0 := l.length) (i := 0 + (i : Int).toNat) (off := 6) (q := .agg [.int .i64 (c), .int .i64 (c + 1), .int .i64 (c + 2), .int .i64 (c + 3), .int .i64 (c + 4), .int .i64 (c + 5), .int .i64 (p0), .int .i64 (t0), .int .i64 (u0), .str (x0)]) (p := (.int .i64 (c + 6))) hT rfl rfl rfl (hk _) rfl (hLl _) (hLg _) rfl rfl (by simp [PV.cells]) rfl (Nat.le_of_ble_eq_true rfl) (fun _ => rfl)) (by rw [hLs]; rfl) rfl rfl (hk _) ?_
    rw [hk2]
    repeat refine prun_step hT rfl ?_
    rw [show IntKind.i64.wrap (c + 6 + 1) = c + 7 by rw [wrap64 (by omega) (by omega)]; omega]
    repeat refine prun_step hT rfl ?_
    refine prun_q (od_indexAddr_ref hT rfl rfl rfl rfl rfl (hk _) (hLl _) rfl (by omega) (by omega)) rfl rfl ?_
    refine prun_q (od_fieldAddr (id := κ) (l0 := l.length) (i := 0 + (i : Int).toNat) (off := 0) hT rfl rfl rfl rfl (by simp) rfl (hk _) (hLl _)) rfl rfl ?_
    refine prun_w 10 true true (L.set i (.agg [.int .i64 (c), .int .i64 (c + 1), .int .i64 (c + 2), .int .i64 (c + 3), .int .i64 (c + 4), .int .i64 (c + 5), .int .i64 (c + 6), .int .i64 (c + 7), .int .i64 (u0), .str (x0)])) (od_store (id := κ) (l0 := l.length) (i := 0 + (i : Int).toNat) (off := 7) (q := .agg [.int .i64 (c), .int .i64 (c + 1), .int .i64 (c + 2), .int .i64 (c + 3), .int .i64 (c + 4), .int .i64 (c + 5), .int .i64 (c + 6), .int .i64 (t0), .int .i64 (u0), .str (x0)]) (p := (.int .i64 (c + 7))) hT rfl rfl rfl (hk _) rfl (hLl _) (hLg _) rfl rfl (by simp [PV.cells]) rfl (Nat.le_of_ble_eq_true rfl) (fun _ => rfl)) (by rw [hLs]; rfl) rfl rfl (hk _) ?_
    rw [hk2]
    repeat refine prun_step hT rfl ?_
    rw [show IntKind.i64.wrap (c + 7 + 1) = c + 8 by rw [wrap64 (by omega) (by omega)]; omega]
    repeat refine prun_step hT rfl ?_
    refine prun_q (od_indexAddr_ref hT rfl rfl rfl rfl rfl (hk _) (hLl _) rfl (by omega) (by omega)) rfl rfl ?_
    refine prun_q (od_fieldAddr (id := κ) (l0 := l.length) (i := 0 + (i : Int).toNat) (off := 0) hT rfl rfl rfl rfl (by simp) rfl (hk _) (hLl _)) rfl rfl ?_
    refine prun_w 10 true true (L.set i (.agg [.int .i64 (c), .int .i64 (c + 1), .int .i64 (c + 2), .int .i64 (c + 3), .int .i64 (c + 4), .int .i64 (c + 5), .int .i64 (c + 6), .int .i64 (c + 7), .int .i64 (c + 8), .str (x0)])) (od_store (id := κ) (l0 := l.length) (i := 0 + (i : Int).toNat) (off := 8) (q := .agg [.int .i64 (c), .int .i64 (c + 1), .int .i64 (c + 2), .int .i64 (c + 3), .int .i64 (c + 4), .int .i64 (c + 5), .int .i64 (c + 6), .int .i64 (c + 7), .int .i64 (u0), .str (x0)]) (p := (.int .i64 (c + 8))) hT rfl rfl rfl (hk _) rfl (hLl _) (hLg _) rfl rfl (by simp [PV.cells]) rfl (Nat.le_of_ble_eq_true rfl) (fun _ => rfl)) (by rw [hLs]; rfl) rfl rfl (hk _) ?_
    rw [hk2]
    repeat refine prun_step hT rfl ?_
    rw [show IntKind.i64.wrap (c + 8 + 1) = c + 9 by rw [wrap64 (by omega) (by omega)]; omega]
    repeat refine prun_step hT rfl ?_
    refine prun_callx (markText_spec (c + 9) (by omega)) rfl rfl rfl rfl rfl ?_
    repeat refine prun_step hT rfl ?_
    refine prun_q (od_indexAddr_ref hT rfl rfl rfl rfl rfl (hk _) (hLl _) rfl (by omega) (by omega)) rfl rfl ?_
    refine prun_q (od_fieldAddr (id := κ) (l0 := l.length) (i := 0 + (i : Int).toNat) (off := 0) hT rfl rfl rfl rfl (by simp) rfl (hk _) (hLl _)) rfl rfl ?_
    refine prun_w 10 true true (L.set i (.agg [.int .i64 (c), .int .i64 (c + 1), .int .i64 (c + 2), .int .i64 (c + 3), .int .i64 (c + 4), .int .i64 (c + 5), .int .i64 (c + 6), .int .i64 (c + 7), .int .i64 (c + 8), .str (mk (c + 9))])) (od_store (id := κ) (l0 := l.length) (i := 0 + (i : Int).toNat) (off := 9) (q := .agg [.int .i64 (c), .int .i64 (c + 1), .int .i64 (c + 2), .int .i64 (c + 3), .int .i64 (c + 4), .int .i64 (c + 5), .int .i64 (c + 6), .int .i64 (c + 7), .int .i64 (c + 8), .str (x0)]) (p := (.str (mk (c + 9)))) hT rfl rfl rfl (hk _) rfl (hLl _) (hLg _) rfl rfl (by simp [PV.cells]) rfl (Nat.le_of_ble_eq_true rfl) (fun _ => rfl)) (by rw [hLs]; rfl) rfl rfl (hk _) ?_
    rw [hk2]
    repeat refine prun_step hT rfl ?_
    rw [show IntKind.i64.wrap (c + 9 + 1) = c + 10 by rw [wrap64 (by omega) (by omega)]; omega]
    rw [wrap64 (n := (i : Int) + 1) (by omega) (by omega)]
    refine prun_lp ⟨i + 1, hlt, by omega, ⟨rfl, by simp [refsIn, Heap.get], ?_, rfl, rfl, rfl, trivial⟩, ⟨?_, .inl rfl, trivial⟩⟩
    · show PV.int .i64 (c + 10) = _
      rw [hc]; congr 1
    · rw [← hL4]; exact hk _
  · have hge : i = l.length := by omega
    subst hge
    repeat refine prun_step hT rfl ?_
    refine ret_ends ⟨_, [.int .i64 (1 + 10 * (l.length : Nat))], [(κ, ⟨10, true, true, (marks l.length).map Ev.pv⟩)], rfl, vws_cons (vw_flat rfl) vws_nil, ⟨?_, .inl rfl, trivial⟩, by simp [keysIn, Heap.get], rfl, rfl⟩
    rw [List.drop_length, List.append_nil]
    exact hk _

set_option maxHeartbeats 16000000 in
theorem heldRiverEventS_spec (n : Nat) (hl : n ≤ 1048576) : PSpec (bs W gs) n_laws_heldRiverEventS [.snap 10 ((marks n).map Ev.pv), .int .i64 1] []
    (fun r H => r = .int .i64 (1 + 10 * (n : Nat)) ∧ H = []) := by
  refine pspec_intro (fn := b_laws_heldRiverEventS) (bs_good W gs) rfl rfl rfl (Nat.le_of_ble_eq_true rfl) fun s0 _ => ?_
  have hT := bs_good W gs
  repeat refine prun_step hT rfl ?_
  refine prun_loop (σ := Nat) (fun i => i ≤ n)
    (fun i => [(0, .snap 10 ((marks n).map Ev.pv)), (1, .int .i64 (1 + 10 * (i : Int))), (5, .int .i64 (i : Nat))])
    (fun _ => [])
    (fun i => n - i) 0 (Nat.zero_le _) ⟨rfl, rfl, rfl, rfl, rfl, rfl, trivial⟩ trivial (fun _ => rfl) (fun i hi => ?_)
  have hml : ((marks n).map Ev.pv).length = n := by simp [marks_len]
  repeat refine prun_step hT rfl ?_
  refine prun_if rfl (fun h => ?_) (fun h => ?_)
  · have hlt : i < n := by simp only [hml] at h; omega
    have he := marks_get hlt
    obtain ⟨c, hc⟩ : ∃ c : Int, c = 1 + 10 * (i : Int) := ⟨_, rfl⟩
    rw [← hc] at he ⊢
    repeat refine prun_step hT rfl ?_
    refine prun_q (od_ixm (f := Ev.pv) (l := marks n) i hT rfl rfl rfl rfl rfl rfl he) rfl rfl ?_
    repeat refine prun_step hT rfl ?_
    refine prun_if rfl (fun h10 => ?_) (fun h10 => ?_)
    · exact absurd rfl h10
    repeat refine prun_step hT rfl ?_
    rw [show IntKind.i64.wrap (c + 1) = c + 1 by rw [wrap64 (by omega) (by omega)]]
    repeat refine prun_step hT rfl ?_
    refine prun_q (od_ixm (f := Ev.pv) (l := marks n) i hT rfl rfl rfl rfl rfl rfl he) rfl rfl ?_
    repeat refine prun_step hT rfl ?_
    refine prun_if rfl (fun h11 => ?_) (fun h11 => ?_)
    · exact absurd rfl h11
    repeat refine prun_step hT rfl ?_
    rw [show IntKind.i64.wrap (c + 1 + 1) = c + 2 by rw [wrap64 (by omega) (by omega)]; omega]
    repeat refine prun_step hT rfl ?_
    refine prun_q (od_ixm (f := Ev.pv) (l := marks n) i hT rfl rfl rfl rfl rfl rfl he) rfl rfl ?_
    repeat refine prun_step hT rfl ?_
    refine prun_if rfl (fun h12 => ?_) (fun h12 => ?_)
    · exact absurd rfl h12
    repeat refine prun_step hT rfl ?_
    rw [show IntKind.i64.wrap (c + 2 + 1) = c + 3 by rw [wrap64 (by omega) (by omega)]; omega]
    repeat refine prun_step hT rfl ?_
    refine prun_q (od_ixm (f := Ev.pv) (l := marks n) i hT rfl rfl rfl rfl rfl rfl he) rfl rfl ?_
    repeat refine prun_step hT rfl ?_
    refine prun_if rfl (fun h13 => ?_) (fun h13 => ?_)
    · exact absurd rfl h13
    repeat refine prun_step hT rfl ?_
    rw [show IntKind.i64.wrap (c + 3 + 1) = c + 4 by rw [wrap64 (by omega) (by omega)]; omega]
    repeat refine prun_step hT rfl ?_
    refine prun_q (od_ixm (f := Ev.pv) (l := marks n) i hT rfl rfl rfl rfl rfl rfl he) rfl rfl ?_
    repeat refine prun_step hT rfl ?_
    refine prun_if rfl (fun h14 => ?_) (fun h14 => ?_)
    · exact absurd rfl h14
    repeat refine prun_step hT rfl ?_
    rw [show IntKind.i64.wrap (c + 4 + 1) = c + 5 by rw [wrap64 (by omega) (by omega)]; omega]
    repeat refine prun_step hT rfl ?_
    refine prun_q (od_ixm (f := Ev.pv) (l := marks n) i hT rfl rfl rfl rfl rfl rfl he) rfl rfl ?_
    repeat refine prun_step hT rfl ?_
    refine prun_if rfl (fun h15 => ?_) (fun h15 => ?_)
    · exact absurd rfl h15
    repeat refine prun_step hT rfl ?_
    rw [show IntKind.i64.wrap (c + 5 + 1) = c + 6 by rw [wrap64 (by omega) (by omega)]; omega]
    repeat refine prun_step hT rfl ?_
    refine prun_q (od_ixm (f := Ev.pv) (l := marks n) i hT rfl rfl rfl rfl rfl rfl he) rfl rfl ?_
    repeat refine prun_step hT rfl ?_
    refine prun_if rfl (fun h16 => ?_) (fun h16 => ?_)
    · exact absurd rfl h16
    repeat refine prun_step hT rfl ?_
    rw [show IntKind.i64.wrap (c + 6 + 1) = c + 7 by rw [wrap64 (by omega) (by omega)]; omega]
    repeat refine prun_step hT rfl ?_
    refine prun_q (od_ixm (f := Ev.pv) (l := marks n) i hT rfl rfl rfl rfl rfl rfl he) rfl rfl ?_
    repeat refine prun_step hT rfl ?_
    refine prun_if rfl (fun h17 => ?_) (fun h17 => ?_)
    · exact absurd rfl h17
    repeat refine prun_step hT rfl ?_
    rw [show IntKind.i64.wrap (c + 7 + 1) = c + 8 by rw [wrap64 (by omega) (by omega)]; omega]
    repeat refine prun_step hT rfl ?_
    refine prun_q (od_ixm (f := Ev.pv) (l := marks n) i hT rfl rfl rfl rfl rfl rfl he) rfl rfl ?_
    repeat refine prun_step hT rfl ?_
    refine prun_if rfl (fun h18 => ?_) (fun h18 => ?_)
    · exact absurd rfl h18
    repeat refine prun_step hT rfl ?_
    rw [show IntKind.i64.wrap (c + 8 + 1) = c + 9 by rw [wrap64 (by omega) (by omega)]; omega]
    repeat refine prun_step hT rfl ?_
    refine prun_draw hT (by kernel_rfl) ?_
    repeat refine plex_step hT rfl ?_
    refine plex_q (od_ixm (f := Ev.pv) (l := marks n) i hT rfl rfl rfl rfl rfl rfl he) rfl rfl ?_
    repeat refine plex_step hT rfl ?_
    refine plex_callx (markText_spec (c + 9) (by omega)) rfl rfl rfl rfl rfl ?_
    repeat refine plex_step hT rfl ?_
    refine plex_nil (by kernel_rfl) ?_
    repeat refine prun_step hT rfl ?_
    refine prun_if rfl (fun h19 => ?_) (fun h19 => ?_)
    · exact absurd rfl h19
    repeat refine prun_step hT rfl ?_
    rw [show IntKind.i64.wrap (c + 9 + 1) = c + 10 by rw [wrap64 (by omega) (by omega)]; omega]
    rw [wrap64 (n := (i : Int) + 1) (by omega) (by omega)]
    refine prun_lp ⟨i + 1, hlt, by omega, ⟨rfl, rfl, ?_, rfl, rfl, rfl, trivial⟩, trivial⟩
    show PV.int .i64 (c + 10) = _
    rw [hc]; congr 1
  · have hge : i = n := by simp only [hml] at h; omega
    subst hge
    repeat refine prun_step hT rfl ?_
    exact ret_ends (ends_flat rfl rfl ⟨rfl, rfl⟩)

end Go.PMS
/- The program's RiverWrite computes what the reference's computes. Plain Lean. -/
namespace Go.PMS
open Go Go.PM

theorem fold_pick (e : Ev) : ∀ (xs : List Lk) (line : Str), (∀ x ∈ xs, x ∈ kinds) →
    xs.foldl (lineStep e) line = if (∃ x ∈ xs, (lineOf e x).2 = true) then line44 e else line
  | [], line, _ => by simp
  | x :: xs, line, hx => by
    rw [List.foldl_cons, fold_pick e xs _ fun y hy => hx y (by simp [hy])]
    by_cases h : ∃ y ∈ xs, (lineOf e y).2 = true
    · rw [if_pos h, if_pos (by obtain ⟨y, hy, h2⟩ := h; exact ⟨y, by simp [hy], h2⟩)]
    · rw [if_neg h]
      by_cases h2 : (lineOf e x).2 = true
      · rw [if_pos ⟨x, by simp, h2⟩, lineStep, if_pos h2]
        exact (lineOf_read e x (hx x (by simp)) _ (Prod.ext rfl h2)).1
      · rw [if_neg, lineStep, if_neg h2]
        rintro ⟨y, hy, h3⟩
        rcases List.mem_cons.1 hy with rfl | hy
        · exact h2 h3
        · exact h ⟨y, hy, h3⟩

theorem pick_yes {e : Ev} (h : read44 (line44 e) = (e, true)) : pickLine e = line44 e ∧ line44 e ≠ [] := by
  obtain ⟨x, hx, h2⟩ := read_lineOf h
  have h3 := lineOf_read e x hx _ h2
  exact ⟨by rw [pickLine, fold_pick e kinds [] (fun _ h => h), if_pos ⟨x, hx, by rw [h2]⟩], h3.2.2⟩

theorem pick_no {e : Ev} (h : read44 (line44 e) ≠ (e, true)) : pickLine e = [] := by
  rw [pickLine, fold_pick e kinds [] (fun _ h => h), if_neg]
  rintro ⟨x, hx, h2⟩
  have h3 := lineOf_read e x hx _ (Prod.ext rfl h2)
  rw [h3.1] at h3
  exact h h3.2.1

theorem write8_long : ∀ (l : List Ev) (out : Str), 60000 < out.length → write8 out l = []
  | [], out, h => by rw [write8, if_pos h]
  | e :: l, out, h => by rw [write8, if_pos (.inr h)]

theorem write_same : ∀ (l : List Ev) (out : Str), out.length ≤ 60000 → write8 out l = write44 out l
  | [], out, h => by rw [write8, if_neg (by omega), write44]
  | e :: l, out, h => by
    rw [write8, write44]
    by_cases hr : read44 (line44 e) = (e, true)
    · obtain ⟨h1, h2⟩ := pick_yes hr
      rw [if_pos hr, h1, if_neg (fun h3 => h3.elim h2 (by omega)), ← List.append_assoc]
      by_cases h4 : 60000 < (out ++ line44 e ++ [10]).length
      · rw [if_pos h4, write8_long _ _ h4]
      · rw [if_neg h4, write_same l _ (by omega)]
    · rw [if_neg hr, if_pos (.inl (pick_no hr))]

theorem write8_eq (l : List Ev) : write8 [] l = write44 [] l := write_same l [] (by simp)

end Go.PMS
/- How a law's row is won from a contract of the reading: what can be read al data stands for a value of the reading. -/
namespace Go.PM
open Go.RowKit Go.ChangeShapes Go.WideShapes

/-- The shape of a parameter. -/
inductive Sh where
  | int (k : IntKind) | bool | str | sl (e : Sh) | st (fs : List Sh)

mutual
def Sh.size : Sh → Nat
  | .st fs => sizes fs
  | _ => 1
def sizes : List Sh → Nat
  | [] => 0
  | f :: fs => f.size + sizes fs
end

def Sh.isSt : Sh → Bool
  | .st _ => true
  | _ => false

mutual
def fitB (P : Program) : Sh → TypeId → Bool
  | .int k, t => match P.underlying t with | some (.int k') => k == k' | _ => false
  | .bool, t => match P.underlying t with | some .bool => true | _ => false
  | .str, t => match P.underlying t with | some .string => true | _ => false
  | .sl e, t => match P.underlying t with | some (.slice et) => fitB P e et && P.cellsOf et == e.size && decide (0 < e.size) && decide (0 < P.bytesOf et) | _ => false
  | .st fs, t => match P.underlying t with | some (.struct ⟨fields⟩) => fitL P fs fields 0 && P.cellsOf t == sizes fs | _ => false
def fitL (P : Program) : List Sh → List Field → Nat → Bool
  | [], [], _ => true
  | s :: ss, f :: fl, off => f.offset == off && P.cellsOf f.type == s.size && fitB P s f.type && fitL P ss fl (off + s.size)
  | _, _, _ => false
end

def packE (s : Sh) (qs : List PV) : PV := if s.isSt then .agg qs else qs.headD .any

mutual
/-- The cells of a value of that shape. -/
def Sh.Is : Sh → List PV → Prop
  | .int k, ps => ∃ n, ps = [.int k n] ∧ k.min ≤ n ∧ n ≤ k.max
  | .bool, ps => ∃ b, ps = [.bool b]
  | .str, ps => ∃ l, ps = [.str l] ∧ l.length ≤ 140737488351232
  | .sl e, ps => ∃ xs : List PV, ps = [.snap e.size xs] ∧ (∀ x ∈ xs, ∃ qs, e.Is qs ∧ x = packE e qs) ∧ xs.length ≤ 140737488351232
  | .st fs, ps => ShIs fs ps
def ShIs : List Sh → List PV → Prop
  | [], ps => ps = []
  | f :: fs, ps => ∃ a b, ps = a ++ b ∧ f.Is a ∧ ShIs fs b
end

theorem Is_one {s : Sh} {qs : List PV} (hs : s.isSt = false) (h : s.Is qs) : ∃ q, qs = [q] := by
  cases s with
  | int k => simp only [Sh.Is] at h; obtain ⟨n, rfl, _⟩ := h; exact ⟨_, rfl⟩
  | bool => simp only [Sh.Is] at h; obtain ⟨n, rfl⟩ := h; exact ⟨_, rfl⟩
  | str => simp only [Sh.Is] at h; obtain ⟨n, rfl, _⟩ := h; exact ⟨_, rfl⟩
  | sl e => simp only [Sh.Is] at h; obtain ⟨n, rfl, _⟩ := h; exact ⟨_, rfl⟩
  | st fs => simp [Sh.isSt] at hs

theorem CR_pack {w : World} {S : Nat → Prop} {R : PV → Value → Prop} {s : Sh} {qs : List PV} {cs : List Value} (hq : s.Is qs) (h : CRl w S R qs cs) : CR w S R (packE s qs) cs := by
  unfold packE
  cases hs : s.isSt with
  | true => simp only [if_true, CR]; exact h
  | false =>
    obtain ⟨q, rfl⟩ := Is_one hs hq
    simp only [CRl] at h
    obtain ⟨v, r, rfl, h1, rfl⟩ := h
    simpa using h1

theorem CRl_append {w : World} {S : Nat → Prop} {R : PV → Value → Prop} : ∀ {al bs : List PV} {xs ys : List Value}, CRl w S R al xs → CRl w S R bs ys → CRl w S R (al ++ bs) (xs ++ ys)
  | [], _, _, _, h, k => by simp only [CRl] at h; subst h; exact k
  | a :: al, bs, xs, ys, h, k => by
    simp only [CRl] at h
    obtain ⟨v, r, rfl, h1, h2⟩ := h
    rw [List.cons_append, List.cons_append]
    simp only [CRl]
    exact ⟨v, r ++ ys, rfl, h1, CRl_append h2 k⟩

section
variable {H : Type} {enc : TypeId × Value → H} {P : Program} {w : World} {base : Nat} {spare : Nat → Bool} {held : Bool}

theorem weightsAll_mem {e : TypeId} : ∀ {l : List (DataW H)} {d : DataW H}, d ∈ l → (DataW.weightsAll P e l).all (· ≤ reachBytes) = true → (d.weights P e).all (· ≤ reachBytes) = true
  | x :: l, d, hd, h => by
    simp only [DataW.weightsAll, List.all_append, Bool.and_eq_true] at h
    rcases List.mem_cons.1 hd with rfl | hd
    · exact h.1
    · exact weightsAll_mem hd h.2

mutual
theorem trod_CR (R : PV → Value → Prop) : ∀ (s : Sh) (t : TypeId) (fuel : Nat) (cs : List Value) (x : DataW H × List MemPlace), fitB P s t = true → DataW.trod enc P w base spare held fuel t cs = some x →
    (x.1.weights P t).all (· ≤ reachBytes) = true → ∃ qs, s.Is qs ∧ CRl w (fun b => b < w.heap.size) R qs cs
  | .int k, t, fuel, cs, x, hf, h, _ => by
    simp only [fitB] at hf
    split at hf
    · rename_i k' hu
      obtain rfl : k = k' := by simpa using hf
      obtain ⟨n', rfl, hx, hwf⟩ := DataW.trod_int hu h
      simp only [Lit.wf, Bool.and_eq_true, decide_eq_true_eq] at hwf
      refine ⟨[.int k n'], ?_, ?_⟩
      · simp only [Sh.Is]; exact ⟨n', rfl, hwf⟩
      · simp [CRl, CR]
    · cases hf
  | .bool, t, fuel, cs, x, hf, h, _ => by
    simp only [fitB] at hf
    split at hf
    · rename_i hu
      obtain ⟨b, rfl, hx⟩ := DataW.trod_bool hu h
      exact ⟨[.bool b], by simp [Sh.Is], by simp [CRl, CR]⟩
    · cases hf
  | .str, t, fuel, cs, x, hf, h, hw => by
    simp only [fitB] at hf
    split at hf
    · rename_i hu
      obtain ⟨b, rfl, hx, hsz⟩ := DataW.trod_string hu h
      subst hx
      refine ⟨[.str b.data.toList], ?_, by simp [CRl, CR]⟩
      simp only [Sh.Is]
      simp only [DataW.weights, List.all_cons, List.all_nil, Bool.and_true, reachBytes] at hw
      exact ⟨_, rfl, by simpa using of_decide_eq_true hw⟩
    · cases hf
  | .sl e, t, fuel, cs, x, hf, h, hw => by
    simp only [fitB] at hf
    split at hf
    · rename_i et hu
      simp only [Bool.and_eq_true, beq_iff_eq, decide_eq_true_eq] at hf
      obtain ⟨⟨⟨hf, hz⟩, hz0⟩, hb0⟩ := hf
      rcases Go.Deep.open_slice hu h with ⟨rfl, rfl⟩ | ⟨a, len, cap, m, n, D, Pl, rfl, _, hl, _, hm, rfl, hi⟩
      · refine ⟨[.snap e.size []], ?_, ?_⟩
        · simp only [Sh.Is]; exact ⟨[], rfl, by simp, by simp⟩
        · simp only [CRl, CR]; exact ⟨.slice none 0 0, [], rfl, ⟨none, 0, rfl, by simp, .inl trivial⟩, rfl⟩
      · have hlm : len ≤ m := by rw [hm]; split <;> omega
        simp only [DataW.weights, hu, List.all_cons, Bool.and_eq_true, decide_eq_true_eq, List.all_append] at hw
        obtain ⟨hw0, hw1, _⟩ := hw
        have each : ∀ i, i < len → ∃ cs' qs, w.cells? base (a.add (i * P.cellsOf et)) (P.cellsOf et) = some cs' ∧ e.Is qs ∧ CRl w (fun b => b < w.heap.size) R qs cs' ∧ CRl w (fun b => b < w.heap.size) (fun _ _ => False) qs cs' := by
          intro i hil
          obtain ⟨cs', h1, h2⟩ := hi i (by omega)
          have hwd := weightsAll_mem (P := P) (e := et) (l := (List.range len).map D) (d := D i) (List.mem_map.2 ⟨i, by simpa using hil, rfl⟩) hw1
          obtain ⟨qs, k1, k2⟩ := trod_CR (fun _ _ => False) e et n cs' _ hf h2 hwd
          refine ⟨cs', qs, h1, k1, ?_, k2⟩
          have := CR_R (R := fun _ _ => False) (R' := R) (fun _ _ h => h.elim) (w := w) (S := fun b => b < w.heap.size) (p := .agg qs) (cs := cs') (by simpa only [CR] using k2)
          simpa only [CR] using this
        have hch : ∃ f : Nat → List PV, ∀ i, i < len → ∃ cs', w.cells? base (a.add (i * P.cellsOf et)) (P.cellsOf et) = some cs' ∧ e.Is (f i) ∧ CRl w (fun b => b < w.heap.size) (fun _ _ => False) (f i) cs' := by
          refine ⟨fun i => if h : i < len then Classical.choose (Classical.choose_spec (each i h)) else [], fun i hil => ?_⟩
          have := Classical.choose_spec (Classical.choose_spec (each i hil))
          simp only [dif_pos hil]
          exact ⟨Classical.choose (each i hil), this.1, this.2.1, this.2.2.2⟩
        obtain ⟨f, hf2⟩ := hch
        refine ⟨[.snap e.size ((List.range len).map fun i => packE e (f i))], ?_, ?_⟩
        · simp only [Sh.Is]
          refine ⟨_, rfl, fun x hx => ?_, ?_⟩
          · obtain ⟨i, hin, rfl⟩ := List.mem_map.1 hx
            obtain ⟨_, _, k1, _⟩ := hf2 i (by simpa using hin)
            exact ⟨f i, k1, rfl⟩
          · simp only [List.length_map, List.length_range] at hw0 ⊢
            have : len * 1 ≤ (len + (m - len)) * P.bytesOf et := Nat.mul_le_mul (by omega) hb0
            have h2 : reachBytes = 140737488351232 := rfl
            omega
        · have hsn : CR w (fun b => b < w.heap.size) R (.snap e.size ((List.range len).map fun i => packE e (f i))) [.slice (some a) len cap] := by
            simp only [CR]
            refine ⟨some a, cap, by simp, by simpa using hl, ?_⟩
            rcases Nat.eq_zero_or_pos len with rfl | hpos
            · left; simp
            · right
              obtain ⟨cs0, c1, _⟩ := hf2 0 hpos
              have c2 := (World.cells?_some c1)
              have c3 := c2.2.2 0 (by omega)
              rw [Nat.zero_mul, Addr.add_zero', Addr.add_zero'] at c3
              have hsome : (w.cell? a).isSome = true := by
                rw [c3, List.getElem?_eq_getElem (by omega)]; rfl
              have hsp : a.spot = none := by
                cases hs : a.spot with
                | none => rfl
                | some k =>
                  unfold World.cell? at hsome
                  split at hsome
                  · simp [hs] at hsome
                  · cases hsome
              have hblk : a.block < w.heap.size := by
                rcases Nat.lt_or_ge a.block w.heap.size with h | h
                · exact h
                · unfold World.cell? at hsome
                  rw [Array.getElem?_eq_none h] at hsome
                  cases hsome
              obtain ⟨ab, ao, al⟩ := a
              simp only at hsp hblk
              subst hsp
              refine ⟨ab, ao, rfl, hblk, CRrow_of fun i x hx => ?_⟩
              rw [List.getElem?_map] at hx
              cases hr : (List.range len)[i]? with
              | none => rw [hr] at hx; cases hx
              | some j =>
                rw [hr] at hx
                obtain ⟨hlt, hj⟩ := List.getElem?_eq_some_iff.1 hr
                simp only [List.getElem_range] at hj
                subst hj
                obtain rfl : packE e (f i) = x := by simpa using hx
                simp only [List.length_range] at hlt
                obtain ⟨cs', d1, d2, d3⟩ := hf2 i hlt
                have d4 := World.cells?_some d1
                refine ⟨cs', by rw [d4.2.1, hz], CR_pack d2 d3, fun l v hl => ?_⟩
                have hll := (List.getElem?_eq_some_iff.1 hl).1
                have := d4.2.2 l (by omega)
                rw [Addr.add_mid, Addr.add_mid, hl, hz] at this
                exact this
          simp only [CRl]
          exact ⟨_, [], rfl, hsn, rfl⟩
    · cases hf
  | .st fs, t, fuel, cs, x, hf, h, hw => by
    simp only [fitB] at hf
    split at hf
    · rename_i fields hu
      simp only [Bool.and_eq_true, beq_iff_eq] at hf
      obtain ⟨xs, n, _, rfl, hlen, hxl, hat⟩ := DataW.trod_struct hu h
      have hw : (DataW.weightsEach P (fields.map (·.type)) (xs.map (·.1))).all (· ≤ reachBytes) = true := by
        simp only [DataW.weights, hu] at hw
        simpa using hw
      obtain ⟨qs, k1, k2⟩ := trod_CRl R fs fields xs 0 n cs hf.1 (by simpa using hxl) (fun i f hi => hat i f (by simpa using hi)) hw
      refine ⟨qs, by simp only [Sh.Is]; exact k1, ?_⟩
      have : (cs.drop 0).take (sizes fs) = cs := by rw [List.drop_zero, List.take_of_length_le (by rw [hlen, hf.2]; exact Nat.le_refl _)]
      rw [this] at k2
      exact k2
    · cases hf
theorem trod_CRl (R : PV → Value → Prop) : ∀ (ss : List Sh) (fl : List Field) (xs : List (DataW H × List MemPlace)) (off n : Nat) (cs : List Value), fitL P ss fl off = true → xs.length = fl.length →
    (∀ (i : Nat) (f : Field), fl[i]? = some f → DataW.trod enc P w base spare held n f.type ((cs.drop f.offset).take (P.cellsOf f.type)) = xs[i]?) → (DataW.weightsEach P (fl.map (·.type)) (xs.map (·.1))).all (· ≤ reachBytes) = true →
    ∃ qs, ShIs ss qs ∧ CRl w (fun b => b < w.heap.size) R qs ((cs.drop off).take (sizes ss))
  | [], [], xs, off, n, cs, _, _, _, _ => ⟨[], by simp [ShIs], by simp [sizes, CRl]⟩
  | [], _ :: _, _, _, _, _, hf, _, _, _ => by simp [fitL] at hf
  | _ :: _, [], _, _, _, _, hf, _, _, _ => by simp [fitL] at hf
  | s :: ss, f :: fl, xs, off, n, cs, hf, hl, hat, hw => by
    simp only [fitL, Bool.and_eq_true, beq_iff_eq] at hf
    obtain ⟨⟨⟨ho, hc⟩, hs⟩, hr⟩ := hf
    cases xs with
    | nil => simp at hl
    | cons y ys =>
      simp only [List.map_cons, DataW.weightsEach, List.all_append, Bool.and_eq_true] at hw
      have h0 := hat 0 f (by simp)
      simp only [List.getElem?_cons_zero] at h0
      obtain ⟨a, a1, a2⟩ := trod_CR R s f.type n _ _ hs h0 hw.1
      obtain ⟨b, b1, b2⟩ := trod_CRl R ss fl ys (off + s.size) n cs hr (by simpa using hl) (fun i g hi => by simpa using hat (i + 1) g (by simpa using hi)) hw.2
      refine ⟨a ++ b, ?_, ?_⟩
      · simp only [ShIs]; exact ⟨a, b, rfl, a1, b1⟩
      · rw [ho, hc] at a2
        have := CRl_append a2 b2
        have e : (cs.drop off).take (sizes (s :: ss)) = (cs.drop off).take s.size ++ (cs.drop (off + s.size)).take (sizes ss) := by
          simp only [sizes]
          rw [List.take_add, List.drop_drop]
        rw [e]
        exact this
end

/-! ### whole arguments -/
def packV (s : Sh) (qs : List PV) : PV := packE s qs

theorem cells_one {v u : Value} (hv : ∀ cs, v ≠ .agg cs) (h : v.cells.toList = [u]) : v = u := by
  cases v <;> first | (exact absurd rfl (hv _)) | (simpa [Value.cells] using h)

theorem arg_VR {W : World} {s : St} (hsw : s.w = W) (hS : s.S = fun b => b < W.heap.size) {r : Reach} {b0 : Nat} {sh : Sh} {t : TypeId} {v : Value} {d : DataW H} {ps : List MemPlace} (hf : fitB P sh t = true)
    (hval : Value.okWide P W r b0 t v) (h : DataW.Trod enc P W base spare held t v d ps) (hw : (d.weights P t).all (· ≤ reachBytes) = true) : ∃ qs, sh.Is qs ∧ VR1 s (packE sh qs) v := by
  obtain ⟨n, h⟩ := h
  obtain ⟨qs, h1, h2⟩ := trod_CR (RR s) sh t n _ _ hf h hw
  rw [← hsw, ← show s.S = fun b => b < s.w.heap.size by rw [hS, hsw]] at h2
  refine ⟨qs, h1, ?_⟩
  cases hs : sh.isSt with
  | true =>
    cases sh with
    | st fs =>
      simp only [fitB] at hf
      split at hf
      · rename_i fields hu
        obtain ⟨cs, rfl, _⟩ := okWide_struct hu hval
        simp only [packE, hs, if_true]
        exact ⟨cs, rfl, h2⟩
      · cases hf
    | _ => simp [Sh.isSt] at hs
  | false =>
    obtain ⟨q, rfl⟩ := Is_one hs h1
    have h3 := CR_pack h1 h2
    simp only [CRl] at h2
    obtain ⟨u, r', hu, h4, rfl⟩ := h2
    have hna : ∀ cs, v ≠ .agg cs := by
      rintro cs rfl
      cases sh <;> simp only [Sh.isSt] at hs <;> simp only [fitB] at hf <;> split at hf <;> first | (cases hf; done) | (rename_i hu0; simp [Value.okWide, hu0, Cell.okWide, Cell.ok] at hval) | (rename_i hu0; simp [hs] at hf) | skip
      all_goals first | (simp at hs; done) | skip
    obtain rfl := cells_one hna hu
    have h5 : packE sh [q] = q := by simp [packE, hs]
    rw [h5]
    cases q with
    | any => trivial
    | agg fs => cases sh <;> simp [Sh.Is, Sh.isSt] at h1 hs
    | tup fs => simp only [CR] at h4
    | _ => exact h4

def isAll : List Sh → List PV → Prop
  | [], [] => True
  | s :: ss, p :: ps => (∃ qs, s.Is qs ∧ p = packE s qs) ∧ isAll ss ps
  | _, _ => False

def fitAll (P : Program) : List Sh → List TypeId → Bool
  | [], [] => true
  | s :: ss, t :: ts => fitB P s t && P.readableRec t && decide (t < P.types.size) && fitAll P ss ts
  | _, _ => false

theorem args_VR {W : World} {s : St} (hsw : s.w = W) (hS : s.S = fun b => b < W.heap.size) {r : Reach} {b0 : Nat} : ∀ {shs : List Sh} {ts : List TypeId} {vs : List Value} {ds : List (DataW H)} {ps : List MemPlace}, fitAll P shs ts = true →
    (∀ (j : Nat) (t : TypeId) (v : Value), ts[j]? = some t → vs[j]? = some v → Value.okWide P W r b0 t v) → DataW.TrodAll enc P W base spare held ts vs ds ps → (DataW.weightsEach P ts ds).all (· ≤ reachBytes) = true → ∃ qs, isAll shs qs ∧ VRs s qs vs
  | [], [], vs, ds, ps, _, _, h, _ => by
    cases vs <;> cases ds <;> simp only [DataW.TrodAll] at h
    exact ⟨[], trivial, rfl⟩
  | [], _ :: _, _, _, _, hf, _, _, _ => by simp [fitAll] at hf
  | _ :: _, [], _, _, _, hf, _, _, _ => by simp [fitAll] at hf
  | sh :: shs, t :: ts, vs, ds, ps, hf, hval, h, hw => by
    cases vs with
    | nil => cases ds <;> simp only [DataW.TrodAll] at h
    | cons v vs =>
      cases ds with
      | nil => simp only [DataW.TrodAll] at h
      | cons d ds =>
        simp only [DataW.TrodAll] at h
        obtain ⟨p, q, h1, h2, rfl⟩ := h
        simp only [fitAll, Bool.and_eq_true] at hf
        simp only [DataW.weightsEach, List.all_append, Bool.and_eq_true] at hw
        obtain ⟨qs, k1, k2⟩ := arg_VR hsw hS hf.1.1.1 (hval 0 t v rfl rfl) h1 hw.1
        obtain ⟨rs, r1, r2⟩ := args_VR hsw hS hf.2 (fun j t' v' hj hv' => hval (j + 1) t' v' (by simpa using hj) (by simpa using hv')) h2 hw.2
        exact ⟨packE sh qs :: rs, ⟨⟨qs, k1, rfl⟩, r1⟩, v, vs, rfl, k2, r2⟩

theorem trodAll_stays (hl : laidOutB P = true) {W W' : World} {sp' : Nat → Bool} (hb : Below W.heap.size W W') : ∀ {shs : List Sh} {ts : List TypeId} {vs : List Value} {ds : List (DataW H)} {ps : List MemPlace}, fitAll P shs ts = true →
    DataW.TrodAll enc P W 0 (fun _ => true) true ts vs ds ps → (∀ p ∈ ps, p.block < W.heap.size) → (∀ p ∈ ps, sp' p.block = true) → DataW.TrodAll enc P W' 0 sp' true ts vs ds ps
  | [], [], vs, ds, ps, _, h, _, _ => by
    cases vs <;> cases ds <;> simp only [DataW.TrodAll] at h ⊢ <;> exact h
  | [], _ :: _, _, _, _, hf, _, _, _ => by simp [fitAll] at hf
  | _ :: _, [], _, _, _, hf, _, _, _ => by simp [fitAll] at hf
  | sh :: shs, t :: ts, vs, ds, ps, hf, h, hlt, hs => by
    cases vs with
    | nil => cases ds <;> simp only [DataW.TrodAll] at h
    | cons v vs =>
      cases ds with
      | nil => simp only [DataW.TrodAll] at h
      | cons d ds =>
        simp only [DataW.TrodAll] at h ⊢
        obtain ⟨p, q, h1, h2, rfl⟩ := h
        simp only [fitAll, Bool.and_eq_true, decide_eq_true_eq] at hf
        exact ⟨p, q, WideElems.Trod_stays hl hf.1.1.2 hf.1.2 h1 (fun x hx => hb.same (hlt x (by simp [hx]))) (fun x hx => hs x (by simp [hx])), trodAll_stays hl hb hf.2 h2 (fun x hx => hlt x (by simp [hx])) (fun x hx => hs x (by simp [hx])), rfl⟩

/-- The state in which a law's call begins: all that there is is data. -/
def st0 (W : World) : St := ⟨W, fun _ => none, fun b => b < W.heap.size, []⟩

theorem st0_ok {B : Base} {W : World} (hW : B.W = W) (hg : B.gs = W.heap.size) : (st0 W).ok B where
  lt _ h := h
  blk _ _ h := by simp [st0, Heap.get] at h
  inj _ _ _ _ _ _ _ h := by simp [st0, Heap.get] at h
  glob b hb := ⟨by rw [hg] at hb; exact hb, by rw [hW]; rfl⟩

/-- **A law's post, out of its contract in the reading.** -/
theorem law_contract {B : Base} {W : World} {f : FuncId} {fn : Func} {s : ChangeSpec} {shs : List Sh} {rt : TypeId} {apart fresh handsOn again : Bool} {args : Array Value} {ds gs : List (DataW H)} {before : List MemPlace} {bb : Nat} (hP : B.P = P) (hBW : B.W = W) (hBg : B.gs = W.heap.size)
    (hl : laidOutB P = true) (hfit : fitAll P shs fn.params.toList = true) (hrt : fn.resultTypes = #[rt]) (hbool : P.underlying rt = some .bool) (hvars : s.vars = [])
    (hfn : ds.length = shs.length → s.fn H (ds ++ gs) = { results := [.lit (.bool true)], args := ds })
    (hval : ∀ (j : Nat) t v, fn.params[j]? = some t → args[j]? = some v → Value.okWide P W .any bb t v)
    (hW : DataW.Whole enc P fn.params.toList s.vars apart W args.toList ds gs before)
    (hsz : (DataW.weightsEach P (fn.params.toList ++ s.plain.varTypes P) (ds ++ gs)).all (· ≤ reachBytes) = true)
    (hspec : ∀ qs, isAll shs qs → PSpec B f qs [] (fun r H => r = .bool true ∧ H = [])) :
    Calls P f args W fun e W' => ∃ v, e = .returned v ∧ s.post enc P fn apart fresh handsOn again W args v W' := by
  have hW' := hW
  obtain ⟨p, q, hA, hV, rfl, hz, hn⟩ := hW
  rw [hvars] at hV
  have hgs : gs = [] ∧ q = [] := by cases gs <;> simp only [DataW.TrodVars] at hV <;> exact ⟨rfl, hV⟩
  obtain ⟨rfl, rfl⟩ := hgs
  simp only [List.append_nil] at *
  have hlen : ∀ {ts : List TypeId} {shs : List Sh} {vs : List Value} {ds : List (DataW H)} {ps : List MemPlace}, fitAll P shs ts = true → DataW.TrodAll enc P W 0 (fun _ => true) true ts vs ds ps → ds.length = shs.length ∧ ds.length = ts.length := by
    intro ts
    induction ts with
    | nil =>
      intro shs vs ds ps hf h
      cases shs with
      | nil => cases vs <;> cases ds <;> simp only [DataW.TrodAll] at h; exact ⟨rfl, rfl⟩
      | cons _ _ => simp [fitAll] at hf
    | cons t ts ih =>
      intro shs vs ds ps hf h
      cases shs with
      | nil => simp [fitAll] at hf
      | cons sh shs =>
        cases vs with
        | nil => cases ds <;> simp only [DataW.TrodAll] at h
        | cons v vs =>
          cases ds with
          | nil => simp only [DataW.TrodAll] at h
          | cons d ds =>
            simp only [DataW.TrodAll] at h
            obtain ⟨_, _, _, h2, _⟩ := h
            simp only [fitAll, Bool.and_eq_true] at hf
            have := ih hf.2 h2
            simp [this.1]; omega
  have hl2 := hlen hfit hA
  have hsz' : (DataW.weightsEach P fn.params.toList ds).all (· ≤ reachBytes) = true := by
    have : ∀ (ts : List TypeId) (ds : List (DataW H)) (us : List TypeId), ds.length = ts.length → DataW.weightsEach P (ts ++ us) ds = DataW.weightsEach P ts ds := by
      intro ts
      induction ts with
      | nil => intro ds us h; cases ds <;> simp at h; cases us <;> simp [DataW.weightsEach]
      | cons t ts ih => intro ds us h; cases ds with
        | nil => simp at h
        | cons d ds => simp only [List.cons_append, DataW.weightsEach]; rw [ih ds us (by simpa using h)]
    rw [this _ _ _ hl2.2] at hsz
    exact hsz
  have hok0 : (st0 W).ok B := st0_ok hBW hBg
  obtain ⟨qs, k1, k2⟩ := args_VR (P := P) (s := st0 W) (W := W) rfl rfl hfit (fun j t v hj hv => hval j t v (by simpa using hj) (by simpa using hv)) hA hsz'
  have hrun := (hspec qs k1).run (st0 W) args.toList hok0 (fun _ => rfl) k2
  rw [hP] at hrun
  have e0 : args.toList.toArray = args := by simp
  rw [e0] at hrun
  refine hrun.mono fun e W' ⟨v, t, r, H', h1, h2, h3, h4, h5, h6, h7⟩ => ?_
  obtain ⟨rfl, rfl⟩ := h7
  subst h2
  obtain rfl : v = .bool true := VR_bool.1 h5
  have hb : Below W.heap.size W t.w := ⟨h4.os, h4.tape, h4.output, h4.size, fun b hb => h4.frame b hb (by rintro ⟨id, bk, c, q1, _⟩; simp [st0, Heap.get] at q1)⟩
  have hlt : ∀ x ∈ p, x.block < W.heap.size := fun x hx => hW'.lt x hx
  have hres : ∀ (b : Nat) (sp : Nat → Bool) (hd : Bool), DataW.TrodAll enc P t.w b sp hd fn.resultTypes.toList ((Value.bool true).resultList fn.resultTypes.size) [.lit (.bool true)] [] := by
    intro b sp hd
    rw [hrt]
    exact trodAll_cons_mk (p := []) (p' := []) ⟨1, by simp [DataW.trod, Value.cells, hbool]⟩ trodAll_mk0
  have hargs : ∀ sp : Nat → Bool, (∀ x ∈ p, sp x.block = true) → DataW.TrodAll enc P t.w 0 sp true fn.params.toList args.toList ds p := fun sp hs => trodAll_stays hl hb hfit hA hlt hs
  have hf : s.fn H (ds ++ []) = { results := [.lit (.bool true)], args := ds } := by rw [List.append_nil]; exact hfn hl2.1
  refine ⟨_, h1, ds, [], p, [], p, [], hW', ?_, ?_, ?_, World.keptBut_mono (fun x hx => ⟨hx, .inr (.inl hx)⟩) (hb.frame (· ∈ p)), fun _ => ⟨?_, [.lit (.bool true)] ++ ds, [], p, ?_, fun x hx _ => hx⟩⟩
  · rw [hf]; exact hres _ _ _
  · rw [hf]; exact hargs _ fun x hx => by simpa using hlt x hx
  · rw [hvars, hf]; rfl
  · intro j t' r' hj hv
    rw [hrt] at hj
    rw [hrt] at hv
    match j, hj, hv with
    | 0, hj, hv =>
      obtain rfl : rt = t' := by simpa using hj
      obtain rfl : Value.bool true = r' := by simpa [Value.resultList] using hv
      simp [Value.okWide, hbool, Cell.okWide, Cell.ok]
    | j + 1, hj, hv => simp at hj
  · refine ⟨[] ++ p, [], trodAll_append (hargs _ fun _ _ => rfl) (hres _ _ _), by rw [hvars]; rfl, by simp, fun b off hx => ?_, fun ha => hn ha⟩
    rw [hb.frozen (hlt _ hx)]
    exact hz b off hx
end
end Go.PM
/- The law FnExactRiverWrite: its contract in the reading. -/
namespace Go.PMS
open Go Go.PM Go.Proofs Go.RowKit
variable {W : World} {gs : Nat}
set_option maxRecDepth 20000

def evSh : Sh := .st [.int .i64, .int .i64, .int .i64, .int .i64, .int .i64, .int .i64, .int .i64, .int .i64, .int .i64, .str]

theorem i64_min : IntKind.i64.min = -9223372036854775808 := by decide
theorem i64_max : IntKind.i64.max = 9223372036854775807 := by decide

/-- Its numbers fit, its text is no longer than memory. -/
structure Ev.ok0 (e : Ev) : Prop where
  kind : I64 e.kind
  at_ : I64 e.at_
  frm : I64 e.frm
  num : I64 e.num
  word : I64 e.word
  mix : I64 e.mix
  keep : I64 e.keep
  to_ : I64 e.to_
  til : I64 e.til
  text : e.text.length ≤ 140737488351232

theorem ShIs_int {k : IntKind} {fs : List Sh} {ps : List PV} (h : ShIs (.int k :: fs) ps) : ∃ n r, ps = .int k n :: r ∧ k.min ≤ n ∧ n ≤ k.max ∧ ShIs fs r := by
  simp only [ShIs, Sh.Is] at h
  obtain ⟨a, b, rfl, ⟨n, rfl, h1, h2⟩, h3⟩ := h
  exact ⟨n, b, rfl, h1, h2, h3⟩
theorem ShIs_str {fs : List Sh} {ps : List PV} (h : ShIs (.str :: fs) ps) : ∃ l r, ps = .str l :: r ∧ l.length ≤ 140737488351232 ∧ ShIs fs r := by
  simp only [ShIs, Sh.Is] at h
  obtain ⟨a, b, rfl, ⟨l, rfl, h1⟩, h3⟩ := h
  exact ⟨l, b, rfl, h1, h3⟩
theorem ShIs_nil {ps : List PV} (h : ShIs [] ps) : ps = [] := h

theorem ev_of {qs : List PV} (h : evSh.Is qs) : ∃ e : Ev, packE evSh qs = e.pv ∧ Ev.ok0 e := by
  simp only [evSh, Sh.Is] at h
  obtain ⟨n1, _, rfl, a1, b1, h⟩ := ShIs_int h
  obtain ⟨n2, _, rfl, a2, b2, h⟩ := ShIs_int h
  obtain ⟨n3, _, rfl, a3, b3, h⟩ := ShIs_int h
  obtain ⟨n4, _, rfl, a4, b4, h⟩ := ShIs_int h
  obtain ⟨n5, _, rfl, a5, b5, h⟩ := ShIs_int h
  obtain ⟨n6, _, rfl, a6, b6, h⟩ := ShIs_int h
  obtain ⟨n7, _, rfl, a7, b7, h⟩ := ShIs_int h
  obtain ⟨n8, _, rfl, a8, b8, h⟩ := ShIs_int h
  obtain ⟨n9, _, rfl, a9, b9, h⟩ := ShIs_int h
  obtain ⟨l, _, rfl, hl, h⟩ := ShIs_str h
  obtain rfl := ShIs_nil h
  rw [i64_min] at a1 a2 a3 a4 a5 a6 a7 a8 a9
  rw [i64_max] at b1 b2 b3 b4 b5 b6 b7 b8 b9
  exact ⟨⟨n1, n2, n3, n4, n5, n6, n7, n8, n9, l⟩, rfl, ⟨a1, b1⟩, ⟨a2, b2⟩, ⟨a3, b3⟩, ⟨a4, b4⟩, ⟨a5, b5⟩, ⟨a6, b6⟩, ⟨a7, b7⟩, ⟨a8, b8⟩, ⟨a9, b9⟩, hl⟩

/-- A list of packed things is a mapped one. -/
theorem map_of {α : Type} (f : α → PV) (ok : α → Prop) : ∀ (xs : List PV), (∀ x ∈ xs, ∃ a, x = f a ∧ ok a) → ∃ l : List α, xs = l.map f ∧ ∀ a ∈ l, ok a
  | [], _ => ⟨[], rfl, by simp⟩
  | x :: xs, h => by
    obtain ⟨a, rfl, ha⟩ := h x (by simp)
    obtain ⟨l, rfl, hl⟩ := map_of f ok xs fun y hy => h y (by simp [hy])
    exact ⟨a :: l, rfl, by simpa using ⟨ha, hl⟩⟩

theorem evs_of {p : PV} (h : ∃ qs, (Sh.sl evSh).Is qs ∧ p = packE (.sl evSh) qs) : ∃ l : List Ev, p = .snap 10 (l.map Ev.pv) ∧ l.length ≤ 140737488351232 ∧ ∀ e ∈ l, Ev.ok0 e := by
  obtain ⟨qs, h1, rfl⟩ := h
  simp only [Sh.Is] at h1
  obtain ⟨xs, rfl, h2, h3⟩ := h1
  obtain ⟨l, rfl, hl⟩ := map_of Ev.pv Ev.ok0 xs fun x hx => by
    obtain ⟨qs, k1, rfl⟩ := h2 x hx
    exact ev_of k1
  exact ⟨l, rfl, by simpa using h3, hl⟩

theorem szFold_le : ∀ (l : List Ev) (x : Int), 0 ≤ l.foldl (fun x e => if x < 0 then -1 else szEv e x) x → 0 ≤ x ∧ ∀ e ∈ l, (e.text.length : Int) ≤ x
  | [], x, h => ⟨h, by simp⟩
  | e :: l, x, h => by
    rw [List.foldl_cons] at h
    obtain ⟨h1, h2⟩ := szFold_le l _ h
    by_cases hx : x < 0
    · rw [if_pos hx] at h1; omega
    · rw [if_neg hx] at h1 h2
      unfold szEv at h1 h2
      split at h1
      · omega
      · rename_i h3
        rw [if_neg h3] at h2
        refine ⟨by omega, fun f hf => ?_⟩
        rcases List.mem_cons.1 hf with rfl | hf
        · omega
        · have := h2 f hf; omega

theorem szEvS_le {l : List Ev} (h : 0 ≤ szEvS l 1048576) : l.length ≤ 1048576 ∧ ∀ e ∈ l, e.text.length ≤ 1048576 := by
  unfold szEvS at h
  split at h
  · omega
  · obtain ⟨h1, h2⟩ := szFold_le _ _ h
    exact ⟨by omega, fun e he => by have := h2 e he; omega⟩

theorem fnExactRiverWrite_spec (l : List Ev) (hl : l.length ≤ 140737488351232) (hok : ∀ e ∈ l, Ev.ok0 e)
    (hI : ∀ n : Int, 0 ≤ n → n ≤ 9999 → PSpec (bs W gs) n_strconv_Itoa [.int .i64 n] [] (fun r H => r = .str (dec n) ∧ H = [])) :
    PSpec (bs W gs) n_laws_FnExactRiverWrite [.snap 10 (l.map Ev.pv)] [] (fun r H => r = .bool true ∧ H = []) := by
  refine pspec_intro (fn := b_laws_FnExactRiverWrite) (bs_good W gs) rfl rfl rfl (Nat.le_of_ble_eq_true rfl) fun s0 _ => ?_
  have hT := bs_good W gs
  repeat refine prun_step hT rfl ?_
  refine prun_callx (szRiverEventS_spec l 1048576 (by omega) (by omega) (by omega) (fun e he => by have := (hok e he).text; omega)) rfl rfl rfl rfl rfl ?_
  repeat refine prun_step hT rfl ?_
  refine prun_if rfl (fun h => ?_) (fun h => ?_)
  · repeat refine prun_step hT rfl ?_
    exact ret_ends (ends_flat rfl rfl ⟨rfl, rfl⟩)
  obtain ⟨h1, h2⟩ := szEvS_le (l := l) (by omega)
  have hok' : ∀ e ∈ l, e.ok := fun e he => by
    obtain ⟨a1, a2, a3, a4, a5, a6, a7, a8, a9, a10⟩ := hok e he
    exact ⟨a1, a2, a3, a4, a5, a6, a7, a8, a9, h2 e he⟩
  repeat refine prun_step hT rfl ?_
  refine prun_callx (toRiverEventS_spec l h1) rfl rfl rfl rfl rfl ?_
  repeat refine prun_step hT rfl ?_
  refine prun_callx (specRiverWrite_spec l (by omega) hok') rfl rfl rfl rfl rfl ?_
  repeat refine prun_step hT rfl ?_
  refine prun_callx (toRiverEventS_spec l h1) rfl rfl rfl rfl rfl ?_
  repeat refine prun_step hT rfl ?_
  refine prun_callx (implRiverWrite_spec l (by omega) hok' hI) rfl rfl rfl rfl rfl ?_
  repeat refine prun_step hT rfl ?_
  refine prun_if rfl (fun h3 => ?_) (fun h3 => ?_)
  · exact absurd (write8_eq l) h3
  repeat refine prun_step hT rfl ?_
  refine prun_callx (toRiverEventS_spec l h1) rfl rfl rfl rfl rfl ?_
  repeat refine prun_step hT rfl ?_
  refine prun_callx (eqRiverEventS_spec l l (by omega)) rfl rfl rfl rfl rfl ?_
  repeat refine prun_step hT rfl ?_
  refine prun_if rfl (fun h4 => ?_) (fun h4 => ?_)
  · simp at h4
  repeat refine prun_step hT rfl ?_
  exact ret_ends (ends_flat rfl rfl ⟨rfl, rfl⟩)

end Go.PMS
/- The names of blocks are the reading's own: a contract holds under other names. -/
namespace Go.PM
open Go.RowKit

def sw (a b k : Nat) : Nat := if k = a then b else if k = b then a else k
theorem sw_sw (a b k : Nat) : sw a b (sw a b k) = k := by unfold sw; split <;> split <;> (try split) <;> omega
theorem sw_inj {a b k l : Nat} (h : sw a b k = sw a b l) : k = l := by rw [← sw_sw a b k, h, sw_sw]
theorem sw_tk {a b : Nat} (ha : a < 1000000) (hb : b < 1000000) {id t : Nat} (h : sw a b id = tk t) : id = tk t := by
  unfold sw at h; unfold tk at *; split at h <;> (try split at h) <;> omega

mutual
def PV.ren (a b : Nat) : PV → PV
  | .sref id l0 off len => .sref (sw a b id) l0 off len
  | .ptr id l0 i off => .ptr (sw a b id) l0 i off
  | .agg fs => .agg (rens a b fs)
  | .tup fs => .tup (rens a b fs)
  | .any => .any
  | .int k n => .int k n
  | .bool c => .bool c
  | .str s => .str s
  | .snap z xs => .snap z xs
  | .sp e o => .sp e o
  | .nilp => .nilp
  | .nils => .nils
def rens (a b : Nat) : List PV → List PV
  | [] => []
  | f :: fs => f.ren a b :: rens a b fs
end

mutual
theorem ren_ren (a b : Nat) : ∀ p : PV, (p.ren a b).ren a b = p
  | .sref .. => by simp [PV.ren, sw_sw]
  | .ptr .. => by simp [PV.ren, sw_sw]
  | .agg fs => by simp [PV.ren, rens_rens a b fs]
  | .tup fs => by simp [PV.ren, rens_rens a b fs]
  | .any => rfl
  | .int _ _ => rfl
  | .bool _ => rfl
  | .str _ => rfl
  | .snap _ _ => rfl
  | .sp _ _ => rfl
  | .nilp => rfl
  | .nils => rfl
theorem rens_rens (a b : Nat) : ∀ l : List PV, rens a b (rens a b l) = l
  | [] => rfl
  | f :: fs => by simp [rens, ren_ren a b f, rens_rens a b fs]
end

theorem rens_map (a b : Nat) : ∀ l : List PV, rens a b l = l.map (PV.ren a b)
  | [] => rfl
  | f :: fs => by simp [rens, rens_map a b fs]

def Blk.ren (a b : Nat) (k : Blk) : Blk := { k with elems := rens a b k.elems }
def Heap.ren (a b : Nat) (H : Heap) : Heap := H.map fun x => (sw a b x.1, x.2.ren a b)

theorem Heap.ren_get (a b : Nat) : ∀ (H : Heap) (k : Nat), (H.ren a b).get k = (H.get (sw a b k)).map (Blk.ren a b)
  | [], _ => rfl
  | (i, c) :: H, k => by
    show (if sw a b i = k then some (c.ren a b) else (Heap.ren a b H).get k) = _
    rw [Heap.get_cons, Heap.ren_get a b H k]
    by_cases h : sw a b i = k
    · subst h; rw [if_pos rfl, sw_sw, if_pos rfl]; rfl
    · rw [if_neg h, if_neg (fun e => h (by rw [e, sw_sw]))]

theorem Blk.ren_len (a b : Nat) (k : Blk) : (k.ren a b).elems.length = k.elems.length := by simp [Blk.ren, rens_map]

def St.ren (a b : Nat) (s : St) : St := { w := s.w, μ := fun k => s.μ (sw a b k), S := s.S, H := s.H.ren a b }

section
variable {a b : Nat} {s : St}
theorem RR_ren {p : PV} {v : Value} (h : RR s p v) : RR (s.ren a b) (p.ren a b) v := by
  cases p with
  | sref id l0 off len =>
    obtain ⟨h0, blk, h1, h2, h3⟩ := h
    refine ⟨h0, blk.ren a b, ?_, by rw [Blk.ren_len]; exact h2, fun e => ?_⟩
    · show (s.H.ren a b).get _ = _
      rw [Heap.ren_get, sw_sw, h1]; rfl
    · rw [Blk.ren_len] at e
      obtain ⟨b', c, ad, cap, m1, m2⟩ := h3 e
      exact ⟨b', c, ad, cap, by show s.μ (sw a b (sw a b id)) = _; rw [sw_sw]; exact m1, m2⟩
  | ptr id l0 i off =>
    obtain ⟨h0, blk, h1, h2, h3⟩ := h
    refine ⟨h0, blk.ren a b, ?_, by rw [Blk.ren_len]; exact h2, fun e => ?_⟩
    · show (s.H.ren a b).get _ = _
      rw [Heap.ren_get, sw_sw, h1]; rfl
    · rw [Blk.ren_len] at e
      obtain ⟨b', c, m1, m2⟩ := h3 e
      exact ⟨b', c, by show s.μ (sw a b (sw a b id)) = _; rw [sw_sw]; exact m1, m2⟩
  | sp e off => exact h
  | nilp => exact h
  | _ => exact h.elim

mutual
theorem CR_ren {w : World} {S : Nat → Prop} {R R' : PV → Value → Prop} (hR : ∀ p v, R p v → R' (p.ren a b) v) : ∀ {p : PV} {cs : List Value}, CR w S R p cs → CR w S R' (p.ren a b) cs
  | .agg fs, cs, h => by simp only [CR, PV.ren] at h ⊢; exact CRl_ren hR h
  | .tup _, _, h => by simp only [CR] at h
  | .any, _, h => by simp only [CR] at h
  | .int _ _, _, h => by simpa only [CR, PV.ren] using h
  | .bool _, _, h => by simpa only [CR, PV.ren] using h
  | .str _, _, h => by simpa only [CR, PV.ren] using h
  | .nils, _, h => by simpa only [CR, PV.ren] using h
  | .snap _ _, _, h => by simpa only [CR, PV.ren] using h
  | .sref id l0 off len, _, h => by simp only [CR] at h; obtain ⟨v, h1, h2⟩ := h; simp only [PV.ren, CR]; exact ⟨v, h1, hR (.sref id l0 off len) v h2⟩
  | .ptr id l0 i off, _, h => by simp only [CR] at h; obtain ⟨v, h1, h2⟩ := h; simp only [PV.ren, CR]; exact ⟨v, h1, hR (.ptr id l0 i off) v h2⟩
  | .sp e off, _, h => by simp only [CR] at h; obtain ⟨v, h1, h2⟩ := h; simp only [PV.ren, CR]; exact ⟨v, h1, hR (.sp e off) v h2⟩
  | .nilp, _, h => by simp only [CR] at h; obtain ⟨v, h1, h2⟩ := h; simp only [PV.ren, CR]; exact ⟨v, h1, hR .nilp v h2⟩
theorem CRl_ren {w : World} {S : Nat → Prop} {R R' : PV → Value → Prop} (hR : ∀ p v, R p v → R' (p.ren a b) v) : ∀ {fs : List PV} {cs : List Value}, CRl w S R fs cs → CRl w S R' (rens a b fs) cs
  | [], _, h => by simpa only [CRl, rens] using h
  | f :: fs, _, h => by
    simp only [CRl, rens] at h ⊢
    obtain ⟨v, r, h1, h2, h3⟩ := h
    exact ⟨v, r, h1, CR_ren hR h2, CRl_ren hR h3⟩
end

theorem VR1_ren {p : PV} {v : Value} (h : VR1 s p v) : VR1 (s.ren a b) (p.ren a b) v := by
  have hR : ∀ p v, RR s p v → RR (s.ren a b) (p.ren a b) v := fun p v h => RR_ren h
  cases p with
  | any => trivial
  | agg fs => obtain ⟨cs, h1, h2⟩ := h; exact ⟨cs, h1, CRl_ren hR h2⟩
  | tup fs => simp only [VR1, CR] at h
  | _ => exact CR_ren (w := s.w) (S := s.S) hR h

theorem VRs_ren : ∀ {ps : List PV} {us : List Value}, VRs s ps us → VRs (s.ren a b) (rens a b ps) us
  | [], _, h => h
  | _ :: _, _, ⟨u, r, h1, h2, h3⟩ => ⟨u, r, h1, VR1_ren h2, VRs_ren h3⟩

theorem VR_ren {p : PV} {v : Value} (h : VR s p v) : VR (s.ren a b) (p.ren a b) v := by
  cases p with
  | tup ps => obtain ⟨us, h1, h2⟩ := h; exact ⟨us, h1, VRs_ren h2⟩
  | any => trivial
  | _ => simp only [VR] at h; exact VR1_ren (a := a) (b := b) h

theorem ren_live (k : Nat) : (s.ren a b).liveImg k ↔ s.liveImg k := by
  constructor
  · rintro ⟨id, blk, c, h1, h2, h3, h4⟩
    rw [show (s.ren a b).H.get id = (s.H.get (sw a b id)).map (Blk.ren a b) from Heap.ren_get a b s.H id] at h1
    cases h : s.H.get (sw a b id) with
    | none => rw [h] at h1; cases h1
    | some bk =>
      rw [h] at h1
      obtain rfl : bk.ren a b = blk := by simpa using h1
      exact ⟨sw a b id, bk, c, h, h2, h3, h4⟩
  · rintro ⟨id, blk, c, h1, h2, h3, h4⟩
    refine ⟨sw a b id, blk.ren a b, c, ?_, h2, ?_, h4⟩
    · rw [show (s.ren a b).H.get (sw a b id) = (s.H.get (sw a b (sw a b id))).map (Blk.ren a b) from Heap.ren_get a b s.H _, sw_sw, h1]; rfl
    · show s.μ (sw a b (sw a b id)) = _
      rw [sw_sw]; exact h3

theorem ren_get {id : Nat} {blk : Blk} (h : (s.ren a b).H.get id = some blk) : ∃ bk, s.H.get (sw a b id) = some bk ∧ blk = bk.ren a b := by
  rw [show (s.ren a b).H.get id = (s.H.get (sw a b id)).map (Blk.ren a b) from Heap.ren_get a b s.H id] at h
  cases h2 : s.H.get (sw a b id) with
  | none => rw [h2] at h; cases h
  | some bk => rw [h2] at h; exact ⟨bk, rfl, by simpa using h.symm⟩

theorem ren_ok {B : Base} (ha : a < 1000000) (hb : b < 1000000) (ho : s.ok B) : (s.ren a b).ok B where
  lt := ho.lt
  blk id blk hk := by
    obtain ⟨bk, h1, rfl⟩ := ren_get hk
    obtain ⟨m, c, k1, k2, k3⟩ := ho.blk _ bk h1
    refine ⟨m, c, k1, by rw [Blk.ren_len]; exact k2, fun hc => ?_⟩
    obtain ⟨⟨cells, ty, fr, q1, q2, q3, q4⟩, k5, k6, k7⟩ := k3 hc
    refine ⟨⟨cells, ty, fr, q1, q2, q3, fun t ht => q4 t (by rw [ht]; unfold sw tk; split <;> (try split) <;> omega)⟩, fun i x hi => ?_, k6, k7⟩
    simp only [Blk.ren, rens_map, List.getElem?_map, Option.map_eq_some_iff] at hi
    obtain ⟨y, hy, rfl⟩ := hi
    obtain ⟨ecs, m1, m2, m3⟩ := k5 i y hy
    refine ⟨ecs, m1, ?_, m3⟩
    unfold St.R at m2 ⊢
    have hd : (bk.ren a b).data = bk.data := rfl
    rw [hd]
    cases hdd : bk.data with
    | true =>
      rw [hdd] at m2
      exact CR_ren (R := fun _ _ => False) (R' := fun _ _ => False) (fun _ _ h => h) m2
    | false =>
      rw [hdd] at m2
      exact CR_ren (R := RR s) (R' := RR (s.ren a b)) (fun p v h => RR_ren h) m2
  inj id id' blk blk' m c c' h1 h2 hl hl' m1 m2 hc hc' := by
    obtain ⟨bk, g1, rfl⟩ := ren_get h1
    obtain ⟨bk', g2, rfl⟩ := ren_get h2
    exact sw_inj (ho.inj _ _ bk bk' m c c' g1 g2 hl hl' m1 m2 hc hc')
  glob := ho.glob

theorem ren_has {H : Heap} (h : s.has H) : (s.ren a b).has (H.ren a b) := fun k => by
  rw [show (s.ren a b).H.get k = (s.H.get (sw a b k)).map (Blk.ren a b) from Heap.ren_get a b s.H k, Heap.ren_get, h]

theorem ren_ext {t : St} (h : Ext s t) : Ext (s.ren a b) (t.ren a b) where
  os := h.os
  tape := h.tape
  output := h.output
  size := h.size
  frame k hk hl := h.frame k hk fun hh => hl ((ren_live k).2 hh)
  stab := h.stab
  prov k hk := (h.prov k hk).imp id (Or.imp id fun hh => (ren_live k).2 hh)
  live k hk hl := (ren_live k).2 (h.live k hk ((ren_live k).1 hl))
  ids id blk hb := by
    obtain ⟨bk, g1, rfl⟩ := ren_get hb
    obtain ⟨bk', k1, k2, k3, k4⟩ := h.ids _ bk g1
    refine ⟨bk'.ren a b, ?_, k2, by rw [Blk.ren_len, Blk.ren_len]; exact k3, fun e => ?_⟩
    · rw [show (t.ren a b).H.get id = (t.H.get (sw a b id)).map (Blk.ren a b) from Heap.ren_get a b t.H id, k1]; rfl
    · rw [Blk.ren_len, Blk.ren_len] at e
      exact k4 e
end

mutual
theorem ren_id (a b : Nat) : ∀ (p : PV), p.keys = [] → p.ren a b = p
  | .agg fs, h => by simp only [PV.ren]; rw [rens_id a b fs (by simpa only [PV.keys] using h)]
  | .tup fs, h => by simp only [PV.ren]; rw [rens_id a b fs (by simpa only [PV.keys] using h)]
  | .sref .., h => by simp [PV.keys] at h
  | .ptr .., h => by simp [PV.keys] at h
  | .any, _ => rfl
  | .int _ _, _ => rfl
  | .bool _, _ => rfl
  | .str _, _ => rfl
  | .snap _ _, _ => rfl
  | .sp _ _, _ => rfl
  | .nilp, _ => rfl
  | .nils, _ => rfl
theorem rens_id (a b : Nat) : ∀ (l : List PV), keysL l = [] → rens a b l = l
  | [], _ => rfl
  | f :: fs, h => by
    simp only [keysL, List.append_eq_nil_iff] at h
    rw [rens, ren_id a b f h.1, rens_id a b fs h.2]
end

/-- A contract of a function that takes no memory and gives new blocks: they may bear other names. -/
theorem PSpec.ren {B : Base} {f : FuncId} {args : List PV} {post : PV → Heap → Prop} (a b : Nat) (ha : a < 1000000) (hb : b < 1000000) (hk : keysL args = []) (h : PSpec B f args [] post) :
    PSpec B f args [] fun r H => ∃ r0 H0, post r0 H0 ∧ r = r0.ren a b ∧ H = H0.ren a b := by
  refine ⟨h.ent, fun s cargs ho hH hv => ?_⟩
  have hv' := VRs_ren (a := a) (b := b) hv
  rw [rens_id a b args hk] at hv'
  refine (h.run (s.ren a b) cargs (ren_ok ha hb ho) (ren_has hH) hv').mono fun e w' ⟨v, t, r, H', h1, h2, h3, h4, h5, h6, h7⟩ => ?_
  have hx := ren_ext (a := a) (b := b) h4
  have hss : Ext s (s.ren a b |>.ren a b) := by
    have hget : ∀ k, ((s.ren a b).ren a b).H.get k = s.H.get k := fun k => by
      show ((s.H.ren a b).ren a b).get k = _
      rw [Heap.ren_get, Heap.ren_get, sw_sw]
      cases s.H.get k with
      | none => rfl
      | some bk => simp [Blk.ren, rens_rens]
    refine ⟨rfl, rfl, rfl, Nat.le_refl _, fun _ _ _ => rfl, fun _ h => h, fun _ h => .inl h, fun k _ hk => (ren_live k).1 ((ren_live k).1 hk), fun id blk hb => ⟨blk, by rw [hget]; exact hb, rfl, Nat.le_refl _, fun _ => ?_⟩⟩
    show s.μ (sw a b (sw a b id)) = _
    rw [sw_sw]
  exact ⟨v, t.ren a b, r.ren a b, H'.ren a b, h1, h2, ren_ok ha hb h3, hss.trans hx, VR_ren h5, ren_has h6, r, H', h7, rfl, rfl⟩

/-- Where the new block's name is an operation's, any other may stand. -/
theorem PSpec.key {B : Base} {f : FuncId} {args : List PV} {a : Nat} (b n : Nat) {blk : Blk} (ha : a < 1000000) (hb : b < 1000000) (hk : keysL args = []) (hd : keysL blk.elems = []) (h : PSpec B f args [] fun r H => r = .sref a n 0 n ∧ H = [(a, blk)]) :
    PSpec B f args [] fun r H => r = .sref b n 0 n ∧ H = [(b, blk)] :=
  (h.ren a b ha hb hk).mono fun r H ⟨r0, H0, ⟨e1, e2⟩, e3, e4⟩ => by
    subst e1; subst e2; subst e3; subst e4
    refine ⟨by simp [PV.ren, sw], ?_⟩
    have : blk.ren a b = blk := by simp only [Blk.ren, rens_id a b blk.elems hd]
    simp [Heap.ren, this, sw]

/-! ### an empty block -/
theorem prun_gh {F : Frm} {k : List It} {env : Env} {H : Heap} (id z : Nat) (hid : H.get id = none) (h : Prun F k env ((id, ⟨z, true, true, []⟩) :: H)) : Prun F k env H := by
  intro s a hr
  have hid' : s.H.get id = none := by rw [hr.has id, hid]
  have hx := St.gh_ext (s := s) (id := id) (z := z) hid'
  refine h (s.gh id z) a ⟨St.gh_ok hr.ok hid', fun i => ?_, hr.ext.trans hx, hr.dfr, ⟨hr.env.size, fun u => VR_ext hx hr.ok _ _ (hr.env.get u)⟩, hr.s0h⟩
  simp only [St.gh, Heap.get_cons]
  rw [hr.has i]
end Go.PM
/- The law FnExactRiverRead: its contract in the reading. -/
namespace Go.PMS
open Go Go.PM Go.Proofs Go.RowKit
variable {W : World} {gs : Nat}
set_option maxRecDepth 20000

/-- What is read, as a block of memory under any name. -/
theorem implRiverRead_key (κ : Nat) (hκ : κ < 1000000) (s : Str) (hs : s.length ≤ 1048576) (hm : ∀ t : St, t.ok (bs W gs) → ∃ m, t.w.cell? ⟨0, 0, none⟩ = some (.int .i64 m)) :
    PSpec (bs W gs) n_impl_RiverRead [.str s] [] (fun r H => r = .tup [.sref κ (readAll s).1.length 0 (readAll s).1.length, .int .i64 (readAll s).2] ∧ H = [(κ, ⟨10, true, true, (readAll s).1.map Ev.pv⟩)]) :=
  ((implRiverRead_spec s hs hm).ren 2 κ (by omega) hκ rfl).mono fun r H ⟨r0, H0, ⟨e1, e2⟩, e3, e4⟩ => by
    subst e1; subst e2; subst e3; subst e4
    have hk : keysL ((readAll s).1.map Ev.pv) = [] := by
      generalize (readAll s).1 = l
      induction l with
      | nil => rfl
      | cons e l ih => rw [List.map_cons, keysL, ih]; rfl
    refine ⟨by simp [PV.ren, rens, sw], ?_⟩
    have : Blk.ren 2 κ ⟨10, true, true, (readAll s).1.map Ev.pv⟩ = ⟨10, true, true, (readAll s).1.map Ev.pv⟩ := by simp only [Blk.ren, rens_id 2 κ _ hk]
    simp [Heap.ren, sw, this]

theorem all44_len : ∀ (ws : List Str) (i : Nat) (out : List Ev), (all44 i out ws).1.length ≤ out.length + ws.length
  | [], i, out => by simp [all44]
  | w :: ws, i, out => by
    rw [all44]
    split
    · have := all44_len ws (i + 1) out; simp; omega
    · split
      · simp
      · have := all44_len ws (i + 1) (out ++ [(read44 w).1])
        simp at this ⊢; omega

theorem readAll_len (s : Str) : (readAll s).1.length ≤ 60001 := by
  unfold readAll
  split
  · simp
  · rename_i h
    have h1 := all44_len (splitAt 10 s) 0 []
    have h2 := splitAt_len 10 s
    simp at h1; omega

theorem eqSelf_spec (l : List Ev) (hl : l.length ≤ 1099511627776) : PSpec (bs W gs) n_laws_eqRiverEventS [.snap 10 (l.map Ev.pv), .snap 10 (l.map Ev.pv)] [] (fun r H => r = .bool true ∧ H = []) := by
  have := eqRiverEventS_spec (W := W) (gs := gs) l l hl
  rwa [show decide (l = l) = true by simp] at this

set_option maxHeartbeats 4000000 in
theorem fnExactRiverRead_spec (s : Str) (hl : s.length ≤ 140737488351232) (hm : ∀ t : St, t.ok (bs W gs) → ∃ m, t.w.cell? ⟨0, 0, none⟩ = some (.int .i64 m)) :
    PSpec (bs W gs) n_laws_FnExactRiverRead [.str s] [] (fun r H => r = .bool true ∧ H = []) := by
  refine pspec_intro (fn := b_laws_FnExactRiverRead) (bs_good W gs) rfl rfl rfl (Nat.le_of_ble_eq_true rfl) fun s0 _ => ?_
  have hT := bs_good W gs
  repeat refine prun_step hT rfl ?_
  refine prun_if rfl (fun h => ?_) (fun h => ?_)
  · repeat refine prun_step hT rfl ?_
    exact ret_ends (ends_flat rfl rfl ⟨rfl, rfl⟩)
  have hs : s.length ≤ 1048576 := by omega
  repeat refine prun_step hT rfl ?_
  refine prun_callx (specRiverRead_spec s hs) rfl rfl rfl rfl rfl ?_
  repeat refine prun_step hT rfl ?_
  have hrl := readAll_len s
  refine prun_cw (G := []) (implRiverRead_key 5 (by omega) s hs hm) rfl rfl trivial rfl ⟨.inr rfl, trivial⟩ rfl rfl (fun i => rfl) ?_
  obtain ⟨l, z, hR⟩ : ∃ l z, readAll s = (l, z) := ⟨_, _, rfl⟩
  rw [hR] at hrl ⊢
  simp only at hrl
  have hml : (l.map Ev.pv).length = l.length := by simp
  have hmk : ((marks l.length).map Ev.pv).length = l.length := by simp [marks_len]
  repeat refine prun_step hT rfl ?_
  refine prun_lend (args := [.snap 10 (l.map Ev.pv), .snap 10 (l.map Ev.pv)]) (eqSelf_spec l (by omega)) rfl rfl (vws_cons (vw_sref rfl hml) (vws_cons (vw_flat rfl) vws_nil)) rfl rfl rfl ?_
  repeat refine prun_step hT rfl ?_
  refine prun_if rfl (fun h1 => ?_) (fun h1 => ?_)
  · exact absurd rfl h1
  repeat refine prun_step hT rfl ?_
  refine prun_cw (G := [(5, ⟨10, true, true, l.map Ev.pv⟩)]) (markRiverEventS_spec 5 l (by omega)) rfl rfl ⟨rfl, .inl rfl, trivial⟩ rfl ⟨.inl rfl, trivial⟩ rfl rfl (H2 := [(5, ⟨10, true, true, (marks l.length).map Ev.pv⟩)]) (fun i => by by_cases h : 5 = i <;> simp [Heap.get, h]) ?_
  repeat refine prun_step hT rfl ?_
  refine prun_lend (args := [.snap 10 ((marks l.length).map Ev.pv), .int .i64 1]) (heldRiverEventS_spec l.length (by omega)) rfl rfl (vws_cons (vw_sref rfl hmk) (vws_cons (vw_flat rfl) vws_nil)) rfl rfl rfl ?_
  repeat refine prun_step hT rfl ?_
  refine prun_if rfl (fun h3 => ?_) (fun h3 => ?_)
  · exact absurd rfl h3
  repeat refine prun_step hT rfl ?_
  refine prun_cw (G := []) (implRiverRead_key 9 (by omega) s hs hm) rfl rfl trivial rfl ⟨.inr rfl, trivial⟩ rfl rfl (fun i => rfl) ?_
  rw [hR]
  repeat refine prun_step hT rfl ?_
  refine prun_lend (args := [.snap 10 (l.map Ev.pv), .snap 10 (l.map Ev.pv)]) (eqSelf_spec l (by omega)) rfl rfl (vws_cons (vw_sref rfl hml) (vws_cons (vw_flat rfl) vws_nil)) rfl rfl rfl ?_
  repeat refine prun_step hT rfl ?_
  refine prun_if rfl (fun h4 => ?_) (fun h4 => ?_)
  · exact absurd rfl h4
  repeat refine prun_step hT rfl ?_
  refine prun_lend (args := [.snap 10 ((marks l.length).map Ev.pv), .int .i64 1]) (heldRiverEventS_spec l.length (by omega)) rfl rfl (vws_cons (vw_sref rfl hmk) (vws_cons (vw_flat rfl) vws_nil)) rfl rfl rfl ?_
  repeat refine prun_step hT rfl ?_
  refine prun_if rfl (fun h5 => ?_) (fun h5 => ?_)
  · exact absurd rfl h5
  repeat refine prun_step hT rfl ?_
  exact ret_ends (ends_flat rfl rfl ⟨rfl, rfl⟩)

end Go.PMS
