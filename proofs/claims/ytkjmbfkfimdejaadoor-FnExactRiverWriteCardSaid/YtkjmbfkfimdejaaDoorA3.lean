/- The operations that strings.Builder is made of. -/
import Derived.Test.YtkjmbfkfimdejaaDoorA2
import Derived.Lib.Builder
import Derived.Lib.UnsafeStr
import Derived.Shelf.Strings.Builder1
import Derived.Shelf.Strings.BuilderF
import Derived.Shelf.Strings.BuilderK
import Derived.Shelf.Utf8.RuneCount
import Derived.Shelf.Strconv.Itoa0
import Derived.Shelf.Strconv.Itoa1
import Derived.Shelf.LaysM
import Derived.Shelf.Strconv.Itoa2
import Derived.Shelf.Strconv.Itoa3
import Derived.Shelf.Strings.Search1
import Derived.Shelf.Strings.Search2
import Derived.Shelf.Strings.Search3
import Derived.Shelf.Strings.Count
import Derived.Shelf.Strings.Shaped
import Derived.Shelf.Strings.Split
import Derived.Shelf.Strings.SplitShaped
import Derived.Shelf.Unicode.Decode
import Derived.Shelf.Strings.RuneCount
import Derived.Shelf.Strings.Explode
import Derived.Shelf.Unicode.DecodeSlow
import Derived.Shelf.Unicode.DecodeAny
import Derived.Shelf.Strings.BuilderCap
import Derived.Test.YtkjmbfkfimdejaaDoorProg
import Derived.ProofKit
import Derived.OpenShut
import Derived.Carry
import Derived.Deep.DeepHandedRow
import Derived.Deep.Slices
import Derived.Lib.LaidTab
namespace Go.PM
open Go.RowKit

theorem Ty.ptr {P : Program} {t : TypeId} {e : TyE} (h : Ty P t e) {x : Nat} (hk : e.kind = .ptr x) : P.underlying t = some (.pointer x) := by
  obtain ⟨i, d, z, _, hu, _, _, hkk, _⟩ := h.ok
  rw [hk] at hkk
  cases d <;> simp [kindOk] at hkk
  subst hkk; exact hu

section ops
variable {B : Base} {d : Option Nat} {ty : TypeId} {ps : String} {af : Array Edge} {g : Option (Nat × Bool)} {env : Env} {H : Heap}

theorem od_eql_nilp {t t' : TypeId} {x y : Operand} {q : Nat} {e : TyE} (hT : B.good) (ht : B.T[t]? = some (some e)) (hk : e.kind = .ptr q) (hx : env.ev x = .nilp) (hy : env.ev y = .nilp) :
    OpD B ⟨d, .binOp .eql t x y t', ty, ps, af, g⟩ env [] H (.bool true) [] :=
  opd_pure fun s a _ h => by
    have h1 := h x (by simp [Op.operands])
    have h2 := h y (by simp [Op.operands])
    rw [hx] at h1
    rw [hy] at h2
    have hu := (hT.ty ht).ptr hk
    have e1 : a.eval x = .pointer none := by simpa [VR, VR1, CR, RR] using h1
    have e2 : a.eval y = .pointer none := by simpa [VR, VR1, CR, RR] using h2
    have hq : ∀ d : Nat, (Op.equalIn (d + 1) t (.pointer none) (.pointer none)).run B.P s.w = .ok true s.w := fun d => by simp [Op.equalIn, run_underlying hu]
    exact ⟨.bool true, by simp [execOp, e1, e2, eqGuard_at_pointer, binOp, Op.equal, Op.maxDepth, hq 9999], VR_bool.2 rfl⟩

theorem od_eql_ptr_nil {t t' : TypeId} {x y : Operand} {q id l0 i off : Nat} {blk : Blk} {e : TyE} (hT : B.good) (ht : B.T[t]? = some (some e)) (hk : e.kind = .ptr q) (hx : env.ev x = .ptr id l0 i off) (hy : env.ev y = .nilp) (hb : H.get id = some blk) (hl : blk.elems.length = l0) :
    OpD B ⟨d, .binOp .eql t x y t', ty, ps, af, g⟩ env [id] H (.bool false) [] := by
  intro env' H' he hr
  refine opw_quiet fun s a N ho hH hE => ?_
  have h1 := hE.ev x
  have h2 := hE.ev y
  rw [he x (by simp [Op.operands]), hx] at h1
  rw [he y (by simp [Op.operands]), hy] at h2
  obtain ⟨_, blk', k1, _, k3⟩ := VR_ptr.1 h1
  rw [hH, hr id (by simp), hb] at k1
  obtain rfl : blk = blk' := by simpa using k1
  obtain ⟨b, c, _, _, k6, _⟩ := k3 hl
  have hu := (hT.ty ht).ptr hk
  have e2 : a.eval y = .pointer none := by simpa [VR, VR1, CR, RR] using h2
  have hq : ∀ (d : Nat) (u : Addr), (Op.equalIn (d + 1) t (.pointer (some u)) (.pointer none)).run B.P s.w = .ok false s.w := fun d u => by simp [Op.equalIn, run_underlying hu]
  exact ⟨.bool false, by simp [execOp, k6, e2, eqGuard_at_pointer, binOp, Op.equal, Op.maxDepth, hq 9999], VR_bool.2 rfl⟩

theorem od_neq_ptr_same {t t' : TypeId} {x y : Operand} {q id l0 i off : Nat} {blk : Blk} {e ee : TyE} (hT : B.good) (ht : B.T[t]? = some (some e)) (hk : e.kind = .ptr q) (hq : B.T[q]? = some (some ee)) (hx : env.ev x = .ptr id l0 i off) (hy : env.ev y = .ptr id l0 i off) (hb : H.get id = some blk) (hl : blk.elems.length = l0) :
    OpD B ⟨d, .binOp .neq t x y t', ty, ps, af, g⟩ env [id] H (.bool false) [] := by
  intro env' H' he hr
  refine opw_quiet fun s a N ho hH hE => ?_
  have h1 := hE.ev x
  have h2 := hE.ev y
  rw [he x (by simp [Op.operands]), hx] at h1
  rw [he y (by simp [Op.operands]), hy] at h2
  obtain ⟨_, blk', k1, _, k3⟩ := VR_ptr.1 h1
  rw [hH, hr id (by simp), hb] at k1
  obtain rfl : blk = blk' := by simpa using k1
  obtain ⟨b, c, k4, _, k6, _⟩ := k3 hl
  obtain ⟨_, blk', m1, _, m3⟩ := VR_ptr.1 h2
  rw [hH, hr id (by simp), hb] at m1
  obtain rfl : blk = blk' := by simpa using m1
  obtain ⟨b', c', m4, _, m6, _⟩ := m3 hl
  rw [k4] at m4
  obtain ⟨rfl, rfl⟩ : b = b' ∧ c = c' := by simpa using m4
  obtain ⟨ii, _, _, hi, _⟩ := (hT.ty hq).ok
  refine ⟨.bool false, ?_, VR_bool.2 rfl⟩
  have := Lib.run_neq_ptr_same (P := B.P) s.w (tp := t) ⟨b, i * blk.z + off, none⟩ ((hT.ty ht).ptr hk) hi
  simp only [execOp, k6, m6, eqGuard_at_pointer, Sem.run_bind, Sem.run_pure, Result.andThen_ok, this]

/-- To unsafe.Pointer, where a block of its type lies: the pointer as it is. -/
theorem od_to_unsafe {t t' : TypeId} {x : Operand} {q : Nat} {blk : Blk} {e ee : TyE} (hT : B.good) (ht : B.T[t]? = some (some e)) (hk : e.kind = .ptr q) (hq : B.T[q]? = some (some ee)) (hz : ee.size ≠ 0) (hu' : B.P.underlying t' = some .unsafePointer)
    (hx : env.ev x = .ptr (tk q) 1 0 0) (hb : H.get (tk q) = some blk) (hl : blk.elems.length = 1) (hbz : blk.z = ee.size) :
    OpD B ⟨d, .convert t t' x, ty, ps, af, g⟩ env [tk q] H (.ptr (tk q) 1 0 0) [] := by
  intro env' H' he hr
  refine opw_quiet fun s a N ho hH hE => ?_
  have h1 := hE.ev x
  rw [he x (by simp [Op.operands]), hx] at h1
  obtain ⟨_, blk', k1, _, k3⟩ := VR_ptr.1 h1
  have hb2 := k1
  rw [hH, hr (tk q) (by simp), hb] at k1
  obtain rfl : blk = blk' := by simpa using k1
  obtain ⟨b, c, k4, k5, k6, _⟩ := k3 hl
  obtain ⟨b', c', m1, _, m3⟩ := ho.blk _ _ hb2
  rw [k4] at m1
  obtain ⟨rfl, rfl⟩ : b = b' ∧ c = c' := by simpa using m1
  obtain ⟨⟨cells, cty, fr, q1, q2, _, q4⟩, _⟩ := m3 k5
  obtain ⟨ii, _, _, hi, _, hs, _⟩ := (hT.ty hq).ok
  have hsh : s.w.shape? b = some (cty, cells.size) := by simp [World.shape?, q1]
  have hlt : 0 < cells.size := by rw [q2, hbz]; exact Nat.mul_pos k5 (by omega)
  refine ⟨_, ?_, h1⟩
  have := Lib.run_to_unsafe (P := B.P) s.w (src := t) (dst := t') ⟨b, 0, none⟩ ((hT.ty ht).ptr hk) hu' hi (by rw [hs]; exact hz) hsh hlt
  simp only [Nat.zero_mul, Nat.zero_add] at k6
  simp only [execOp, k6, Sem.run_bind, this, Result.andThen_ok, Sem.run_pure]

theorem od_from_unsafe {t t' : TypeId} {x : Operand} {q : Nat} {blk : Blk} {e ee : TyE} (hT : B.good) (ht : B.T[t']? = some (some e)) (hk : e.kind = .ptr q) (hq : B.T[q]? = some (some ee)) (hu' : B.P.underlying t = some .unsafePointer)
    (hx : env.ev x = .ptr (tk q) 1 0 0) (hb : H.get (tk q) = some blk) (hl : blk.elems.length = 1) (hlies : ∀ c, 0 < c → liesAt B.P B.P.depth q (c * blk.z / B.P.cellsOf q) 0 q 1 = true) :
    OpD B ⟨d, .convert t t' x, ty, ps, af, g⟩ env [tk q] H (.ptr (tk q) 1 0 0) [] := by
  intro env' H' he hr
  refine opw_quiet fun s a N ho hH hE => ?_
  have h1 := hE.ev x
  rw [he x (by simp [Op.operands]), hx] at h1
  obtain ⟨_, blk', k1, _, k3⟩ := VR_ptr.1 h1
  have hb2 := k1
  rw [hH, hr (tk q) (by simp), hb] at k1
  obtain rfl : blk = blk' := by simpa using k1
  obtain ⟨b, c, k4, k5, k6, _⟩ := k3 hl
  obtain ⟨b', c', m1, _, m3⟩ := ho.blk _ _ hb2
  rw [k4] at m1
  obtain ⟨rfl, rfl⟩ : b = b' ∧ c = c' := by simpa using m1
  obtain ⟨⟨cells, cty, fr, q1, q2, _, q4⟩, _⟩ := m3 k5
  obtain rfl : cty = q := q4 q rfl
  obtain ⟨ii, _, _, hi, _, hs, _⟩ := (hT.ty hq).ok
  have hsh : s.w.shape? b = some (cty, cells.size) := by simp [World.shape?, q1]
  refine ⟨_, ?_, h1⟩
  have := Lib.run_from_unsafe (P := B.P) s.w (src := t) (dst := t') ⟨b, 0, none⟩ hu' ((hT.ty ht).ptr hk) hi hsh (by rw [q2]; exact hlies c k5)
  simp only [Nat.zero_mul, Nat.zero_add] at k6
  simp only [execOp, k6, Sem.run_bind, this, Result.andThen_ok, Sem.run_pure]

/-- A call of a function without a body that hands on its argument. -/
theorem od_same {f : FuncId} {x : Operand} {ts : Array TypeId} {p : PV} {fn : Func} (hf : B.P.funcs[f]? = some fn) (hname : (fn.name == "runtime.NumGoroutine") = false) (hb : fn.body.isNone = true) (hn : Extern.findNext fn = none) (he : Extern.find fn = some Extern.AbiNoEscape.same) (hx : env.ev x = p) :
    OpD B ⟨d, .call { callee := .value (.func f), args := #[x], argTypes := ts }, ty, ps, af, g⟩ env [] H p [] :=
  opd_pure fun s a _ h => by
    have h1 := h x (by simp [Op.operands, Call.operands])
    rw [hx] at h1
    refine ⟨a.eval x, ?_, h1⟩
    have := run_callFunc_extern (P := B.P) hf hname hb hn he #[a.eval x] s.w
    have ef : a.eval (.func f) = .func (.func f) #[] #[] := rfl
    simp only [execOp, resolve, ef, Deferred.ofValue, Sem.run_bind, Sem.run_pure, Result.andThen_ok, invoke, Array.append_empty, Array.empty_append, List.map_toArray, List.map_cons, List.map_nil, this, Lib.run_noEscape]

theorem od_sliceData {t : TypeId} {x : Operand} {id n : Nat} {blk : Blk} (hx : env.ev x = .sref id n 0 n) (hb : H.get id = some blk) (hl : blk.elems.length = n) (hn : 0 < n) :
    OpD B ⟨d, .call { callee := .builtin .unsafeSliceData, args := #[x], argTypes := #[t] }, ty, ps, af, g⟩ env [id] H (.ptr id n 0 0) [] := by
  intro env' H' he hr
  refine opw_quiet fun s a N ho hH hE => ?_
  have h1 := hE.ev x
  rw [he x (by simp [Op.operands, Call.operands]), hx] at h1
  obtain ⟨_, blk', k1, _, k3⟩ := VR_sref.1 h1
  have hb2 := k1
  rw [hH, hr id (by simp), hb] at k1
  obtain rfl : blk = blk' := by simpa using k1
  obtain ⟨b, c, ad, cap, m1, m2, m3, m4, m5, m6⟩ := k3 hl
  have hcap : cap ≠ 0 := by omega
  have had := m6.resolve_left hcap
  simp only [Nat.zero_mul] at had
  subst had
  refine ⟨.pointer (some ⟨b, 0, none⟩), ?_, VR_ptr.2 ⟨⟨_, rfl⟩, blk, hb2, by omega, fun _ => ⟨b, c, m1, by omega, by simp, hn⟩⟩⟩
  simp only [execOp, resolve, invoke, builtin, List.map_toArray, List.map_cons, List.map_nil, m2, Sem.run_bind, Sem.run_pure, Result.andThen_ok, Lib.run_unsafeSliceData_row s.w #[t] ty ⟨b, 0, none⟩ n cap hcap]

theorem od_sliceData_nil {t : TypeId} {x : Operand} (hx : env.ev x = .nils) :
    OpD B ⟨d, .call { callee := .builtin .unsafeSliceData, args := #[x], argTypes := #[t] }, ty, ps, af, g⟩ env [] H .nilp [] :=
  opd_pure fun s a _ h => by
    have h1 := h x (by simp [Op.operands, Call.operands])
    rw [hx] at h1
    refine ⟨.pointer none, ?_, by simp [VR, VR1, CR, RR]⟩
    simp only [execOp, resolve, invoke, builtin, List.map_toArray, List.map_cons, List.map_nil, VR_nils.1 h1, Sem.run_bind, Sem.run_pure, Result.andThen_ok, Lib.run_unsafeSliceData_nil s.w #[t] ty 0 0]

theorem od_unsafeString_nil {t t' : TypeId} {x y : Operand} (hx : env.ev x = .nilp) (hy : env.ev y = .int .i64 0) :
    OpD B ⟨d, .call { callee := .builtin .unsafeString, args := #[x, y], argTypes := #[t, t'] }, ty, ps, af, g⟩ env [] H (.str []) [] :=
  opd_pure fun s a _ h => by
    have h1 := h x (by simp [Op.operands, Call.operands])
    have h2 := h y (by simp [Op.operands, Call.operands])
    rw [hx] at h1
    rw [hy] at h2
    have e1 : a.eval x = .pointer none := by simpa [VR, VR1, CR, RR] using h1
    refine ⟨.string .empty, ?_, VR_str.2 rfl⟩
    simp only [execOp, resolve, invoke, builtin, List.map_toArray, List.map_cons, List.map_nil, e1, VR_int.1 h2, Sem.run_bind, Sem.run_pure, Result.andThen_ok, Lib.run_unsafeString_none s.w t t' ty none]

/-- Freezing a block's cells: from then on it is data. -/
theorem freeze_heap (w : World) (b n k : Nat) (h : k ≠ b) : (w.freeze ⟨b, 0, none⟩ n).heap[k]? = w.heap[k]? := by
  unfold World.freeze
  split
  · rfl
  · simp only [Array.getElem?_modify]
    rw [if_neg (Ne.symm h)]
theorem freeze_block (w : World) (b n : Nat) {cells : Array Value} {t : TypeId} {fr : Nat × Nat} (h : w.heap[b]? = some (.cells cells t fr)) : ∃ fr', (w.freeze ⟨b, 0, none⟩ n).heap[b]? = some (.cells cells t fr') := by
  unfold World.freeze
  split
  · exact ⟨fr, h⟩
  · simp only [Array.getElem?_modify, if_true, h, Option.map_some]
    exact ⟨_, rfl⟩

def St.fz (s : St) (b n id : Nat) (blk : Blk) : St :=
  { w := s.w.freeze ⟨b, 0, none⟩ n, μ := s.μ, S := fun k => s.S k ∨ k = b, H := (id, { blk with live := false }) :: s.H }

section
variable {s : St} {id b c n : Nat} {blk : Blk}
theorem St.fz_ext (hb : s.H.get id = some blk) (hlv : blk.live = true) (hμ : s.μ id = some (b, c)) (hc : 0 < c) : Ext s (s.fz b n id blk) where
  os := by simp only [St.fz, World.freeze]; split <;> rfl
  tape := by simp only [St.fz, World.freeze]; split <;> rfl
  output := by simp only [St.fz, World.freeze]; split <;> rfl
  size := by simp only [St.fz, World.freeze]; split <;> simp
  frame k hk hn := freeze_heap _ _ _ _ (fun e => hn ⟨id, blk, c, hb, hlv, by rw [e]; exact hμ, hc⟩)
  stab _ h := .inl h
  prov k h := by
    rcases h with h | rfl
    · exact .inl h
    · exact .inr (.inr ⟨id, blk, c, hb, hlv, hμ, hc⟩)
  live k _ := by
    rintro ⟨j, bk, c', h1, h2, h3, h4⟩
    simp only [St.fz, Heap.get_cons] at h1
    split at h1
    · obtain rfl : _ = bk := by simpa using h1
      cases h2
    · exact ⟨j, bk, c', h1, h2, h3, h4⟩
  ids k bk hk := by
    by_cases e : id = k
    · subst e
      rw [hb] at hk
      obtain rfl : blk = bk := by simpa using hk
      exact ⟨{ blk with live := false }, by simp [St.fz, Heap.get_cons], rfl, Nat.le_refl _, fun _ => rfl⟩
    · exact ⟨bk, by simp only [St.fz, Heap.get_cons]; rw [if_neg e]; exact hk, rfl, Nat.le_refl _, fun _ => rfl⟩

theorem St.fz_ok {B : Base} (hb : s.H.get id = some blk) (hlv : blk.live = true) (hd : blk.data = true) (hμ : s.μ id = some (b, c)) (hc : 0 < c) (ho : s.ok B) : (s.fz b n id blk).ok B := by
  have hx := St.fz_ext (n := n) hb hlv hμ hc
  have hsame : ∀ k, k ≠ b → (s.fz b n id blk).w.heap[k]? = s.w.heap[k]? := fun k hk => freeze_heap _ _ _ _ hk
  have hnS : ¬ s.S b := by
    obtain ⟨b', c', k1, _, k3⟩ := ho.blk id blk hb
    rw [hμ] at k1
    obtain ⟨rfl, rfl⟩ : b = b' ∧ c = c' := by simpa using k1
    exact (k3 hc).2.2.1 hlv
  refine ⟨fun k h => Nat.lt_of_lt_of_le ?_ hx.size, fun k bk hk => ?_, fun k k' bk bk' b1 c1 c2 h1 h2 hl hl' m1 m2 hc1 hc2 => ?_, fun k h => ⟨.inl (ho.glob k h).1, ?_⟩⟩
  · rcases h with h | rfl
    · exact ho.lt k h
    · exact St.blk_lt ho hb hμ hc
  · simp only [St.fz, Heap.get_cons] at hk
    split at hk
    · rename_i e
      subst e
      obtain rfl : _ = bk := by simpa using hk
      obtain ⟨b1, c1, k1, k2, k3⟩ := ho.blk id blk hb
      rw [hμ] at k1
      obtain ⟨rfl, rfl⟩ : b = b1 ∧ c = c1 := by simpa using k1
      refine ⟨b, c, hμ, k2, fun _ => ?_⟩
      obtain ⟨⟨cells, ty, fr, q1, q2, q3⟩, k5, k6, k7⟩ := k3 hc
      obtain ⟨fr', q1'⟩ := freeze_block s.w b n q1
      refine ⟨⟨cells, ty, fr', q1', q2, fun h => (by cases h), q3.2⟩, fun i x hi => ?_, fun h => (by cases h), fun _ => Or.inr rfl⟩
      obtain ⟨ecs, m1, m2, m3⟩ := k5 i x hi
      refine ⟨ecs, m1, ?_, fun j v hj => ?_⟩
      · have hd2 : ({ blk with live := false } : Blk).data = true := hd
        rw [hd2]
        rw [hd] at m2
        exact CR_mono hx.stab (fun k hk => hx.keep ho hk) _ _ _ _ (fun _ _ h => h) m2
      · have := m3 j v hj
        simp only [World.cell?, q1] at this
        simp only [World.cell?, St.fz, q1']
        exact this
    · rename_i e
      refine (ho.blk k bk hk).keep hx ho rfl (fun b1 c1 h1 h2 => hsame b1 fun hbb => ?_) (fun b1 c1 h1 h2 hl hS => ?_)
      · subst hbb
        by_cases hl : bk.live = true
        · exact e (ho.inj id k blk bk b1 c c1 hb hk hlv hl hμ h1 hc h2)
        · obtain ⟨b', c', k1, _, k3⟩ := ho.blk k bk hk
          rw [h1] at k1
          obtain ⟨rfl, rfl⟩ : b1 = b' ∧ c1 = c' := by simpa using k1
          exact hnS ((k3 h2).2.2.2 (by simpa using hl))
      · rcases hS with hS | rfl
        · obtain ⟨b', c', k1, _, k3⟩ := ho.blk k bk hk
          rw [h1] at k1
          obtain ⟨rfl, rfl⟩ : b1 = b' ∧ c1 = c' := by simpa using k1
          exact (k3 h2).2.2.1 hl hS
        · exact e (ho.inj id k blk bk b1 c c1 hb hk hlv hl hμ h1 hc h2)
  · simp only [St.fz, Heap.get_cons] at h1 h2
    split at h1
    · obtain rfl : _ = bk := by simpa using h1
      cases hl
    · split at h2
      · obtain rfl : _ = bk' := by simpa using h2
        cases hl'
      · exact ho.inj k k' bk bk' b1 c1 c2 h1 h2 hl hl' m1 m2 hc1 hc2
  · rw [← (ho.glob k h).2]
    exact hsame k fun e => hnS (e ▸ (ho.glob k h).1)
end

theorem od_unsafeString {t' : TypeId} {x y : Operand} {et : Nat} {l : List UInt8} (hT : B.good) {pt : TypeId} {ep : TyE} (hp : B.T[pt]? = some (some ep)) (hpk : ep.kind = .ptr et) (hc : B.P.cellsOf et = 1)
    (hx : env.ev x = .ptr (tk et) l.length 0 0) (hy : env.ev y = .int .i64 (l.length : Nat)) (hb : H.get (tk et) = some ⟨1, true, true, bytesP l⟩) (hl : l ≠ []) (h63 : l.length ≤ 9223372036854775807) :
    OpD B ⟨d, .call { callee := .builtin .unsafeString, args := #[x, y], argTypes := #[pt, t'] }, ty, ps, af, g⟩ env [tk et] H (.str l) [(tk et, ⟨1, false, true, bytesP l⟩)] := by
  intro env' H' he hr s a N ho hH hE
  have h1 := hE.ev x
  have h2 := hE.ev y
  rw [he x (by simp [Op.operands, Call.operands]), hx] at h1
  rw [he y (by simp [Op.operands, Call.operands]), hy] at h2
  have hlen : (bytesP l).length = l.length := by simp [bytesP]
  obtain ⟨_, blk', k1, _, k3⟩ := VR_ptr.1 h1
  have hb2 := k1
  rw [hH, hr (tk et) (by simp), hb] at k1
  obtain rfl : (⟨1, true, true, bytesP l⟩ : Blk) = blk' := by simpa using k1
  obtain ⟨b, c, k4, k5, k6, _⟩ := k3 hlen
  obtain ⟨b', c', m1, m2, m3⟩ := ho.blk _ _ hb2
  rw [k4] at m1
  obtain ⟨rfl, rfl⟩ : b = b' ∧ c = c' := by simpa using m1
  obtain ⟨⟨cells, cty, fr, q1, q2, _, q4⟩, q5, _⟩ := m3 k5
  obtain rfl : cty = et := q4 et rfl
  have hsh : s.w.shape? b = some (cty, cells.size) := by simp [World.shape?, q1]
  have hcell : ∀ j x, l[j]? = some x → s.w.cell? ((⟨b, 0, none⟩ : Addr).add j) = some (.int .u8 x.toNat) := by
    intro j x hj
    obtain ⟨ecs, r1, r2, r3⟩ := q5 j (.int .u8 x.toNat) (by simp [bytesP, hj])
    simp only [CR] at r2
    subst r2
    have := r3 0 _ rfl
    simp only [Nat.mul_one, Nat.add_zero] at this
    rw [Addr.add_mid, Nat.zero_add]
    exact this
  have hrun := Lib.run_unsafeString_row (P := B.P) s.w pt t' ty cty ((hT.ty hp).ptr hpk) hc b cells.size hsh l hl (by rw [q2]; simp only [Nat.mul_one]; simpa [hlen] using m2) h63 hcell
  simp only [Nat.zero_mul, Nat.zero_add] at k6
  unfold Yields
  have : (execOp a.eval (⟨d, .call { callee := .builtin .unsafeString, args := #[x, y], argTypes := #[pt, t'] }, ty, ps, af, g⟩ : Oper)).run B.P s.w = .ok (.value (.string ⟨l.toArray⟩)) (s.w.freeze ⟨b, 0, none⟩ l.length) := by
    simp only [execOp, resolve, invoke, builtin, List.map_toArray, List.map_cons, List.map_nil, k6, VR_int.1 h2, Sem.run_bind, Sem.run_pure, Result.andThen_ok, hrun]
  rw [this]
  refine ⟨s.fz b l.length (tk cty) ⟨1, true, true, bytesP l⟩, .str l, _, rfl, St.fz_ok hb2 rfl rfl k4 k5 ho, St.fz_ext hb2 rfl k4 k5, VR_str.2 rfl, fun k => ?_, rfl, rfl⟩
  simp only [St.fz, Heap.get_cons, List.cons_append, List.nil_append]
  rw [hH k]
end ops
end Go.PM
/- strings.Builder: its contracts. -/
namespace Go.PMS
open Go Go.PM Go.Proofs Go.RowKit
variable {W : World} {gs : Nat}
set_option maxRecDepth 20000

abbrev kB : Nat := tk t_strings_Builder
abbrev kb : Nat := tk t_uint8

/-- A builder that holds the bytes `l`. -/
def bld (l : Str) : Heap := match l with
  | [] => [(kB, ⟨2, true, false, [.agg [.nilp, .nils]]⟩)]
  | c :: cs => [(kB, ⟨2, true, false, [.agg [.ptr kB 1 0 0, .sref kb (cs.length + 1) 0 (cs.length + 1)]]⟩), (kb, ⟨1, true, true, bytesP (c :: cs)⟩)]

theorem bld_ne {l : Str} (h : l ≠ []) : bld l = [(kB, ⟨2, true, false, [.agg [.ptr kB 1 0 0, .sref kb l.length 0 l.length]]⟩), (kb, ⟨1, true, true, bytesP l⟩)] := by
  cases l with
  | nil => exact absurd rfl h
  | cons c cs => rfl

theorem unsUnder : PP.underlying t_unsafe_Pointer = some .unsafePointer := by kernel_rfl
theorem bldLies (c : Nat) (h : 0 < c) : liesAt PP PP.depth t_strings_Builder (c * 2 / PP.cellsOf t_strings_Builder) 0 t_strings_Builder 1 = true := by
  have hc : PP.cellsOf t_strings_Builder = 2 := by kernel_rfl
  rw [hc, Nat.mul_div_cancel _ (by omega)]
  have hd : PP.depth = (2 * (PP.types.size + Made.depth) + 1) + 1 := rfl
  rw [hd]
  simp only [liesAt, Bool.or_eq_true]
  left
  rw [hd]
  have h1 : 1 ≤ c := h
  simp [rowAt, hc, h1, sameLayout]

theorem copyCheck_fresh : PSpec (bs W gs) n_strings_Builder_copyCheck [.ptr kB 1 0 0] (bld []) (fun r H => r = .tup [] ∧ H = [(kB, ⟨2, true, false, [.agg [.ptr kB 1 0 0, .nils]]⟩)]) := by
  refine pspec_intro (fn := b_strings_Builder_copyCheck) (bs_good W gs) rfl rfl rfl (Nat.le_of_ble_eq_true rfl) fun s0 _ => ?_
  have hT := bs_good W gs
  repeat refine prun_step hT rfl ?_
  refine prun_q (od_eql_nilp hT rfl rfl rfl rfl) rfl rfl ?_
  repeat refine prun_step hT rfl ?_
  refine prun_q (od_to_unsafe hT rfl rfl rfl (by decide) unsUnder rfl rfl rfl rfl) rfl rfl ?_
  refine prun_q (od_same (fn := b_internal_abi_NoEscape) rfl (by kernel_rfl) (by kernel_rfl) (by kernel_rfl) (by kernel_rfl) rfl) rfl rfl ?_
  refine prun_q (od_from_unsafe hT rfl rfl rfl unsUnder rfl rfl rfl bldLies) rfl rfl ?_
  repeat refine prun_step hT rfl ?_
  exact end_ends ⟨[], [], [(kB, ⟨2, true, false, [.agg [.ptr kB 1 0 0, .nils]]⟩)], rfl, vws_nil, ⟨rfl, .inr rfl, trivial⟩, rfl, rfl, rfl⟩

theorem copyCheck_used (n : Nat) (l : Str) : PSpec (bs W gs) n_strings_Builder_copyCheck [.ptr kB 1 0 0] [(kB, ⟨2, true, false, [.agg [.ptr kB 1 0 0, .sref kb n 0 n]]⟩), (kb, ⟨1, true, true, bytesP l⟩)]
    (fun r H => r = .tup [] ∧ H = [(kB, ⟨2, true, false, [.agg [.ptr kB 1 0 0, .sref kb n 0 n]]⟩), (kb, ⟨1, true, true, bytesP l⟩)]) := by
  refine pspec_intro (fn := b_strings_Builder_copyCheck) (bs_good W gs) rfl rfl rfl (Nat.le_of_ble_eq_true rfl) fun s0 _ => ?_
  have hT := bs_good W gs
  repeat refine prun_step hT rfl ?_
  refine prun_q (od_eql_ptr_nil hT rfl rfl rfl rfl rfl rfl) rfl rfl ?_
  repeat refine prun_step hT rfl ?_
  refine prun_q (od_neq_ptr_same hT rfl rfl rfl rfl rfl rfl rfl) rfl rfl ?_
  repeat refine prun_step hT rfl ?_
  exact end_ends ⟨[], [], [(kB, ⟨2, true, false, [.agg [.ptr kB 1 0 0, .sref kb n 0 n]]⟩), (kb, ⟨1, true, true, bytesP l⟩)], rfl, vws_nil, ⟨rfl, .inr rfl, rfl, .inl rfl, trivial⟩, rfl, rfl, rfl⟩

theorem kb_ty : ∀ u, kb = tk u → t_uint8 = u := fun u hu => by simp only [kb, tk, t_uint8] at hu ⊢; omega
theorem kB_ty : ∀ u, kB = tk u → t_strings_Builder = u := fun u hu => by simp only [kB, tk, t_strings_Builder] at hu ⊢; omega
theorem bytesP_len (l : Str) : (bytesP l).length = l.length := by simp [bytesP]
theorem bytesP_app (l m : Str) : bytesP l ++ bytesP m = bytesP (l ++ m) := by simp [bytesP]

theorem WriteString_spec (l s : Str) (hs : s ≠ []) (hf : l.length + s.length ≤ 140737488355328) : PSpec (bs W gs) n_strings_Builder_WriteString [.ptr kB 1 0 0, .str s] (bld l) (fun r H => r = .tup [.int .i64 (s.length : Nat), .any] ∧ H = bld (l ++ s)) := by
  cases l with
  | nil =>
    rw [List.nil_append, bld_ne hs]
    refine pspec_intro (fn := b_strings_Builder_WriteString) (bs_good W gs) rfl rfl rfl (Nat.le_of_ble_eq_true rfl) fun s0 _ => ?_
    have hT := bs_good W gs
    repeat refine prun_step hT rfl ?_
    refine prun_cw (G := bld []) copyCheck_fresh rfl rfl ⟨rfl, .inr rfl, trivial⟩ rfl ⟨.inl rfl, trivial⟩ rfl rfl (fun i => rfl) ?_
    repeat refine prun_step hT rfl ?_
    refine prun_n 1 true true (bytesP s) (od_append_nil kb (xs := bytesP s) hT rfl rfl rfl rfl (by simp) rfl rfl rfl rfl (.str rfl rfl) (by rw [bytesP_len]; simpa using hf) kb_ty) rfl rfl rfl ?_
    rw [bytesP_len]
    repeat refine prun_step hT rfl ?_
    exact ret_ends ⟨_, _, [(kB, ⟨2, true, false, [.agg [.ptr kB 1 0 0, .sref kb s.length 0 s.length]]⟩), (kb, ⟨1, true, true, bytesP s⟩)], rfl, vws_flat rfl, ⟨rfl, .inr rfl, rfl, .inl rfl, trivial⟩, rfl, rfl, rfl⟩
  | cons c cs =>
    rw [bld_ne (l := c :: cs ++ s) (by simp)]
    refine pspec_intro (fn := b_strings_Builder_WriteString) (bs_good W gs) rfl rfl rfl (Nat.le_of_ble_eq_true rfl) fun s0 _ => ?_
    have hT := bs_good W gs
    repeat refine prun_step hT rfl ?_
    refine prun_cw (copyCheck_used (cs.length + 1) (c :: cs)) rfl rfl ⟨rfl, .inr rfl, rfl, .inl rfl, trivial⟩ rfl ⟨.inl rfl, .inl rfl, trivial⟩ rfl rfl (fun i => rfl) ?_
    repeat refine prun_step hT rfl ?_
    refine prun_w 1 true true (bytesP (c :: cs ++ s)) (od_append (blk := ⟨1, true, true, bytesP (c :: cs)⟩) (xs := bytesP s) hT rfl rfl rfl rfl (by simp) rfl rfl rfl rfl rfl rfl (bytesP_len _) rfl (.str rfl rfl) (by rw [bytesP_len]; simpa using hf) kb_ty) (by rw [← bytesP_app]) rfl rfl rfl ?_
    rw [bytesP_len, show cs.length + 1 + s.length = (c :: cs ++ s).length from by simp; omega]
    repeat refine prun_step hT rfl ?_
    exact ret_ends ⟨_, _, [(kB, ⟨2, true, false, [.agg [.ptr kB 1 0 0, .sref kb (c :: cs ++ s).length 0 (c :: cs ++ s).length]]⟩), (kb, ⟨1, true, true, bytesP (c :: cs ++ s)⟩)], rfl, vws_flat rfl, ⟨rfl, .inr rfl, rfl, .inl rfl, trivial⟩, rfl, rfl, rfl⟩

theorem Len_spec (l : Str) : PSpec (bs W gs) n_strings_Builder_Len [.ptr kB 1 0 0] (bld l) (fun r H => r = .int .i64 (l.length : Nat) ∧ H = bld l) := by
  cases l with
  | nil =>
    refine pspec_intro (fn := b_strings_Builder_Len) (bs_good W gs) rfl rfl rfl (Nat.le_of_ble_eq_true rfl) fun s0 _ => ?_
    have hT := bs_good W gs
    repeat refine prun_step hT rfl ?_
    exact ret_ends ⟨_, _, bld [], rfl, vws_flat rfl, ⟨rfl, .inr rfl, trivial⟩, rfl, rfl, rfl⟩
  | cons c cs =>
    refine pspec_intro (fn := b_strings_Builder_Len) (bs_good W gs) rfl rfl rfl (Nat.le_of_ble_eq_true rfl) fun s0 _ => ?_
    have hT := bs_good W gs
    repeat refine prun_step hT rfl ?_
    refine prun_q (od_len_ref (blk := ⟨1, true, true, bytesP (c :: cs)⟩) hT rfl rfl rfl rfl (bytesP_len _)) rfl rfl ?_
    repeat refine prun_step hT rfl ?_
    exact ret_ends ⟨_, _, bld (c :: cs), rfl, vws_flat rfl, ⟨rfl, .inr rfl, rfl, .inl rfl, trivial⟩, rfl, rfl, rfl⟩

/-- Behind String nobody writes the bytes. -/
def bldEnd (l : Str) : Heap := match l with
  | [] => bld []
  | c :: cs => [(kB, ⟨2, true, false, [.agg [.ptr kB 1 0 0, .sref kb (cs.length + 1) 0 (cs.length + 1)]]⟩), (kb, ⟨1, false, true, bytesP (c :: cs)⟩)]

theorem bldEnd_get (c : UInt8) (cs : Str) (i : Nat) : (bldEnd (c :: cs)).get i = Heap.get ([(kb, ⟨1, false, true, bytesP (c :: cs)⟩)] ++ bld (c :: cs)) i := by
  simp only [bldEnd, bld, List.cons_append, List.nil_append, Heap.get]
  by_cases h : kB = i
  · subst h; rfl
  · by_cases h2 : kb = i
    · subst h2; rfl
    · simp only [if_neg h, if_neg h2]

theorem String_spec (l : Str) (hl : l.length ≤ 140737488355328) : PSpec (bs W gs) n_strings_Builder_String [.ptr kB 1 0 0] (bld l) (fun r H => r = .str l ∧ H = bldEnd l) := by
  have hc : PP.cellsOf t_uint8 = 1 := by kernel_rfl
  cases l with
  | nil =>
    refine pspec_intro (fn := b_strings_Builder_String) (bs_good W gs) rfl rfl rfl (Nat.le_of_ble_eq_true rfl) fun s0 _ => ?_
    have hT := bs_good W gs
    repeat refine prun_step hT rfl ?_
    refine prun_draw hT (by kernel_rfl) ?_
    repeat refine plex_step hT rfl ?_
    refine plex_q (od_sliceData_nil rfl) rfl rfl ?_
    repeat refine plex_step hT rfl ?_
    refine plex_q (od_unsafeString_nil rfl rfl) rfl rfl ?_
    repeat refine plex_step hT rfl ?_
    refine plex_nil (by kernel_rfl) ?_
    repeat refine prun_step hT rfl ?_
    exact ret_ends ⟨_, _, bld [], rfl, vws_flat rfl, ⟨rfl, .inr rfl, trivial⟩, rfl, rfl, rfl⟩
  | cons c cs =>
    refine pspec_intro (fn := b_strings_Builder_String) (bs_good W gs) rfl rfl rfl (Nat.le_of_ble_eq_true rfl) fun s0 _ => ?_
    have hT := bs_good W gs
    repeat refine prun_step hT rfl ?_
    refine prun_draw hT (by kernel_rfl) ?_
    repeat refine plex_step hT rfl ?_
    refine plex_q (od_sliceData (blk := ⟨1, true, true, bytesP (c :: cs)⟩) rfl rfl (bytesP_len _) (by omega)) rfl rfl ?_
    repeat refine plex_step hT rfl ?_
    refine plex_q (od_len_ref (blk := ⟨1, true, true, bytesP (c :: cs)⟩) hT rfl rfl rfl rfl (bytesP_len _)) rfl rfl ?_
    repeat refine plex_step hT rfl ?_
    refine plex_d (H' := bldEnd (c :: cs)) (od_unsafeString (l := c :: cs) hT rfl rfl hc rfl rfl rfl (by simp) (by simp only [List.length_cons] at hl ⊢; omega)) rfl rfl (bldEnd_get c cs) ?_
    repeat refine plex_step hT rfl ?_
    refine plex_nil (by kernel_rfl) ?_
    repeat refine prun_step hT rfl ?_
    exact ret_ends ⟨_, _, bldEnd (c :: cs), rfl, vws_flat rfl, ⟨rfl, .inr rfl, rfl, .inl rfl, trivial⟩, rfl, rfl, rfl⟩

end Go.PMS
/- A builder beside other blocks. -/
namespace Go.PMS
open Go Go.PM Go.Proofs Go.RowKit
variable {W : World} {gs : Nat}
set_option maxRecDepth 20000

def noB (A : Heap) : Prop := A.get kB = none ∧ A.get kb = none

theorem bld_none (l : Str) {k : Nat} (h1 : k ≠ kB) (h2 : k ≠ kb) : (bld l).get k = none := by
  cases l with
  | nil => simp only [bld, Heap.get]; rw [if_neg (Ne.symm h1)]
  | cons c cs => simp only [bld, Heap.get]; rw [if_neg (Ne.symm h1), if_neg (Ne.symm h2)]

theorem bld_get_kB (l : Str) : ∃ b, (bld l).get kB = some b := by cases l <;> exact ⟨_, rfl⟩

theorem bldEnd_none (l : Str) {k : Nat} (h1 : k ≠ kB) (h2 : k ≠ kb) : (bldEnd l).get k = none := by
  cases l with
  | nil => exact bld_none [] h1 h2
  | cons c cs => simp only [bldEnd, Heap.get]; rw [if_neg (Ne.symm h1), if_neg (Ne.symm h2)]

theorem get_app_none {A C : Heap} {k : Nat} (h : A.get k = none) : Heap.get (A ++ C) k = C.get k := by rw [Heap.get_append, h]

theorem sub_bld (l : Str) (A C : Heap) (hA : noB A) (hC : noB C) : heapSub (A ++ bld l) (bld l) (C ++ bld l) := by
  cases l with
  | nil => exact ⟨by rw [get_app_none hC.1]; rfl, .inr rfl, trivial⟩
  | cons c cs =>
    refine ⟨by rw [get_app_none hC.1]; rfl, .inr ?_, by rw [get_app_none hC.2]; rfl, .inl rfl, trivial⟩
    simp only [refsInl, refsIn, get_app_none hA.1, get_app_none hA.2]
    rfl

theorem Heap.get_cases (A C : Heap) (i : Nat) : (∃ b, A.get i = some b ∧ Heap.get (A ++ C) i = some b) ∨ (A.get i = none ∧ Heap.get (A ++ C) i = C.get i) := by
  rw [Heap.get_append]
  cases h : A.get i with
  | none => exact .inr ⟨rfl, rfl⟩
  | some b => exact .inl ⟨b, rfl, rfl⟩

/-- What stands in the builder's place stands ahead of what was there. -/
theorem over_bld {A X Y : Heap} (hA : noB A) (hX : ∀ k, k ≠ kB → k ≠ kb → X.get k = none) (hXY : ∀ k, (Y.get k).isSome = true → (X.get k).isSome = true) (i : Nat) : Heap.get (A ++ X) i = Heap.get (X ++ (A ++ Y)) i := by
  by_cases h1 : i = kB
  · subst h1
    rw [get_app_none hA.1, Heap.get_append, Heap.get_append, hA.1]
    cases h : X.get kB with
    | some b => rfl
    | none =>
      have := hXY kB
      rw [h] at this
      cases hy : Y.get kB with
      | none => rfl
      | some c => rw [hy] at this; simp at this
  · by_cases h2 : i = kb
    · subst h2
      rw [get_app_none hA.2, Heap.get_append, Heap.get_append, hA.2]
      cases h : X.get kb with
      | some b => rfl
      | none =>
        have := hXY kb
        rw [h] at this
        cases hy : Y.get kb with
        | none => rfl
        | some c => rw [hy] at this; simp at this
    · rw [get_app_none (A := X) (hX i h1 h2), Heap.get_append, Heap.get_append, hX i h1 h2]
      cases h : A.get i with
      | some b => rfl
      | none =>
        cases hy : Y.get i with
        | none => rfl
        | some c =>
          have := hXY i
          rw [hy, hX i h1 h2] at this
          simp at this

theorem bld_more (l s : Str) (k : Nat) (h : ((bld l).get k).isSome = true) : ((bld (l ++ s)).get k).isSome = true := by
  cases l with
  | nil =>
    simp only [bld, Heap.get] at h
    split at h
    · rename_i e; subst e
      obtain ⟨b, hb⟩ := bld_get_kB ([] ++ s)
      rw [hb]; rfl
    · simp at h
  | cons c cs =>
    simp only [bld, Heap.get, List.cons_append] at h ⊢
    split
    · rfl
    · rename_i e; rw [if_neg e] at h
      split
      · rfl
      · rename_i e2; rw [if_neg e2] at h; simp at h

theorem bldEnd_more (l : Str) (k : Nat) (h : ((bld l).get k).isSome = true) : ((bldEnd l).get k).isSome = true := by
  cases l with
  | nil => exact h
  | cons c cs =>
    simp only [bld, bldEnd, Heap.get] at h ⊢
    split
    · rfl
    · rename_i e; rw [if_neg e] at h
      split
      · rfl
      · rename_i e2; rw [if_neg e2] at h; simp at h

theorem fresh_of_keys {G H : Heap} : ∀ (X : Heap), (∀ x ∈ X, (G.get x.1).isSome = true ∨ H.get x.1 = none) → freshIn G H X
  | [], _ => trivial
  | (k, b) :: X, h => ⟨h (k, b) (by simp), fresh_of_keys X fun x hx => h x (by simp [hx])⟩

theorem fresh_bld (l m : Str) (A : Heap) (hA : noB A) : freshIn (bld l) (A ++ bld l) (bld m) := by
  refine fresh_of_keys _ fun x hx => ?_
  have hx : x.1 = kB ∨ x.1 = kb := by
    cases m with
    | nil => simp [bld] at hx; exact .inl (by rw [hx])
    | cons c cs => simp [bld] at hx; rcases hx with h | h <;> simp [h]
  rcases hx with h | h
  · rw [h]; obtain ⟨b, hb⟩ := bld_get_kB l; rw [hb]; exact .inl rfl
  · rw [h, get_app_none hA.2]
    cases hb : (bld l).get kb with
    | none => exact .inr rfl
    | some b => exact .inl rfl

theorem fresh_bldEnd (l : Str) (A : Heap) (hA : noB A) : freshIn (bld l) (A ++ bld l) (bldEnd l) := by
  cases l with
  | nil => exact fresh_bld [] [] A hA
  | cons c cs => exact ⟨.inl rfl, .inl rfl, trivial⟩

theorem refs_B (l : Str) (A : Heap) (hA : noB A) : refsIn (A ++ bld l) (.ptr kB 1 0 0) = true := by
  obtain ⟨b, hb⟩ := bld_get_kB l
  simp only [refsIn, get_app_none hA.1, hb]; rfl
theorem hs_cons {G0 G H : Heap} {id : Nat} {b : Blk} (h1 : H.get id = some b) (h2 : b.data = true ∨ refsInl G0 b.elems = true) (h3 : heapSub G0 G H) : heapSub G0 ((id, b) :: G) H := ⟨h1, h2, h3⟩

section
variable {F : Frm} {all : Array Oper} {rest : List Oper} {k : List It} {d : Option Nat} {ty : TypeId} {ps : String} {af : Array Edge} {g : Option (Nat × Bool)} {env : Env}

theorem prun_len (l : Str) (A : Heap) (hA : noB A) {x : Operand} {ts : Array TypeId} {F : Frm} (hF : F.B = bs W gs) (hx : env.ev x = .ptr kB 1 0 0) (hg : guardK F.N all env g = some true) (hd : dstB F.N d = true)
    (h : Prun F (.ops all rest :: k) (env.put d (.int .i64 (l.length : Nat))) (A ++ bld l)) :
    Prun F (.ops all (⟨d, .call { callee := .value (.func n_strings_Builder_Len), args := #[x], argTypes := ts }, ty, ps, af, g⟩ :: rest) :: k) env (A ++ bld l) :=
  prun_cw (xs := [x]) (G := bld l) (G' := bld l) (by rw [hF]; exact Len_spec l) (by simp [hx]) rfl (sub_bld l [] A ⟨rfl, rfl⟩ hA) (by obtain ⟨b, hb⟩ := bld_get_kB l; simp [refsInl, refsIn, hb]) (fresh_bld l l A hA) hg hd (over_bld hA (fun k h1 h2 => bld_none l h1 h2) fun k h => h) h

theorem prun_write (l s : Str) (A : Heap) (hA : noB A) (hs : s ≠ []) (hf : l.length + s.length ≤ 140737488355328) {x y : Operand} {ts : Array TypeId} {F : Frm} (hF : F.B = bs W gs) (hx : env.ev x = .ptr kB 1 0 0) (hy : env.ev y = .str s) (hg : guardK F.N all env g = some true) (hd : dstB F.N d = true)
    (h : Prun F (.ops all rest :: k) (env.put d (.tup [.int .i64 (s.length : Nat), .any])) (A ++ bld (l ++ s))) :
    Prun F (.ops all (⟨d, .call { callee := .value (.func n_strings_Builder_WriteString), args := #[x, y], argTypes := ts }, ty, ps, af, g⟩ :: rest) :: k) env (A ++ bld l) :=
  prun_cw (xs := [x, y]) (G := bld l) (G' := bld (l ++ s)) (by rw [hF]; exact WriteString_spec l s hs hf) (by simp [hx, hy]) rfl (sub_bld l [] A ⟨rfl, rfl⟩ hA) (by obtain ⟨b, hb⟩ := bld_get_kB l; simp [refsInl, refsIn, hb]) (fresh_bld l _ A hA) hg hd (over_bld hA (fun k h1 h2 => bld_none _ h1 h2) (bld_more l s)) h

theorem prun_string (l : Str) (A : Heap) (hA : noB A) (hl : l.length ≤ 140737488355328) {x : Operand} {ts : Array TypeId} {F : Frm} (hF : F.B = bs W gs) (hx : env.ev x = .ptr kB 1 0 0) (hg : guardK F.N all env g = some true) (hd : dstB F.N d = true)
    (h : Prun F (.ops all rest :: k) (env.put d (.str l)) (A ++ bldEnd l)) :
    Prun F (.ops all (⟨d, .call { callee := .value (.func n_strings_Builder_String), args := #[x], argTypes := ts }, ty, ps, af, g⟩ :: rest) :: k) env (A ++ bld l) :=
  prun_cw (xs := [x]) (G := bld l) (G' := bldEnd l) (by rw [hF]; exact String_spec l hl) (by simp [hx]) rfl (sub_bld l [] A ⟨rfl, rfl⟩ hA) (by obtain ⟨b, hb⟩ := bld_get_kB l; simp [refsInl, refsIn, hb]) (fresh_bldEnd l A hA) hg hd (over_bld hA (fun k h1 h2 => bldEnd_none l h1 h2) (bldEnd_more l)) h
end
end Go.PMS
/- impl.RiverWrite, walked. -/
namespace Go.PMS
open Go Go.PM Go.Proofs Go.RowKit
variable {W : World} {gs : Nat}
set_option maxRecDepth 20000

def lineStep (e : Ev) (line : Str) (x : Lk) : Str := if (lineOf e x).2 = true then (lineOf e x).1 else line
def pickLine (e : Ev) : Str := kinds.foldl (lineStep e) []
def write8 : Str → List Ev → Str
  | out, [] => if 60000 < out.length then [] else out
  | out, e :: l => if pickLine e = [] ∨ 60000 < out.length then [] else write8 (out ++ (pickLine e ++ [10])) l

theorem lineLoop_len (e : Ev) : ∀ (fs : Str) (m : Ev) (out : Str) {r : Ev × Str}, lineLoop e fs m out = some r → r.2.length ≤ out.length + 21 * fs.length
  | [], m, out, r, h => by
    simp only [lineLoop, Option.some.injEq] at h
    subst h; simp
  | c :: cs, m, out, r, h => by
    simp only [lineLoop] at h
    split at h
    · rename_i hn
      have := lineLoop_len e cs _ _ h
      have hd : (dec (getF c e)).length ≤ 20 := dec_le ⟨by omega, by omega⟩
      simp only [List.length_append, List.length_cons, List.length_nil] at this ⊢
      omega
    · cases h

theorem lineOf_len {e : Ev} {x : Lk} (hx : x.word.length ≤ 10) (hf : x.fields.length ≤ 8) : (lineOf e x).1.length ≤ 210 + e.text.length := by
  unfold lineOf
  split
  · simp
  · rename_i m out h
    have := lineLoop_len e _ _ _ h
    simp only at this
    split
    · split
      · simp only [List.length_append, List.length_cons, List.length_nil]; omega
      · simp
    · simp only; omega

theorem kinds_ok : ∀ x ∈ kinds, x.word.length ≤ 10 ∧ x.fields.length ≤ 8 := by decide

theorem fold_len (e : Ev) : ∀ (xs : List Lk) (line : Str), (∀ x ∈ xs, x.word.length ≤ 10 ∧ x.fields.length ≤ 8) → line.length ≤ 210 + e.text.length → (xs.foldl (lineStep e) line).length ≤ 210 + e.text.length
  | [], _, _, h => h
  | x :: xs, line, hx, h => by
    rw [List.foldl_cons]
    refine fold_len e xs _ (fun y hy => hx y (by simp [hy])) ?_
    unfold lineStep
    split
    · have := hx x (by simp)
      exact lineOf_len this.1 this.2
    · exact h
theorem pickLine_len (e : Ev) : (pickLine e).length ≤ 210 + e.text.length := fold_len e _ _ kinds_ok (by simp)

theorem take_fold {α β : Type} (f : β → α → β) (b : β) {l : List α} {i : Nat} {x : α} (h : l[i]? = some x) : (l.take (i + 1)).foldl f b = f ((l.take i).foldl f b) x := by
  rw [List.take_add_one, h]
  simp

set_option maxHeartbeats 4000000 in
theorem implRiverWrite_spec (l : List Ev) (hl : l.length ≤ 1099511627776) (hok : ∀ e ∈ l, e.ok)
    (hI : ∀ n : Int, 0 ≤ n → n ≤ 9999 → PSpec (bs W gs) n_strconv_Itoa [.int .i64 n] [] (fun r H => r = .str (dec n) ∧ H = [])) :
    PSpec (bs W gs) n_impl_RiverWrite [.snap 10 (l.map Ev.pv)] [] (fun r H => r = .str (write8 [] l) ∧ H = []) := by
  refine pspec_intro (fn := b_impl_RiverWrite) (bs_good W gs) rfl rfl rfl (Nat.le_of_ble_eq_true rfl) fun s0 _ => ?_
  have hT := bs_good W gs
  iterate 6 refine prun_step hT rfl ?_
  refine prun_n 2 true false [.agg [.nilp, .nils]] (od_alloc kB hT rfl (List.cons_ne_nil _ _) rfl (.inl rfl) rfl kB_ty) rfl rfl rfl ?_
  repeat refine prun_step hT rfl ?_
  refine prun_loop (σ := Nat × Str) (fun x => x.1 ≤ l.length ∧ x.2.length ≤ 1200000 ∧ write8 [] l = write8 x.2 (l.drop x.1))
    (fun x => [(0, .snap 10 (l.map Ev.pv)), (3, .ptr kB 1 0 0), (11, .snap 10 (l.map Ev.pv)), (12, .int .i64 (l.length : Nat)), (13, .int .i64 (x.1 : Nat))]) (fun x => bld x.2)
    (fun x => l.length - x.1) (0, []) ⟨Nat.zero_le _, by simp, rfl⟩ ⟨rfl, rfl, rfl, rfl, rfl, rfl, by simp [Env.get], rfl, rfl, rfl, trivial⟩ (sub_bld [] [] [] ⟨rfl, rfl⟩ ⟨rfl, rfl⟩) (fun _ => rfl) (fun x hx => ?_)
  obtain ⟨i, out⟩ := x
  obtain ⟨hi, ho, hf⟩ := hx
  simp only at hi ho hf
  rw [hf]
  obtain ⟨bk, hbk⟩ := bld_get_kB out
  repeat refine prun_step hT rfl ?_
  refine prun_if rfl (fun h => ?_) (fun h => ?_)
  · have hlt : i < l.length := by omega
    obtain ⟨e, he⟩ := ex_get hlt
    have heok := hok e (List.mem_of_getElem? he)
    have het := heok.text
    rw [drop_get he, write8]
    repeat refine prun_step hT rfl ?_
    refine prun_q (od_ixm i hT rfl rfl rfl rfl rfl rfl) rfl rfl ?_
    repeat refine prun_step hT rfl ?_
    refine prun_n 10 true false [zEv] (od_alloc 5 hT rfl (List.cons_ne_nil _ _) rfl (.inl rfl) (bld_none out (by decide) (by decide))) rfl rfl rfl ?_
    repeat refine prun_step hT rfl ?_
    refine prun_callx (lineKinds_spec) rfl rfl rfl rfl rfl ?_
    repeat refine prun_step hT rfl ?_
    refine prun_loop (σ := Nat) (fun j => j ≤ kinds.length)
      (fun j => [(0, .snap 10 (l.map Ev.pv)), (3, .ptr kB 1 0 0), (5, .ptr 5 1 0 0), (6, .str ((kinds.take j).foldl (lineStep e) [])), (11, .snap 10 (l.map Ev.pv)), (12, .int .i64 (l.length : Nat)), (13, .int .i64 (i : Nat)), (17, .snap 3 (kinds.map Lk.pv)), (18, .int .i64 14), (19, .int .i64 (j : Nat))])
      (fun _ => (5, (⟨10, true, false, [e.pv]⟩ : Blk)) :: bld out)
      (fun j => kinds.length - j) 0 (Nat.zero_le _) ⟨rfl, rfl, rfl, refs_B out [(5, _)] ⟨rfl, rfl⟩, rfl, rfl, rfl, rfl, rfl, rfl, rfl, rfl, rfl, rfl, rfl, rfl, rfl, rfl, rfl, rfl, trivial⟩ (hs_cons rfl (.inr rfl) (sub_bld out [(5, _)] [(5, _)] ⟨rfl, rfl⟩ ⟨rfl, rfl⟩)) (fun _ => rfl) (fun j hj => ?_)
    repeat refine prun_step hT rfl ?_
    refine prun_if rfl (fun h2 => ?_) (fun h2 => ?_)
    · have hjt : j < kinds.length := by simp only [kinds, List.length_cons, List.length_nil]; omega
      obtain ⟨x, hx⟩ := ex_get hjt
      have hxo := kinds_ok x (List.mem_of_getElem? hx)
      repeat refine prun_step hT rfl ?_
      refine prun_q (od_ixm j hT rfl rfl rfl rfl rfl rfl) rfl rfl ?_
      repeat refine prun_step hT rfl ?_
      refine prun_n 3 true false [.agg [.str [], .int .i64 0, .str []]] (od_alloc 8 hT rfl (List.cons_ne_nil _ _) rfl (.inl rfl) (bld_none out (by decide) (by decide))) rfl rfl rfl ?_
      repeat refine prun_step hT rfl ?_
      refine prun_callx (lineOf_spec e x heok hxo.1 hxo.2 hI) rfl rfl rfl rfl rfl ?_
      repeat refine prun_step hT rfl ?_
      refine prun_if rfl (fun h3 => ?_) (fun h3 => ?_)
      all_goals
        repeat (first | refine prun_q (od_ar rfl rfl rfl) rfl rfl ?_ | refine prun_step hT rfl ?_)
        refine prun_lp ⟨j + 1, hjt, by omega, ⟨rfl, rfl, rfl, refs_B out [(5, _)] ⟨rfl, rfl⟩, rfl, rfl, ?_, rfl, rfl, rfl, rfl, rfl, rfl, rfl, rfl, rfl, rfl, rfl, rfl, rfl, trivial⟩, hs_cons rfl (.inr rfl) (sub_bld out [(5, _)] [(8, _), (5, _)] ⟨rfl, rfl⟩ ⟨rfl, rfl⟩)⟩
        rw [take_fold _ _ hx, lineStep]
        first | rw [if_pos h3] | rw [if_neg h3]
        rfl
    · have hjt : j = kinds.length := by simp only [kinds, List.length_cons, List.length_nil] at hj ⊢; omega
      subst hjt
      rw [List.take_length]
      repeat refine prun_step hT rfl ?_
      have hpl := pickLine_len e
      rw [show kinds.foldl (lineStep e) [] = pickLine e from rfl]
      refine prun_sp 34 rfl (fun h4 => ?_) (fun h4 => ?_)
      · repeat refine prun_step hT rfl ?_
        exact ret_ends (ends_flat rfl rfl ⟨by rw [if_pos (.inl h4)]; rfl, rfl⟩)
      repeat refine prun_step hT rfl ?_
      refine prun_len out [(5, _)] ⟨rfl, rfl⟩ rfl rfl rfl rfl ?_
      repeat refine prun_step hT rfl ?_
      refine prun_if rfl (fun h5 => ?_) (fun h5 => ?_)
      · repeat refine prun_step hT rfl ?_
        exact ret_ends (ends_flat rfl rfl ⟨by rw [if_pos (.inr (by omega))]; rfl, rfl⟩)
      rw [if_neg (fun h6 => h6.elim h4 (by omega))]
      repeat refine prun_step hT rfl ?_
      refine prun_q (od_cat rfl rfl (by simp only [List.length_cons, List.length_nil]; omega)) rfl rfl ?_
      repeat refine prun_step hT rfl ?_
      refine prun_write out (pickLine e ++ [10]) [(5, _)] ⟨rfl, rfl⟩ (by simp) (by simp only [List.length_append, List.length_cons, List.length_nil]; omega) rfl rfl rfl rfl rfl ?_
      repeat (first | refine prun_q (od_ar rfl rfl rfl) rfl rfl ?_ | refine prun_step hT rfl ?_)
      refine prun_lp ⟨(i + 1, out ++ (pickLine e ++ [10])), ⟨hlt, by simp only [List.length_append, List.length_cons, List.length_nil]; omega, rfl⟩, by simp only; omega, ⟨rfl, rfl, rfl, refs_B _ [] ⟨rfl, rfl⟩, rfl, rfl, rfl, rfl, rfl, rfl, trivial⟩, sub_bld _ [] [(5, _)] ⟨rfl, rfl⟩ ⟨rfl, rfl⟩⟩
  · have hge : i = l.length := by omega
    subst hge
    rw [List.drop_length, write8]
    repeat refine prun_step hT rfl ?_
    refine prun_len out [] ⟨rfl, rfl⟩ rfl rfl rfl rfl ?_
    repeat refine prun_step hT rfl ?_
    refine prun_if rfl (fun h5 => ?_) (fun h5 => ?_)
    · repeat refine prun_step hT rfl ?_
      exact ret_ends (ends_flat rfl rfl ⟨by rw [if_pos (by omega)]; rfl, rfl⟩)
    · repeat refine prun_step hT rfl ?_
      refine prun_string out [] ⟨rfl, rfl⟩ (by omega) rfl rfl rfl rfl ?_
      repeat refine prun_step hT rfl ?_
      exact ret_ends (ends_flat rfl rfl ⟨by rw [if_neg (by omega)]; rfl, rfl⟩)

end Go.PMS
/- Lines of events: what is written by kinds is what the reference writes and reads back. Plain Lean. -/
namespace Go.PMS
open Go Go.PM

/-! ### numbers -/
theorem valN_app (s : Str) (c : UInt8) : valN (s ++ [c]) = valN s * 10 + (c.toNat - 48) := by simp [valN]

theorem valN_decN (n : Nat) : valN (decN n) = n := by
  induction n using Nat.strongRecOn with
  | _ n ih =>
    rw [decN]
    split
    · rename_i h
      have := digit_toNat h
      simp [valN, this]
    · rename_i h
      rw [valN_app, ih _ (by omega), digit_toNat (by omega)]
      omega

theorem decN_dig (n : Nat) : ∀ c ∈ decN n, isDig c = true := by
  induction n using Nat.strongRecOn with
  | _ n ih =>
    rw [decN]
    split
    · rename_i h
      have := digit_toNat h
      simp [isDig, this]; omega
    · rename_i h
      intro c hc
      rcases List.mem_append.1 hc with hc | hc
      · exact ih _ (by omega) c hc
      · have := digit_toNat (n := n % 10) (by omega)
        simp at hc
        subst hc
        simp [isDig, this]; omega

theorem decN_ne (n : Nat) : decN n ≠ [] := by
  rw [decN]; split <;> simp

def R4 (n : Int) : Prop := 0 ≤ n ∧ n ≤ 9999
instance (n : Int) : Decidable (R4 n) := inferInstanceAs (Decidable (_ ∧ _))

theorem dec_nn {n : Int} (h : 0 ≤ n) : dec n = decN n.toNat := by
  rw [dec, if_neg (by omega)]
  congr 1; omega

theorem num4_dec {n : Int} (h : R4 n) : num4 (dec n) = n := by
  obtain ⟨h0, h1⟩ := h
  rw [dec_nn h0, num4, if_pos]
  · rw [valN_decN]; omega
  · refine ⟨List.length_pos_iff.2 (decN_ne _), decN_len _ 4 (by omega) (by omega), List.all_eq_true.2 (decN_dig _), ?_⟩
    rw [valN_decN, dec_nn (by omega)]; congr 1

theorem dec_dig {n : Int} (h : 0 ≤ n) : ∀ c ∈ dec n, isDig c = true := by
  rw [dec_nn h]; exact decN_dig _

theorem dec_nosp {n : Int} (h : 0 ≤ n) : ∀ c ∈ dec n, c ≠ 32 := by
  rintro c hc rfl
  have := dec_dig h 32 hc
  simp [isDig] at this

theorem num4_inv {w : Str} (h : 0 ≤ num4 w) : w = dec (num4 w) ∧ R4 (num4 w) := by
  unfold num4 at h ⊢
  split at h
  · rename_i hc
    rw [if_pos hc]
    obtain ⟨h1, h2, h3, h4⟩ := hc
    refine ⟨h4.symm, by omega, ?_⟩
    have := valN_lt w (List.all_eq_true.1 h3)
    have h5 : 10 ^ w.length ≤ 10 ^ 4 := Nat.pow_le_pow_right (by omega) h2
    omega
  · omega

/-! ### lines -/
def tailOf (ns : List Int) : Str := (ns.map fun n => 32 :: dec n).flatten
def ln (w : Str) (ns : List Int) : Str := w ++ tailOf ns

theorem splitAt_word {w rest : Str} (hw : ∀ c ∈ w, c ≠ 32) : splitAt 32 (w ++ 32 :: rest) = w :: splitAt 32 rest := by
  induction w with
  | nil => simp [splitAt]
  | cons c w ih =>
    have hc : c ≠ 32 := hw c (by simp)
    rw [List.cons_append, splitAt, if_neg hc, ih fun x hx => hw x (by simp [hx])]

theorem splitAt_one {w : Str} (hw : ∀ c ∈ w, c ≠ 32) : splitAt 32 w = [w] := by
  induction w with
  | nil => rfl
  | cons c w ih =>
    have hc : c ≠ 32 := hw c (by simp)
    rw [splitAt, if_neg hc, ih fun x hx => hw x (by simp [hx])]

theorem splitAt_ln {w : Str} (hw : ∀ c ∈ w, c ≠ 32) : ∀ (ns : List Int), (∀ n ∈ ns, R4 n) → splitAt 32 (ln w ns) = w :: ns.map dec := by
  intro ns hn
  induction ns generalizing w with
  | nil => simpa [ln, tailOf] using splitAt_one hw
  | cons n ns ih =>
    have h1 : ln w (n :: ns) = w ++ 32 :: ln (dec n) ns := by simp [ln, tailOf]
    rw [h1, splitAt_word hw, ih (w := dec n) (dec_nosp (hn n (by simp)).1) fun m hm => hn m (by simp [hm])]
    rfl

/-- The words of a text, put together again. -/
def joinW : List Str → Str
  | [] => []
  | [w] => w
  | w :: v :: ws => w ++ 32 :: joinW (v :: ws)

theorem joinW_split (s : Str) : joinW (splitAt 32 s) = s := by
  induction s with
  | nil => rfl
  | cons c s ih =>
    simp only [splitAt]
    split
    · rename_i h
      subst h
      cases hs : splitAt 32 s with
      | nil => exact absurd hs (splitAt_ne _ _)
      | cons w ws => rw [hs] at ih; simp [joinW, ih]
    · cases hs : splitAt 32 s with
      | nil => exact absurd hs (splitAt_ne _ _)
      | cons w ws =>
        rw [hs] at ih
        simp only
        cases ws with
        | nil => simp [joinW] at ih ⊢; exact ih
        | cons v ws => simp [joinW] at ih ⊢; exact ih

theorem joinW_ln (w : Str) : ∀ (ns : List Int), joinW (w :: ns.map dec) = ln w ns := by
  intro ns
  induction ns generalizing w with
  | nil => simp [joinW, ln, tailOf]
  | cons n ns ih =>
    rw [List.map_cons, joinW, ih]
    simp [ln, tailOf]

theorem nums44_dec {ns : List Int} (h : ∀ n ∈ ns, R4 n) : nums44 (ns.map dec) = (ns, true) := by
  unfold nums44
  rw [if_pos]
  · congr 1
    rw [List.map_map]
    conv => rhs; rw [← List.map_id ns]
    exact List.map_congr_left fun n hn => num4_dec (h n hn)
  · rw [List.all_eq_true]
    intro w hw
    obtain ⟨n, hn, rfl⟩ := List.mem_map.1 hw
    rw [num4_dec (h n hn)]
    simpa using (h n hn).1

theorem nums44_inv {ws : List Str} {ns : List Int} (h : nums44 ws = (ns, true)) : ws = ns.map dec ∧ ∀ n ∈ ns, R4 n := by
  unfold nums44 at h
  split at h
  · rename_i hc
    obtain rfl : ws.map num4 = ns := by simpa using h
    rw [List.all_eq_true] at hc
    refine ⟨?_, fun n hn => ?_⟩
    · rw [List.map_map]
      conv => lhs; rw [← List.map_id ws]
      exact List.map_congr_left fun w hw => (num4_inv (by simpa using hc w hw)).1
    · obtain ⟨w, hw, rfl⟩ := List.mem_map.1 hn
      exact (num4_inv (by simpa using hc w hw)).2
  · simp at h

theorem ownHead {s : Str} (h : s.take 4 = [111, 119, 110, 32]) : (splitAt 32 s).headD [] = own := by
  have h1 : s = own ++ 32 :: s.drop 4 := by
    conv => lhs; rw [← List.take_append_drop 4 s, h]
    rfl
  rw [h1, splitAt_word (by decide)]
  rfl

theorem read_ln {w : Str} (hw : ∀ c ∈ w, c ≠ 32) (ho : w ≠ own) {ns : List Int} (hn : ∀ n ∈ ns, R4 n) : read44 (ln w ns) = look44 w ns 13 2 := by
  have hs := splitAt_ln hw ns hn
  unfold read44
  rw [if_neg, hs, List.tail_cons, nums44_dec hn, if_neg (by simp)]
  · rfl
  · rintro ⟨_, h⟩
    have := ownHead h
    rw [hs] at this
    exact ho this

/-! ### what is written by kinds -/
theorem lineLoop_eq (e : Ev) : ∀ (fs : Str) (m : Ev) (out : Str), lineLoop e fs m out = if (∀ c ∈ fs, R4 (getF c e)) then some (fs.foldl (fun m c => setF c (getF c e) m) m, out ++ tailOf (fs.map fun c => getF c e)) else none
  | [], m, out => by simp [lineLoop, tailOf]
  | c :: cs, m, out => by
    rw [lineLoop, lineLoop_eq e cs]
    by_cases h : R4 (getF c e)
    · rw [if_pos (show 0 ≤ getF c e ∧ getF c e ≤ 9999 from h)]
      by_cases h2 : ∀ c ∈ cs, R4 (getF c e)
      · rw [if_pos h2, if_pos (by simpa using ⟨h, h2⟩)]
        simp [tailOf]
      · rw [if_neg h2, if_neg (by simp; intro _; simpa using h2)]
    · rw [if_neg (show ¬ (0 ≤ getF c e ∧ getF c e ≤ 9999) from h), if_neg (fun h3 => h (h3 c (by simp)))]

/-- A kind's line, where its word is not that of what a keeper takes in. -/
theorem lineOf_ln {e : Ev} {x : Lk} {s : Str} (ho : x.word ≠ own) : lineOf e x = (s, true) ↔
    (∀ c ∈ x.fields, R4 (getF c e)) ∧ s = ln x.word (x.fields.map fun c => getF c e) ∧
      (if x.word = dbl then { x.fields.foldl (fun m c => setF c (getF c e) m) (⟨x.kind, 0, 0, 0, 0, 0, 0, 0, 0, []⟩ : Ev) with keep := 1 } else x.fields.foldl (fun m c => setF c (getF c e) m) (⟨x.kind, 0, 0, 0, 0, 0, 0, 0, 0, []⟩ : Ev)) = e := by
  unfold lineOf
  rw [lineLoop_eq]
  by_cases h : ∀ c ∈ x.fields, R4 (getF c e)
  · rw [if_pos h]
    simp only [if_neg ho, Prod.mk.injEq, decide_eq_true_eq]
    exact ⟨fun ⟨h1, h2⟩ => ⟨h, h1.symm, h2⟩, fun ⟨_, h1, h2⟩ => ⟨h1.symm, h2⟩⟩
  · rw [if_neg h]
    simp [h]

theorem R4_of {n : Int} (h : R4 n) : 0 ≤ n ∧ n ≤ 9999 := h

theorem lineOf_own {e : Ev} {s : Str} : lineOf e ⟨own, 1, [97, 116, 117]⟩ = (s, true) ↔
    ∃ a t u tx, R4 a ∧ R4 t ∧ R4 u ∧ textOk tx = true ∧ e = ⟨1, a, 0, 0, 0, 0, 0, t, u, tx⟩ ∧ s = ln own [a, t, u] ++ 32 :: tx := by
  obtain ⟨k, a, f, n, w, m, kp, t, u, tx⟩ := e
  unfold lineOf
  rw [lineLoop_eq]
  by_cases h : ∀ c ∈ [97, 116, 117], R4 (getF c ⟨k, a, f, n, w, m, kp, t, u, tx⟩)
  · rw [if_pos h]
    simp only [List.forall_mem_cons, getF] at h
    simp only [show own ≠ dbl by decide, if_true, if_false]
    by_cases h2 : textOk tx = true
    · rw [if_pos h2]
      simp only [List.foldl, List.map, getF, setF, Prod.mk.injEq, decide_eq_true_eq, Ev.mk.injEq]
      constructor
      · rintro ⟨rfl, hh⟩
        refine ⟨a, t, u, tx, h.1, h.2.1, h.2.2.1, h2, ?_, by simp [ln]⟩
        simp at hh ⊢
        omega
      · rintro ⟨a', t', u', tx', _, _, _, _, hh, rfl⟩
        obtain ⟨rfl, rfl, rfl, rfl, rfl, rfl, rfl, rfl, rfl, rfl⟩ := hh
        simp [ln]
    · rw [if_neg h2]
      simp only [Prod.mk.injEq, Bool.false_eq_true, and_false, false_iff]
      rintro ⟨a', t', u', tx', _, _, _, h4, hh, _⟩
      obtain ⟨rfl, rfl, rfl, rfl, rfl, rfl, rfl, rfl, rfl, rfl⟩ := hh
      exact h2 h4
  · rw [if_neg h]
    simp only [Prod.mk.injEq, Bool.false_eq_true, and_false, false_iff]
    rintro ⟨a', t', u', tx', q1, q2, q3, _, hh, _⟩
    obtain ⟨rfl, rfl, rfl, rfl, rfl, rfl, rfl, rfl, rfl, rfl⟩ := hh
    refine h ?_
    simp only [List.forall_mem_cons, getF]
    exact ⟨q1, q2, q3, by simp⟩

theorem word1_ln {w rest : Str} (hw : ∀ c ∈ w, c ≠ 32) : word1 (w ++ 32 :: rest) = (w, rest) := by
  have h := word1_at (s := w ++ 32 :: rest) (i := w.length) (by
    intro x hx
    rw [List.take_left] at hx
    simpa using hw x hx) (by simp)
  rw [h]
  simp

theorem read_own {a t u : Int} (ha : R4 a) (ht : R4 t) (hu : R4 u) {tx : Str} (h : textOk tx = true) : read44 (ln own [a, t, u] ++ 32 :: tx) = (⟨1, a, 0, 0, 0, 0, 0, t, u, tx⟩, true) := by
  have e1 : ln own [a, t, u] ++ 32 :: tx = [111, 119, 110, 32] ++ (dec a ++ 32 :: (dec t ++ 32 :: (dec u ++ 32 :: tx))) := by simp [ln, tailOf, own]
  have e2 : ∀ X : Str, (([111, 119, 110, 32] : Str) ++ X).drop 4 = X := fun X => rfl
  rw [e1, read44, if_pos ⟨by simp, rfl⟩, e2]
  have hn : nums 3 (dec a ++ 32 :: (dec t ++ 32 :: (dec u ++ 32 :: tx))) = ([a, t, u], tx) := by
    simp only [nums, word1_ln (dec_nosp ha.1), word1_ln (dec_nosp ht.1), word1_ln (dec_nosp hu.1), num4_dec ha, num4_dec ht, num4_dec hu]
  unfold own44
  rw [hn]
  simp only [textOk, Bool.and_eq_true, decide_eq_true_eq] at h
  obtain ⟨h1, h2, h3⟩ := h
  have hneg : ¬ (([a, t, u] : List Int).getD 0 0 < 0 ∨ ([a, t, u] : List Int).getD 1 0 < 0 ∨ ([a, t, u] : List Int).getD 2 0 < 0) := by
    have := ha.1; have := ht.1; have := hu.1
    simp; omega
  rw [if_neg hneg, if_neg (by rw [h1]; simp)]
  simp; omega

theorem kinds_cases {P : Lk → Prop} (h1 : P ⟨own, 1, [97, 116, 117]⟩) (h2 : ∀ x ∈ kinds.tail, P x) : ∀ x ∈ kinds, P x := by
  intro x hx
  rcases List.mem_cons.1 (show x ∈ ⟨own, 1, [97, 116, 117]⟩ :: kinds.tail from hx) with rfl | h
  · exact h1
  · exact h2 x h

theorem look_at (w : Str) (n : List Int) (k : Nat) (h2 : 2 ≤ k) (h15 : k < 15) (hw : w = wordAt k) : look44 w n 13 2 = make44 k n := by
  subst hw
  have : k = 2 ∨ k = 3 ∨ k = 4 ∨ k = 5 ∨ k = 6 ∨ k = 7 ∨ k = 8 ∨ k = 9 ∨ k = 10 ∨ k = 11 ∨ k = 12 ∨ k = 13 ∨ k = 14 := by omega
  rcases this with rfl | rfl | rfl | rfl | rfl | rfl | rfl | rfl | rfl | rfl | rfl | rfl | rfl <;> simp [look44, wordAt, words]

/-- What a kind writes is the reference's line, and is read back. -/
theorem lineOf_read (e : Ev) : ∀ x ∈ kinds, ∀ s, lineOf e x = (s, true) → s = line44 e ∧ read44 s = (e, true) ∧ s ≠ [] := by
  refine kinds_cases ?_ ?_
  · intro s h
    obtain ⟨a, t, u, tx, ha, ht, hu, hx, rfl, rfl⟩ := lineOf_own.1 h
    refine ⟨?_, read_own ha ht hu hx, by simp [ln]⟩
    simp [line44, ln, tailOf, own, wordAt, words, sp]
  · intro x hx s h
    obtain ⟨k, a, f, n, w, m, kp, t, u, tx⟩ := e
    simp only [kinds, List.tail_cons, List.mem_cons, List.not_mem_nil, or_false] at hx
    rcases hx with rfl | rfl | rfl | rfl | rfl | rfl | rfl | rfl | rfl | rfl | rfl | rfl | rfl
    all_goals
      obtain ⟨h1, rfl, h3⟩ := (lineOf_ln (by decide)).1 h
      simp [setF, getF, dbl] at h3
      repeat (obtain ⟨h4, h3⟩ := h3; subst h4)
      subst h3
      refine ⟨by simp [line44, ln, tailOf, wordAt, words, sp, getF], ?_, by simp [ln]⟩
      rw [read_ln (by decide) (by decide) (by simpa [getF] using h1)]
      simp [look44, wordAt, words, make44, getF]

theorem textOk_of {tx : Str} (h1 : tx.all printable = true) (h2 : tx.length ≤ 24) (h3 : 0 < tx.length) : textOk tx = true := by
  rw [textOk, h1]; simp; omega

/-- Whatever the reference reads, a kind writes. -/
theorem read_lineOf {s : Str} {e : Ev} (h : read44 s = (e, true)) : ∃ x ∈ kinds, lineOf e x = (s, true) := by
  unfold read44 at h
  split at h
  · rename_i hs
    refine ⟨⟨own, 1, [97, 116, 117]⟩, by simp [kinds, own], lineOf_own.2 ?_⟩
    have hs1 : s = own ++ 32 :: s.drop 4 := by
      conv => lhs; rw [← List.take_append_drop 4 s, hs.2]
      rfl
    generalize s.drop 4 = r at h hs1
    unfold own44 at h
    simp only [nums] at h
    obtain ⟨p1, hw1⟩ : ∃ p, word1 r = p := ⟨_, rfl⟩
    obtain ⟨p2, hw2⟩ : ∃ p, word1 p1.2 = p := ⟨_, rfl⟩
    obtain ⟨p3, hw3⟩ : ∃ p, word1 p2.2 = p := ⟨_, rfl⟩
    simp only [hw1, hw2, hw3, List.getD_cons_zero, List.getD_cons_succ] at h
    split at h
    · simp at h
    · rename_i hn
      split at h
      · simp at h
      · rename_i hp
        simp only [Prod.mk.injEq, Bool.and_eq_true, decide_eq_true_eq] at h
        obtain ⟨rfl, h24, h0⟩ := h
        have n1 := num4_inv (w := p1.1) (by omega)
        have n2 := num4_inv (w := p2.1) (by omega)
        have n3 := num4_inv (w := p3.1) (by omega)
        refine ⟨num4 p1.1, num4 p2.1, num4 p3.1, p3.2, n1.2, n2.2, n3.2, textOk_of (by simpa using hp) h24 h0, rfl, ?_⟩
        have back : ∀ {r : Str} {p : Str × Str}, word1 r = p → p.2 ≠ [] → r = p.1 ++ 32 :: p.2 := by
          intro r p hr hne
          subst hr
          unfold word1 at hne ⊢
          simp only at hne ⊢
          have h1 := List.takeWhile_append_dropWhile (p := fun x : UInt8 => x != 32) (l := r)
          cases hd : r.dropWhile (fun x : UInt8 => x != 32) with
          | nil => rw [hd] at hne; simp at hne
          | cons c t =>
            have hc : c = 32 := by
              have := List.head?_dropWhile_not (fun x : UInt8 => x != 32) r
              rw [hd] at this
              simpa using this
            rw [hd] at h1
            subst hc
            simpa using h1.symm
        have hne3 : p3.2 ≠ [] := List.length_pos_iff.1 h0
        have b3 := back hw3 hne3
        have b2 := back hw2 (by rw [b3]; simp)
        have b1 := back hw1 (by rw [b2]; simp)
        rw [hs1, b1, b2, b3]
        conv => lhs; rw [n1.1, n2.1, n3.1]
        simp [ln, tailOf]
  · split at h
    · simp at h
    · rename_i hn
      obtain ⟨ns, hns⟩ : ∃ ns, nums44 (splitAt 32 s).tail = (ns, true) := ⟨_, Prod.ext rfl (by simpa using hn)⟩
      obtain ⟨i1, i2⟩ := nums44_inv hns
      rw [hns] at h
      have hsj := joinW_split s
      cases hs : splitAt 32 s with
      | nil => exact absurd hs (splitAt_ne _ _)
      | cons w ws =>
        rw [hs, List.tail_cons] at i1
        subst i1
        rw [hs, joinW_ln] at hsj
        rw [hs, List.headD_cons] at h
        simp only at h
        have key : ∀ (f k : Nat), look44 w ns f k = (e, true) → ∃ j, k ≤ j ∧ j < k + f ∧ w = wordAt j ∧ make44 j ns = (e, true) := by
          intro f
          induction f with
          | zero => intro k hk; simp [look44] at hk
          | succ f ih =>
            intro k hk
            rw [look44] at hk
            split at hk
            · exact ⟨k, Nat.le_refl _, by omega, by assumption, hk⟩
            · obtain ⟨j, j1, j2, j3⟩ := ih (k + 1) hk
              exact ⟨j, by omega, by omega, j3⟩
        obtain ⟨j, j1, j2, rfl, j4⟩ := key 13 2 h
        subst hsj
        have hj : j = 2 ∨ j = 3 ∨ j = 4 ∨ j = 5 ∨ j = 6 ∨ j = 7 ∨ j = 8 ∨ j = 9 ∨ j = 10 ∨ j = 11 ∨ j = 12 ∨ j = 13 ∨ j = 14 := by omega
        clear h hs key hns hn
        rcases hj with rfl | rfl | rfl | rfl | rfl | rfl | rfl | rfl | rfl | rfl | rfl | rfl | rfl
        · by_cases hl : ns.length = 1
          · obtain ⟨a, rfl⟩ := len1 hl
            simp [make44] at j4
            subst j4
            exact ⟨⟨[116, 105, 109, 101], 2, [97]⟩, by simp [kinds], (lineOf_ln (by decide)).2 ⟨by simpa [getF] using i2, by simp [getF, wordAt, words], by simp [setF, getF, dbl]⟩⟩
          · simp [make44, hl] at j4
        · by_cases hl : ns.length = 4
          · obtain ⟨a, b, c, d, rfl⟩ := len4 hl
            simp [make44] at j4
            subst j4
            exact ⟨⟨[109, 105, 120], 3, [97, 102, 110, 109]⟩, by simp [kinds], (lineOf_ln (by decide)).2 ⟨by simpa [getF] using i2, by simp [getF, wordAt, words], by simp [setF, getF, dbl]⟩⟩
          · simp [make44, hl] at j4
        · by_cases hl : ns.length = 1
          · obtain ⟨a, rfl⟩ := len1 hl
            simp [make44] at j4
            subst j4
            exact ⟨⟨[98, 114, 105, 110, 103, 115], 4, [119]⟩, by simp [kinds], (lineOf_ln (by decide)).2 ⟨by simpa [getF] using i2, by simp [getF, wordAt, words], by simp [setF, getF, dbl]⟩⟩
          · simp [make44, hl] at j4
        · by_cases hl : ns.length = 1
          · obtain ⟨a, rfl⟩ := len1 hl
            simp [make44] at j4
            subst j4
            exact ⟨⟨[108, 111, 115, 101, 115], 5, [119]⟩, by simp [kinds], (lineOf_ln (by decide)).2 ⟨by simpa [getF] using i2, by simp [getF, wordAt, words], by simp [setF, getF, dbl]⟩⟩
          · simp [make44, hl] at j4
        · by_cases hl : ns.length = 3
          · obtain ⟨a, b, c, rfl⟩ := len3 hl
            simp [make44] at j4
            subst j4
            exact ⟨⟨[115, 112, 111, 105, 108, 115], 6, [119, 109, 107]⟩, by simp [kinds], (lineOf_ln (by decide)).2 ⟨by simpa [getF] using i2, by simp [getF, wordAt, words], by simp [setF, getF, dbl]⟩⟩
          · simp [make44, hl] at j4
        · by_cases hl : ns.length = 2
          · obtain ⟨a, b, rfl⟩ := len2 hl
            simp [make44] at j4
            subst j4
            exact ⟨⟨[102, 97, 108, 108, 115], 7, [97, 107]⟩, by simp [kinds], (lineOf_ln (by decide)).2 ⟨by simpa [getF] using i2, by simp [getF, wordAt, words], by simp [setF, getF, dbl]⟩⟩
          · simp [make44, hl] at j4
        · by_cases hl : ns.length = 1
          · obtain ⟨a, rfl⟩ := len1 hl
            simp [make44] at j4
            subst j4
            exact ⟨⟨[114, 105, 115, 101, 115], 8, [97]⟩, by simp [kinds], (lineOf_ln (by decide)).2 ⟨by simpa [getF] using i2, by simp [getF, wordAt, words], by simp [setF, getF, dbl]⟩⟩
          · simp [make44, hl] at j4
        · by_cases hl : ns.length = 1
          · obtain ⟨a, rfl⟩ := len1 hl
            simp [make44] at j4
            subst j4
            exact ⟨⟨[111, 112, 101, 110, 115], 9, [97]⟩, by simp [kinds], (lineOf_ln (by decide)).2 ⟨by simpa [getF] using i2, by simp [getF, wordAt, words], by simp [setF, getF, dbl]⟩⟩
          · simp [make44, hl] at j4
        · by_cases hl : ns.length = 1
          · obtain ⟨a, rfl⟩ := len1 hl
            simp [make44] at j4
            subst j4
            exact ⟨⟨[99, 108, 111, 115, 101, 115], 10, [97]⟩, by simp [kinds], (lineOf_ln (by decide)).2 ⟨by simpa [getF] using i2, by simp [getF, wordAt, words], by simp [setF, getF, dbl]⟩⟩
          · simp [make44, hl] at j4
        · by_cases hl : ns.length = 3
          · obtain ⟨a, b, c, rfl⟩ := len3 hl
            simp [make44] at j4
            subst j4
            exact ⟨⟨[101, 97, 116, 115], 11, [97, 102, 110]⟩, by simp [kinds], (lineOf_ln (by decide)).2 ⟨by simpa [getF] using i2, by simp [getF, wordAt, words], by simp [setF, getF, dbl]⟩⟩
          · simp [make44, hl] at j4
        · by_cases hl : ns.length = 1
          · obtain ⟨a, rfl⟩ := len1 hl
            simp [make44] at j4
            subst j4
            exact ⟨⟨[112, 97, 99, 107, 115], 12, [97]⟩, by simp [kinds], (lineOf_ln (by decide)).2 ⟨by simpa [getF] using i2, by simp [getF, wordAt, words], by simp [setF, getF, dbl]⟩⟩
          · simp [make44, hl] at j4
        · by_cases hl : ns.length = 1
          · obtain ⟨a, rfl⟩ := len1 hl
            simp [make44] at j4
            subst j4
            exact ⟨⟨[102, 111, 114, 99, 101, 115], 13, [97]⟩, by simp [kinds], (lineOf_ln (by decide)).2 ⟨by simpa [getF] using i2, by simp [getF, wordAt, words], by simp [setF, getF, dbl]⟩⟩
          · simp [make44, hl] at j4
        · by_cases hl : ns.length = 1
          · obtain ⟨a, rfl⟩ := len1 hl
            simp [make44] at j4
            subst j4
            exact ⟨⟨[100, 111, 117, 98, 108, 101, 115], 4, [119]⟩, by simp [kinds], (lineOf_ln (by decide)).2 ⟨by simpa [getF] using i2, by simp [getF, wordAt, words], by simp [setF, getF, dbl]⟩⟩
          · simp [make44, hl] at j4

end Go.PMS
/- The program's RiverWrite computes what the reference's computes. Plain Lean. -/
namespace Go.PMS
open Go Go.PM

theorem fold_pick (e : Ev) : ∀ (xs : List Lk) (line : Str), (∀ x ∈ xs, x ∈ kinds) →
    xs.foldl (lineStep e) line = if (∃ x ∈ xs, (lineOf e x).2 = true) then line44 e else line
  | [], line, _ => by simp
  | x :: xs, line, hx => by
    rw [List.foldl_cons, fold_pick e xs _ fun y hy => hx y (by simp [hy])]
    by_cases h : ∃ y ∈ xs, (lineOf e y).2 = true
    · rw [if_pos h, if_pos (by obtain ⟨y, hy, h2⟩ := h; exact ⟨y, by simp [hy], h2⟩)]
    · rw [if_neg h]
      by_cases h2 : (lineOf e x).2 = true
      · rw [if_pos ⟨x, by simp, h2⟩, lineStep, if_pos h2]
        exact (lineOf_read e x (hx x (by simp)) _ (Prod.ext rfl h2)).1
      · rw [if_neg, lineStep, if_neg h2]
        rintro ⟨y, hy, h3⟩
        rcases List.mem_cons.1 hy with rfl | hy
        · exact h2 h3
        · exact h ⟨y, hy, h3⟩

theorem pick_yes {e : Ev} (h : read44 (line44 e) = (e, true)) : pickLine e = line44 e ∧ line44 e ≠ [] := by
  obtain ⟨x, hx, h2⟩ := read_lineOf h
  have h3 := lineOf_read e x hx _ h2
  exact ⟨by rw [pickLine, fold_pick e kinds [] (fun _ h => h), if_pos ⟨x, hx, by rw [h2]⟩], h3.2.2⟩

theorem pick_no {e : Ev} (h : read44 (line44 e) ≠ (e, true)) : pickLine e = [] := by
  rw [pickLine, fold_pick e kinds [] (fun _ h => h), if_neg]
  rintro ⟨x, hx, h2⟩
  have h3 := lineOf_read e x hx _ (Prod.ext rfl h2)
  rw [h3.1] at h3
  exact h h3.2.1

theorem write8_long : ∀ (l : List Ev) (out : Str), 60000 < out.length → write8 out l = []
  | [], out, h => by rw [write8, if_pos h]
  | e :: l, out, h => by rw [write8, if_pos (.inr h)]

theorem write_same : ∀ (l : List Ev) (out : Str), out.length ≤ 60000 → write8 out l = write44 out l
  | [], out, h => by rw [write8, if_neg (by omega), write44]
  | e :: l, out, h => by
    rw [write8, write44]
    by_cases hr : read44 (line44 e) = (e, true)
    · obtain ⟨h1, h2⟩ := pick_yes hr
      rw [if_pos hr, h1, if_neg (fun h3 => h3.elim h2 (by omega)), ← List.append_assoc]
      by_cases h4 : 60000 < (out ++ line44 e ++ [10]).length
      · rw [if_pos h4, write8_long _ _ h4]
      · rw [if_neg h4, write_same l _ (by omega)]
    · rw [if_neg hr, if_pos (.inl (pick_no hr))]

theorem write8_eq (l : List Ev) : write8 [] l = write44 [] l := write_same l [] (by simp)

end Go.PMS
/- Contracts of the library at this seat: of what the kit's tool laid, what is wanted here. -/
namespace Go.Proofs
open Go.Shelf
def Tryd.laysM171_ren : Go.Shelf.Ren := ⟨fun | 171 => 36 | 243 => 44 | 246 => 51 | 283 => 56 | 284 => 57 | 285 => 58 | 286 => 59 | 129 => 66 | 317 => 65 | 318 => 67 | 319 => 68 | 320 => 69 | 337 => 72 | 338 => 73 | n => n, fun | 3 => 3 | 9 => 9 | 2 => 2 | 4 => 4 | 171 => 89 | 0 => 0 | 53 => 90 | 37 => 42 | 5 => 5 | 173 => 93 | 212 => 98 | 51 => 99 | 20 => 20 | 213 => 100 | 46 => 96 | 232 => 110 | 233 => 111 | n => n, fun | 17 => 1 | 18 => 4 | 19 => 5 | n => n⟩
theorem Tryd.laysM171 : Go.Proofs.LaysM.n171 Tryd.prog Tryd.laysM171_ren := {
  mixed := by kernel_rfl
  f129 := Tryd.func66.trans (congrArg some (by kernel_rfl))
  f171 := Tryd.func36.trans (congrArg some (by kernel_rfl))
  f243 := Tryd.func44.trans (congrArg some (by kernel_rfl))
  f246 := Tryd.func51.trans (congrArg some (by kernel_rfl))
  f283 := Tryd.func56.trans (congrArg some (by kernel_rfl))
  f284 := Tryd.func57.trans (congrArg some (by kernel_rfl))
  f285 := Tryd.func58.trans (congrArg some (by kernel_rfl))
  f286 := Tryd.func59.trans (congrArg some (by kernel_rfl))
  f317 := Tryd.func65.trans (congrArg some (by kernel_rfl))
  f318 := Tryd.func67.trans (congrArg some (by kernel_rfl))
  f319 := Tryd.func68.trans (congrArg some (by kernel_rfl))
  f320 := Tryd.func69.trans (congrArg some (by kernel_rfl))
  f337 := Tryd.func72.trans (congrArg some (by kernel_rfl))
  f338 := Tryd.func73.trans (congrArg some (by kernel_rfl))
  t0 := Tryd.underlying0
  a0 := Tryd.isAgg0
  z0 := Tryd.sizeOf0
  v0 := Tryd.zeroValue0
  t2 := Tryd.underlying2
  a2 := Tryd.isAgg2
  z2 := Tryd.sizeOf2
  v2 := Tryd.zeroValue2
  t3 := Tryd.underlying3
  a3 := Tryd.isAgg3
  z3 := Tryd.sizeOf3
  v3 := Tryd.zeroValue3
  t4 := Tryd.underlying4
  a4 := Tryd.isAgg4
  z4 := Tryd.sizeOf4
  v4 := Tryd.zeroValue4
  t5 := Tryd.underlying5
  a5 := Tryd.isAgg5
  z5 := Tryd.sizeOf5
  v5 := Tryd.zeroValue5
  t9 := Tryd.underlying9
  a9 := Tryd.isAgg9
  z9 := Tryd.sizeOf9
  v9 := Tryd.zeroValue9
  t20 := Tryd.underlying20
  a20 := Tryd.isAgg20
  z20 := Tryd.sizeOf20
  v20 := Tryd.zeroValue20
  t37 := Tryd.underlying42
  a37 := Tryd.isAgg42
  z37 := Tryd.sizeOf42
  v37 := Tryd.zeroValue42
  t46 := Tryd.underlying96
  a46 := Tryd.isAgg96
  z46 := Tryd.sizeOf96
  v46 := Tryd.zeroValue96
  t51 := Tryd.underlying99
  a51 := Tryd.isAgg99
  z51 := Tryd.sizeOf99
  v51 := Tryd.zeroValue99
  t53 := Tryd.underlying90
  a53 := Tryd.isAgg90
  z53 := Tryd.sizeOf90
  v53 := Tryd.zeroValue90
  t171 := Tryd.underlying89
  a171 := Tryd.isAgg89
  z171 := Tryd.sizeOf89
  v171 := Tryd.zeroValue89
  t173 := Tryd.underlying93
  a173 := Tryd.isAgg93
  z173 := Tryd.sizeOf93
  v173 := Tryd.zeroValue93
  t212 := Tryd.underlying98
  a212 := Tryd.isAgg98
  z212 := Tryd.sizeOf98
  v212 := Tryd.zeroValue98
  t213 := Tryd.underlying100
  a213 := Tryd.isAgg100
  z213 := Tryd.sizeOf100
  t232 := Tryd.underlying110
  a232 := Tryd.isAgg110
  z232 := Tryd.sizeOf110
  v232 := Tryd.zeroValue110
  t233 := Tryd.underlying111
  a233 := Tryd.isAgg111
  z233 := Tryd.sizeOf111
  v233 := Tryd.zeroValue111
  g17 := by kernel_rfl
  g18 := by kernel_rfl
  g19 := by kernel_rfl
  i0 := by kernel_rfl
  i2 := by kernel_rfl
  i3 := by kernel_rfl
  i4 := by kernel_rfl
  i5 := by kernel_rfl
  i9 := by kernel_rfl
  i20 := by kernel_rfl
  i37 := by kernel_rfl
  i46 := by kernel_rfl
  i51 := by kernel_rfl
  i53 := by kernel_rfl
  i171 := by kernel_rfl
  i173 := by kernel_rfl
  i212 := by kernel_rfl
  i232 := by kernel_rfl
  i233 := by kernel_rfl
  m17 := by kernel_rfl
  m18 := by kernel_rfl
  m19 := by kernel_rfl }
open Go.RowKit Go.Sort Go.Lib in
theorem Tryd.strconv_Itoa (n : Int) (h0 : -9223372036854775808 ≤ n) (h1 : n ≤ 9223372036854775807) (w : World) (htab : Lib.TabIs Tryd.prog w "internal/strconv.uint64pow10" .u64 Lib.pow10Tab) :
    Calls Tryd.prog 36 #[.int .i64 n] w fun e w' => e = .returned (.string ⟨(Lib.itoa n).toArray⟩) ∧ ∃ k os, w' = grow (w.drewN k) os := Any.strconv_Itoa Tryd.laysM171 n h0 h1 w htab
def Tryd.laysM146_ren : Go.Shelf.Ren := ⟨fun | 146 => 25 | 221 => 39 | 268 => 46 | 138 => 47 | 143 => 48 | 195 => 52 | 197 => 53 | 218 => 54 | 219 => 55 | 260 => 60 | 217 => 61 | 225 => 62 | 224 => 63 | 267 => 64 | 266 => 70 | 314 => 71 | n => n, fun | 9 => 9 | 31 => 58 | 3 => 3 | 4 => 4 | 0 => 0 | 105 => 86 | 21 => 21 | 5 => 5 | 46 => 96 | 119 => 103 | 139 => 106 | 138 => 105 | 146 => 107 | 51 => 99 | n => n, fun | 1 => 0 | 3 => 2 | 4 => 3 | n => n⟩
theorem Tryd.laysM146 : Go.Proofs.LaysM.n146 Tryd.prog Tryd.laysM146_ren := {
  mixed := by kernel_rfl
  f138 := Tryd.func47.trans (congrArg some (by kernel_rfl))
  f143 := Tryd.func48.trans (congrArg some (by kernel_rfl))
  f146 := Tryd.func25.trans (congrArg some (by kernel_rfl))
  f195 := Tryd.func52.trans (congrArg some (by kernel_rfl))
  f197 := Tryd.func53.trans (congrArg some (by kernel_rfl))
  f217 := Tryd.func61.trans (congrArg some (by kernel_rfl))
  f218 := Tryd.func54.trans (congrArg some (by kernel_rfl))
  f219 := Tryd.func55.trans (congrArg some (by kernel_rfl))
  f221 := Tryd.func39.trans (congrArg some (by kernel_rfl))
  f224 := Tryd.func63.trans (congrArg some (by kernel_rfl))
  f225 := Tryd.func62.trans (congrArg some (by kernel_rfl))
  f260 := Tryd.func60.trans (congrArg some (by kernel_rfl))
  f266 := Tryd.func70.trans (congrArg some (by kernel_rfl))
  f267 := Tryd.func64.trans (congrArg some (by kernel_rfl))
  f268 := Tryd.func46.trans (congrArg some (by kernel_rfl))
  f314 := Tryd.func71.trans (congrArg some (by kernel_rfl))
  t0 := Tryd.underlying0
  a0 := Tryd.isAgg0
  z0 := Tryd.sizeOf0
  v0 := Tryd.zeroValue0
  t3 := Tryd.underlying3
  a3 := Tryd.isAgg3
  z3 := Tryd.sizeOf3
  v3 := Tryd.zeroValue3
  t4 := Tryd.underlying4
  a4 := Tryd.isAgg4
  z4 := Tryd.sizeOf4
  v4 := Tryd.zeroValue4
  t5 := Tryd.underlying5
  a5 := Tryd.isAgg5
  z5 := Tryd.sizeOf5
  v5 := Tryd.zeroValue5
  t9 := Tryd.underlying9
  a9 := Tryd.isAgg9
  z9 := Tryd.sizeOf9
  v9 := Tryd.zeroValue9
  t21 := Tryd.underlying21
  a21 := Tryd.isAgg21
  z21 := Tryd.sizeOf21
  v21 := Tryd.zeroValue21
  t31 := Tryd.underlying58
  a31 := Tryd.isAgg58
  z31 := Tryd.sizeOf58
  v31 := Tryd.zeroValue58
  t46 := Tryd.underlying96
  a46 := Tryd.isAgg96
  z46 := Tryd.sizeOf96
  v46 := Tryd.zeroValue96
  t51 := Tryd.underlying99
  a51 := Tryd.isAgg99
  z51 := Tryd.sizeOf99
  v51 := Tryd.zeroValue99
  t105 := Tryd.underlying86
  a105 := Tryd.isAgg86
  z105 := Tryd.sizeOf86
  v105 := Tryd.zeroValue86
  t119 := Tryd.underlying103
  a119 := Tryd.isAgg103
  z119 := Tryd.sizeOf103
  t138 := Tryd.underlying105
  a138 := Tryd.isAgg105
  z138 := Tryd.sizeOf105
  v138 := Tryd.zeroValue105
  t139 := Tryd.underlying106
  a139 := Tryd.isAgg106
  z139 := Tryd.sizeOf106
  v139 := Tryd.zeroValue106
  t146 := Tryd.underlying107
  a146 := Tryd.isAgg107
  z146 := Tryd.sizeOf107
  v146 := Tryd.zeroValue107
  g1 := by kernel_rfl
  g3 := by kernel_rfl
  g4 := by kernel_rfl
  i0 := by kernel_rfl
  i3 := by kernel_rfl
  i4 := by kernel_rfl
  i5 := by kernel_rfl
  i9 := by kernel_rfl
  i21 := by kernel_rfl
  i31 := by kernel_rfl
  i46 := by kernel_rfl
  i51 := by kernel_rfl
  i105 := by kernel_rfl
  i138 := by kernel_rfl
  i139 := by kernel_rfl
  i146 := by kernel_rfl
  m1 := by kernel_rfl
  s1_3 := fun w h => Go.Proofs.cell_of_shapedOpen_int (zero := #[.int .i64 0]) (t := 3) h (of_decide_eq_true (by kernel_rfl)) (by kernel_rfl) rfl (by kernel_rfl) (by kernel_rfl) Tryd.underlying3
  m3 := by kernel_rfl
  m4 := by kernel_rfl }
open Go.RowKit Go.Lib in
theorem Tryd.strings_Split_shaped (s sep : ByteArray) (w : World) (h : w.ShapedOpen Tryd.prog) (hs : s.size < 4294967281) (h1 : 1 ≤ sep.size) :
    Calls Tryd.prog 25 #[.string s, .string sep] w fun e w' =>
      e = .returned (.slice (some ⟨w.heap.size, 0, none⟩) (Lib.countB s sep + 1) (Lib.countB s sep + 1)) ∧ w' = w.alloc (.cells ((Lib.splitB sep 0 (Lib.countB s sep) s).map Value.string).toArray 9) := Any.strings_Split_shaped Tryd.laysM146 s sep w h hs h1
def Tryd.laysM147_ren : Go.Shelf.Ren := ⟨fun | 147 => 40 | 221 => 39 | 268 => 46 | 138 => 47 | 143 => 48 | 195 => 52 | 197 => 53 | 218 => 54 | 219 => 55 | 260 => 60 | 217 => 61 | 225 => 62 | 224 => 63 | 267 => 64 | 266 => 70 | 314 => 71 | n => n, fun | 9 => 9 | 3 => 3 | 31 => 58 | 4 => 4 | 0 => 0 | 105 => 86 | 21 => 21 | 5 => 5 | 46 => 96 | 119 => 103 | 139 => 106 | 138 => 105 | 146 => 107 | 51 => 99 | n => n, fun | 1 => 0 | 3 => 2 | 4 => 3 | n => n⟩
theorem Tryd.laysM147 : Go.Proofs.LaysM.n147 Tryd.prog Tryd.laysM147_ren := {
  mixed := by kernel_rfl
  f138 := Tryd.func47.trans (congrArg some (by kernel_rfl))
  f143 := Tryd.func48.trans (congrArg some (by kernel_rfl))
  f147 := Tryd.func40.trans (congrArg some (by kernel_rfl))
  f195 := Tryd.func52.trans (congrArg some (by kernel_rfl))
  f197 := Tryd.func53.trans (congrArg some (by kernel_rfl))
  f217 := Tryd.func61.trans (congrArg some (by kernel_rfl))
  f218 := Tryd.func54.trans (congrArg some (by kernel_rfl))
  f219 := Tryd.func55.trans (congrArg some (by kernel_rfl))
  f221 := Tryd.func39.trans (congrArg some (by kernel_rfl))
  f224 := Tryd.func63.trans (congrArg some (by kernel_rfl))
  f225 := Tryd.func62.trans (congrArg some (by kernel_rfl))
  f260 := Tryd.func60.trans (congrArg some (by kernel_rfl))
  f266 := Tryd.func70.trans (congrArg some (by kernel_rfl))
  f267 := Tryd.func64.trans (congrArg some (by kernel_rfl))
  f268 := Tryd.func46.trans (congrArg some (by kernel_rfl))
  f314 := Tryd.func71.trans (congrArg some (by kernel_rfl))
  t0 := Tryd.underlying0
  a0 := Tryd.isAgg0
  z0 := Tryd.sizeOf0
  v0 := Tryd.zeroValue0
  t3 := Tryd.underlying3
  a3 := Tryd.isAgg3
  z3 := Tryd.sizeOf3
  v3 := Tryd.zeroValue3
  t4 := Tryd.underlying4
  a4 := Tryd.isAgg4
  z4 := Tryd.sizeOf4
  v4 := Tryd.zeroValue4
  t5 := Tryd.underlying5
  a5 := Tryd.isAgg5
  z5 := Tryd.sizeOf5
  v5 := Tryd.zeroValue5
  t9 := Tryd.underlying9
  a9 := Tryd.isAgg9
  z9 := Tryd.sizeOf9
  v9 := Tryd.zeroValue9
  t21 := Tryd.underlying21
  a21 := Tryd.isAgg21
  z21 := Tryd.sizeOf21
  v21 := Tryd.zeroValue21
  t31 := Tryd.underlying58
  a31 := Tryd.isAgg58
  z31 := Tryd.sizeOf58
  v31 := Tryd.zeroValue58
  t46 := Tryd.underlying96
  a46 := Tryd.isAgg96
  z46 := Tryd.sizeOf96
  v46 := Tryd.zeroValue96
  t51 := Tryd.underlying99
  a51 := Tryd.isAgg99
  z51 := Tryd.sizeOf99
  v51 := Tryd.zeroValue99
  t105 := Tryd.underlying86
  a105 := Tryd.isAgg86
  z105 := Tryd.sizeOf86
  v105 := Tryd.zeroValue86
  t119 := Tryd.underlying103
  a119 := Tryd.isAgg103
  z119 := Tryd.sizeOf103
  t138 := Tryd.underlying105
  a138 := Tryd.isAgg105
  z138 := Tryd.sizeOf105
  v138 := Tryd.zeroValue105
  t139 := Tryd.underlying106
  a139 := Tryd.isAgg106
  z139 := Tryd.sizeOf106
  v139 := Tryd.zeroValue106
  t146 := Tryd.underlying107
  a146 := Tryd.isAgg107
  z146 := Tryd.sizeOf107
  v146 := Tryd.zeroValue107
  g1 := by kernel_rfl
  g3 := by kernel_rfl
  g4 := by kernel_rfl
  i0 := by kernel_rfl
  i3 := by kernel_rfl
  i4 := by kernel_rfl
  i5 := by kernel_rfl
  i9 := by kernel_rfl
  i21 := by kernel_rfl
  i31 := by kernel_rfl
  i46 := by kernel_rfl
  i51 := by kernel_rfl
  i105 := by kernel_rfl
  i138 := by kernel_rfl
  i139 := by kernel_rfl
  i146 := by kernel_rfl
  m1 := by kernel_rfl
  s1_3 := fun w h => Go.Proofs.cell_of_shapedOpen_int (zero := #[.int .i64 0]) (t := 3) h (of_decide_eq_true (by kernel_rfl)) (by kernel_rfl) rfl (by kernel_rfl) (by kernel_rfl) Tryd.underlying3
  m3 := by kernel_rfl
  m4 := by kernel_rfl }
open Go.RowKit Go.Lib in
theorem Tryd.strings_SplitN_shaped (s sep : ByteArray) (n : Nat) (w : World) (h : w.ShapedOpen Tryd.prog) (hs : s.size < 4294967281) (h1 : 1 ≤ sep.size) (hn : 1 ≤ n) (hn63 : n ≤ 9223372036854775807) :
    Calls Tryd.prog 40 #[.string s, .string sep, .int .i64 n] w fun e w' =>
      e = .returned (.slice (some ⟨w.heap.size, 0, none⟩) (Lib.splitB sep 0 (min n (s.size + 1) - 1) s).length (min n (s.size + 1))) ∧ w' = w.alloc (.cells (Lib.cellsOf (Lib.splitB sep 0 (min n (s.size + 1) - 1) s) (min n (s.size + 1))) 9) := Any.strings_SplitN_shaped Tryd.laysM147 s sep n w h hs h1 hn hn63
end Go.Proofs
namespace Go.PMS
open Go Go.Proofs Go.Shelf Go.RowKit Go.Sort
theorem sh_strconv_Itoa (n : Int) (h0 : -9223372036854775808 ≤ n) (h1 : n ≤ 9223372036854775807) (w : World) (htab : Lib.TabIs Tryd.prog w "internal/strconv.uint64pow10" .u64 Lib.pow10Tab) :
    Calls Tryd.prog 36 #[.int .i64 n] w fun e w' => e = .returned (.string ⟨(Lib.itoa n).toArray⟩) ∧ ∃ k os, w' = grow (w.drewN k) os := by
  first | exact Tryd.strconv_Itoa .. | (apply Tryd.strconv_Itoa <;> assumption)
theorem sh_strings_Split_shaped (s sep : ByteArray) (w : World) (h : w.ShapedOpen Tryd.prog) (hs : s.size < 4294967281) (h1 : 1 ≤ sep.size) :
    Calls Tryd.prog 25 #[.string s, .string sep] w fun e w' =>
      e = .returned (.slice (some ⟨w.heap.size, 0, none⟩) (Lib.countB s sep + 1) (Lib.countB s sep + 1)) ∧ w' = w.alloc (.cells ((Lib.splitB sep 0 (Lib.countB s sep) s).map Value.string).toArray 9) := by
  first | exact Tryd.strings_Split_shaped .. | (apply Tryd.strings_Split_shaped <;> assumption)
theorem sh_strings_SplitN_shaped (s sep : ByteArray) (n : Nat) (w : World) (h : w.ShapedOpen Tryd.prog) (hs : s.size < 4294967281) (h1 : 1 ≤ sep.size) (hn : 1 ≤ n) (hn63 : n ≤ 9223372036854775807) :
    Calls Tryd.prog 40 #[.string s, .string sep, .int .i64 n] w fun e w' =>
      e = .returned (.slice (some ⟨w.heap.size, 0, none⟩) (Lib.splitB sep 0 (min n (s.size + 1) - 1) s).length (min n (s.size + 1))) ∧ w' = w.alloc (.cells (Lib.cellsOf (Lib.splitB sep 0 (min n (s.size + 1) - 1) s) (min n (s.size + 1))) 9) := by
  first | exact Tryd.strings_SplitN_shaped .. | (apply Tryd.strings_SplitN_shaped <;> assumption)
end Go.PMS
namespace Go.PMS
open Go Go.PM Go.Proofs Go.RowKit
variable {W : World} {gs : Nat}
set_option maxRecDepth 20000

theorem decN_lib (n : Nat) : decN n = Lib.decDigits n := by
  induction n using Nat.strongRecOn with
  | _ n ih =>
    rw [decN, Lib.decDigits]
    split
    · rfl
    · rw [ih _ (by omega)]; rfl

theorem dec_lib (n : Int) : dec n = Lib.itoa n := by
  unfold dec Lib.itoa
  split
  · rw [decN_lib]
  · rw [decN_lib]; congr 1; omega

theorem itoa_spec (n : Int) (h0 : -9223372036854775808 ≤ n) (h1 : n ≤ 9223372036854775807)
    (htab : ∀ s : St, s.ok (bs W gs) → Lib.TabIs PP s.w "internal/strconv.uint64pow10" .u64 Lib.pow10Tab) :
    PSpec (bs W gs) n_strconv_Itoa [.int .i64 n] [] (fun r H => r = .str (dec n) ∧ H = []) := by
  refine pspec_of_grow ⟨b_strconv_Itoa, rfl, rfl, rfl⟩ fun s cargs ho hv => ?_
  obtain ⟨u, r, rfl, h2, h3⟩ := hv
  cases h3
  have h2 : u = .int .i64 n := VR_int.1 (VR_of1 h2)
  subst h2
  refine (sh_strconv_Itoa n h0 h1 s.w (htab s ho)).mono fun e w' ⟨e1, k, os, e2⟩ => ⟨_, e1, ⟨k, os, e2⟩, fun k os => VR_str.2 (by rw [dec_lib])⟩

theorem tab_keep (hgs : W.heap.size ≤ gs) {name : String} {k : IntKind} {zs : List Int} (h : Lib.TabIs PP W name k zs) (s : St) (ho : s.ok (bs W gs)) : Lib.TabIs PP s.w name k zs := by
  unfold Lib.TabIs World.var? at h ⊢
  cases hg : PP.globalNamed name with
  | none => rw [hg] at h; simp at h
  | some g =>
    rw [hg] at h
    simp only [Option.bind_some] at h ⊢
    have hlt : g < W.heap.size := by
      rcases Nat.lt_or_ge g W.heap.size with h' | h'
      · exact h'
      · rw [Array.getElem?_eq_none h'] at h; simp at h
    rw [show s.w.heap[g]? = W.heap[g]? from (ho.glob g (Nat.lt_of_lt_of_le hlt hgs)).2]
    exact h

end Go.PMS
/- How a law's row is won from a contract of the reading: what can be read al data stands for a value of the reading. -/
namespace Go.PM
open Go.RowKit Go.ChangeShapes Go.WideShapes

/-- The shape of a parameter. -/
inductive Sh where
  | int (k : IntKind) | bool | str | sl (e : Sh) | st (fs : List Sh)

mutual
def Sh.size : Sh → Nat
  | .st fs => sizes fs
  | _ => 1
def sizes : List Sh → Nat
  | [] => 0
  | f :: fs => f.size + sizes fs
end

def Sh.isSt : Sh → Bool
  | .st _ => true
  | _ => false

mutual
def fitB (P : Program) : Sh → TypeId → Bool
  | .int k, t => match P.underlying t with | some (.int k') => k == k' | _ => false
  | .bool, t => match P.underlying t with | some .bool => true | _ => false
  | .str, t => match P.underlying t with | some .string => true | _ => false
  | .sl e, t => match P.underlying t with | some (.slice et) => fitB P e et && P.cellsOf et == e.size && decide (0 < e.size) && decide (0 < P.bytesOf et) | _ => false
  | .st fs, t => match P.underlying t with | some (.struct ⟨fields⟩) => fitL P fs fields 0 && P.cellsOf t == sizes fs | _ => false
def fitL (P : Program) : List Sh → List Field → Nat → Bool
  | [], [], _ => true
  | s :: ss, f :: fl, off => f.offset == off && P.cellsOf f.type == s.size && fitB P s f.type && fitL P ss fl (off + s.size)
  | _, _, _ => false
end

def packE (s : Sh) (qs : List PV) : PV := if s.isSt then .agg qs else qs.headD .any

mutual
/-- The cells of a value of that shape. -/
def Sh.Is : Sh → List PV → Prop
  | .int k, ps => ∃ n, ps = [.int k n] ∧ k.min ≤ n ∧ n ≤ k.max
  | .bool, ps => ∃ b, ps = [.bool b]
  | .str, ps => ∃ l, ps = [.str l] ∧ l.length ≤ 140737488351232
  | .sl e, ps => ∃ xs : List PV, ps = [.snap e.size xs] ∧ (∀ x ∈ xs, ∃ qs, e.Is qs ∧ x = packE e qs) ∧ xs.length ≤ 140737488351232
  | .st fs, ps => ShIs fs ps
def ShIs : List Sh → List PV → Prop
  | [], ps => ps = []
  | f :: fs, ps => ∃ a b, ps = a ++ b ∧ f.Is a ∧ ShIs fs b
end

theorem Is_one {s : Sh} {qs : List PV} (hs : s.isSt = false) (h : s.Is qs) : ∃ q, qs = [q] := by
  cases s with
  | int k => simp only [Sh.Is] at h; obtain ⟨n, rfl, _⟩ := h; exact ⟨_, rfl⟩
  | bool => simp only [Sh.Is] at h; obtain ⟨n, rfl⟩ := h; exact ⟨_, rfl⟩
  | str => simp only [Sh.Is] at h; obtain ⟨n, rfl, _⟩ := h; exact ⟨_, rfl⟩
  | sl e => simp only [Sh.Is] at h; obtain ⟨n, rfl, _⟩ := h; exact ⟨_, rfl⟩
  | st fs => simp [Sh.isSt] at hs

theorem CR_pack {w : World} {S : Nat → Prop} {R : PV → Value → Prop} {s : Sh} {qs : List PV} {cs : List Value} (hq : s.Is qs) (h : CRl w S R qs cs) : CR w S R (packE s qs) cs := by
  unfold packE
  cases hs : s.isSt with
  | true => simp only [if_true, CR]; exact h
  | false =>
    obtain ⟨q, rfl⟩ := Is_one hs hq
    simp only [CRl] at h
    obtain ⟨v, r, rfl, h1, rfl⟩ := h
    simpa using h1

theorem CRl_append {w : World} {S : Nat → Prop} {R : PV → Value → Prop} : ∀ {al bs : List PV} {xs ys : List Value}, CRl w S R al xs → CRl w S R bs ys → CRl w S R (al ++ bs) (xs ++ ys)
  | [], _, _, _, h, k => by simp only [CRl] at h; subst h; exact k
  | a :: al, bs, xs, ys, h, k => by
    simp only [CRl] at h
    obtain ⟨v, r, rfl, h1, h2⟩ := h
    rw [List.cons_append, List.cons_append]
    simp only [CRl]
    exact ⟨v, r ++ ys, rfl, h1, CRl_append h2 k⟩

section
variable {H : Type} {enc : TypeId × Value → H} {P : Program} {w : World} {base : Nat} {spare : Nat → Bool} {held : Bool}

theorem weightsAll_mem {e : TypeId} : ∀ {l : List (DataW H)} {d : DataW H}, d ∈ l → (DataW.weightsAll P e l).all (· ≤ reachBytes) = true → (d.weights P e).all (· ≤ reachBytes) = true
  | x :: l, d, hd, h => by
    simp only [DataW.weightsAll, List.all_append, Bool.and_eq_true] at h
    rcases List.mem_cons.1 hd with rfl | hd
    · exact h.1
    · exact weightsAll_mem hd h.2

mutual
theorem trod_CR (R : PV → Value → Prop) : ∀ (s : Sh) (t : TypeId) (fuel : Nat) (cs : List Value) (x : DataW H × List MemPlace), fitB P s t = true → DataW.trod enc P w base spare held fuel t cs = some x →
    (x.1.weights P t).all (· ≤ reachBytes) = true → ∃ qs, s.Is qs ∧ CRl w (fun b => b < w.heap.size) R qs cs
  | .int k, t, fuel, cs, x, hf, h, _ => by
    simp only [fitB] at hf
    split at hf
    · rename_i k' hu
      obtain rfl : k = k' := by simpa using hf
      obtain ⟨n', rfl, hx, hwf⟩ := DataW.trod_int hu h
      simp only [Lit.wf, Bool.and_eq_true, decide_eq_true_eq] at hwf
      refine ⟨[.int k n'], ?_, ?_⟩
      · simp only [Sh.Is]; exact ⟨n', rfl, hwf⟩
      · simp [CRl, CR]
    · cases hf
  | .bool, t, fuel, cs, x, hf, h, _ => by
    simp only [fitB] at hf
    split at hf
    · rename_i hu
      obtain ⟨b, rfl, hx⟩ := DataW.trod_bool hu h
      exact ⟨[.bool b], by simp [Sh.Is], by simp [CRl, CR]⟩
    · cases hf
  | .str, t, fuel, cs, x, hf, h, hw => by
    simp only [fitB] at hf
    split at hf
    · rename_i hu
      obtain ⟨b, rfl, hx, hsz⟩ := DataW.trod_string hu h
      subst hx
      refine ⟨[.str b.data.toList], ?_, by simp [CRl, CR]⟩
      simp only [Sh.Is]
      simp only [DataW.weights, List.all_cons, List.all_nil, Bool.and_true, reachBytes] at hw
      exact ⟨_, rfl, by simpa using of_decide_eq_true hw⟩
    · cases hf
  | .sl e, t, fuel, cs, x, hf, h, hw => by
    simp only [fitB] at hf
    split at hf
    · rename_i et hu
      simp only [Bool.and_eq_true, beq_iff_eq, decide_eq_true_eq] at hf
      obtain ⟨⟨⟨hf, hz⟩, hz0⟩, hb0⟩ := hf
      rcases Go.Deep.open_slice hu h with ⟨rfl, rfl⟩ | ⟨a, len, cap, m, n, D, Pl, rfl, _, hl, _, hm, rfl, hi⟩
      · refine ⟨[.snap e.size []], ?_, ?_⟩
        · simp only [Sh.Is]; exact ⟨[], rfl, by simp, by simp⟩
        · simp only [CRl, CR]; exact ⟨.slice none 0 0, [], rfl, ⟨none, 0, rfl, by simp, .inl trivial⟩, rfl⟩
      · have hlm : len ≤ m := by rw [hm]; split <;> omega
        simp only [DataW.weights, hu, List.all_cons, Bool.and_eq_true, decide_eq_true_eq, List.all_append] at hw
        obtain ⟨hw0, hw1, _⟩ := hw
        have each : ∀ i, i < len → ∃ cs' qs, w.cells? base (a.add (i * P.cellsOf et)) (P.cellsOf et) = some cs' ∧ e.Is qs ∧ CRl w (fun b => b < w.heap.size) R qs cs' ∧ CRl w (fun b => b < w.heap.size) (fun _ _ => False) qs cs' := by
          intro i hil
          obtain ⟨cs', h1, h2⟩ := hi i (by omega)
          have hwd := weightsAll_mem (P := P) (e := et) (l := (List.range len).map D) (d := D i) (List.mem_map.2 ⟨i, by simpa using hil, rfl⟩) hw1
          obtain ⟨qs, k1, k2⟩ := trod_CR (fun _ _ => False) e et n cs' _ hf h2 hwd
          refine ⟨cs', qs, h1, k1, ?_, k2⟩
          have := CR_R (R := fun _ _ => False) (R' := R) (fun _ _ h => h.elim) (w := w) (S := fun b => b < w.heap.size) (p := .agg qs) (cs := cs') (by simpa only [CR] using k2)
          simpa only [CR] using this
        have hch : ∃ f : Nat → List PV, ∀ i, i < len → ∃ cs', w.cells? base (a.add (i * P.cellsOf et)) (P.cellsOf et) = some cs' ∧ e.Is (f i) ∧ CRl w (fun b => b < w.heap.size) (fun _ _ => False) (f i) cs' := by
          refine ⟨fun i => if h : i < len then Classical.choose (Classical.choose_spec (each i h)) else [], fun i hil => ?_⟩
          have := Classical.choose_spec (Classical.choose_spec (each i hil))
          simp only [dif_pos hil]
          exact ⟨Classical.choose (each i hil), this.1, this.2.1, this.2.2.2⟩
        obtain ⟨f, hf2⟩ := hch
        refine ⟨[.snap e.size ((List.range len).map fun i => packE e (f i))], ?_, ?_⟩
        · simp only [Sh.Is]
          refine ⟨_, rfl, fun x hx => ?_, ?_⟩
          · obtain ⟨i, hin, rfl⟩ := List.mem_map.1 hx
            obtain ⟨_, _, k1, _⟩ := hf2 i (by simpa using hin)
            exact ⟨f i, k1, rfl⟩
          · simp only [List.length_map, List.length_range] at hw0 ⊢
            have : len * 1 ≤ (len + (m - len)) * P.bytesOf et := Nat.mul_le_mul (by omega) hb0
            have h2 : reachBytes = 140737488351232 := rfl
            omega
        · have hsn : CR w (fun b => b < w.heap.size) R (.snap e.size ((List.range len).map fun i => packE e (f i))) [.slice (some a) len cap] := by
            simp only [CR]
            refine ⟨some a, cap, by simp, by simpa using hl, ?_⟩
            rcases Nat.eq_zero_or_pos len with rfl | hpos
            · left; simp
            · right
              obtain ⟨cs0, c1, _⟩ := hf2 0 hpos
              have c2 := (World.cells?_some c1)
              have c3 := c2.2.2 0 (by omega)
              rw [Nat.zero_mul, Addr.add_zero', Addr.add_zero'] at c3
              have hsome : (w.cell? a).isSome = true := by
                rw [c3, List.getElem?_eq_getElem (by omega)]; rfl
              have hsp : a.spot = none := by
                cases hs : a.spot with
                | none => rfl
                | some k =>
                  unfold World.cell? at hsome
                  split at hsome
                  · simp [hs] at hsome
                  · cases hsome
              have hblk : a.block < w.heap.size := by
                rcases Nat.lt_or_ge a.block w.heap.size with h | h
                · exact h
                · unfold World.cell? at hsome
                  rw [Array.getElem?_eq_none h] at hsome
                  cases hsome
              obtain ⟨ab, ao, al⟩ := a
              simp only at hsp hblk
              subst hsp
              refine ⟨ab, ao, rfl, hblk, CRrow_of fun i x hx => ?_⟩
              rw [List.getElem?_map] at hx
              cases hr : (List.range len)[i]? with
              | none => rw [hr] at hx; cases hx
              | some j =>
                rw [hr] at hx
                obtain ⟨hlt, hj⟩ := List.getElem?_eq_some_iff.1 hr
                simp only [List.getElem_range] at hj
                subst hj
                obtain rfl : packE e (f i) = x := by simpa using hx
                simp only [List.length_range] at hlt
                obtain ⟨cs', d1, d2, d3⟩ := hf2 i hlt
                have d4 := World.cells?_some d1
                refine ⟨cs', by rw [d4.2.1, hz], CR_pack d2 d3, fun l v hl => ?_⟩
                have hll := (List.getElem?_eq_some_iff.1 hl).1
                have := d4.2.2 l (by omega)
                rw [Addr.add_mid, Addr.add_mid, hl, hz] at this
                exact this
          simp only [CRl]
          exact ⟨_, [], rfl, hsn, rfl⟩
    · cases hf
  | .st fs, t, fuel, cs, x, hf, h, hw => by
    simp only [fitB] at hf
    split at hf
    · rename_i fields hu
      simp only [Bool.and_eq_true, beq_iff_eq] at hf
      obtain ⟨xs, n, _, rfl, hlen, hxl, hat⟩ := DataW.trod_struct hu h
      have hw : (DataW.weightsEach P (fields.map (·.type)) (xs.map (·.1))).all (· ≤ reachBytes) = true := by
        simp only [DataW.weights, hu] at hw
        simpa using hw
      obtain ⟨qs, k1, k2⟩ := trod_CRl R fs fields xs 0 n cs hf.1 (by simpa using hxl) (fun i f hi => hat i f (by simpa using hi)) hw
      refine ⟨qs, by simp only [Sh.Is]; exact k1, ?_⟩
      have : (cs.drop 0).take (sizes fs) = cs := by rw [List.drop_zero, List.take_of_length_le (by rw [hlen, hf.2]; exact Nat.le_refl _)]
      rw [this] at k2
      exact k2
    · cases hf
theorem trod_CRl (R : PV → Value → Prop) : ∀ (ss : List Sh) (fl : List Field) (xs : List (DataW H × List MemPlace)) (off n : Nat) (cs : List Value), fitL P ss fl off = true → xs.length = fl.length →
    (∀ (i : Nat) (f : Field), fl[i]? = some f → DataW.trod enc P w base spare held n f.type ((cs.drop f.offset).take (P.cellsOf f.type)) = xs[i]?) → (DataW.weightsEach P (fl.map (·.type)) (xs.map (·.1))).all (· ≤ reachBytes) = true →
    ∃ qs, ShIs ss qs ∧ CRl w (fun b => b < w.heap.size) R qs ((cs.drop off).take (sizes ss))
  | [], [], xs, off, n, cs, _, _, _, _ => ⟨[], by simp [ShIs], by simp [sizes, CRl]⟩
  | [], _ :: _, _, _, _, _, hf, _, _, _ => by simp [fitL] at hf
  | _ :: _, [], _, _, _, _, hf, _, _, _ => by simp [fitL] at hf
  | s :: ss, f :: fl, xs, off, n, cs, hf, hl, hat, hw => by
    simp only [fitL, Bool.and_eq_true, beq_iff_eq] at hf
    obtain ⟨⟨⟨ho, hc⟩, hs⟩, hr⟩ := hf
    cases xs with
    | nil => simp at hl
    | cons y ys =>
      simp only [List.map_cons, DataW.weightsEach, List.all_append, Bool.and_eq_true] at hw
      have h0 := hat 0 f (by simp)
      simp only [List.getElem?_cons_zero] at h0
      obtain ⟨a, a1, a2⟩ := trod_CR R s f.type n _ _ hs h0 hw.1
      obtain ⟨b, b1, b2⟩ := trod_CRl R ss fl ys (off + s.size) n cs hr (by simpa using hl) (fun i g hi => by simpa using hat (i + 1) g (by simpa using hi)) hw.2
      refine ⟨a ++ b, ?_, ?_⟩
      · simp only [ShIs]; exact ⟨a, b, rfl, a1, b1⟩
      · rw [ho, hc] at a2
        have := CRl_append a2 b2
        have e : (cs.drop off).take (sizes (s :: ss)) = (cs.drop off).take s.size ++ (cs.drop (off + s.size)).take (sizes ss) := by
          simp only [sizes]
          rw [List.take_add, List.drop_drop]
        rw [e]
        exact this
end

/-! ### whole arguments -/
def packV (s : Sh) (qs : List PV) : PV := packE s qs

theorem cells_one {v u : Value} (hv : ∀ cs, v ≠ .agg cs) (h : v.cells.toList = [u]) : v = u := by
  cases v <;> first | (exact absurd rfl (hv _)) | (simpa [Value.cells] using h)

theorem arg_VR {W : World} {s : St} (hsw : s.w = W) (hS : s.S = fun b => b < W.heap.size) {r : Reach} {b0 : Nat} {sh : Sh} {t : TypeId} {v : Value} {d : DataW H} {ps : List MemPlace} (hf : fitB P sh t = true)
    (hval : Value.okWide P W r b0 t v) (h : DataW.Trod enc P W base spare held t v d ps) (hw : (d.weights P t).all (· ≤ reachBytes) = true) : ∃ qs, sh.Is qs ∧ VR1 s (packE sh qs) v := by
  obtain ⟨n, h⟩ := h
  obtain ⟨qs, h1, h2⟩ := trod_CR (RR s) sh t n _ _ hf h hw
  rw [← hsw, ← show s.S = fun b => b < s.w.heap.size by rw [hS, hsw]] at h2
  refine ⟨qs, h1, ?_⟩
  cases hs : sh.isSt with
  | true =>
    cases sh with
    | st fs =>
      simp only [fitB] at hf
      split at hf
      · rename_i fields hu
        obtain ⟨cs, rfl, _⟩ := okWide_struct hu hval
        simp only [packE, hs, if_true]
        exact ⟨cs, rfl, h2⟩
      · cases hf
    | _ => simp [Sh.isSt] at hs
  | false =>
    obtain ⟨q, rfl⟩ := Is_one hs h1
    have h3 := CR_pack h1 h2
    simp only [CRl] at h2
    obtain ⟨u, r', hu, h4, rfl⟩ := h2
    have hna : ∀ cs, v ≠ .agg cs := by
      rintro cs rfl
      cases sh <;> simp only [Sh.isSt] at hs <;> simp only [fitB] at hf <;> split at hf <;> first | (cases hf; done) | (rename_i hu0; simp [Value.okWide, hu0, Cell.okWide, Cell.ok] at hval) | (rename_i hu0; simp [hs] at hf) | skip
      all_goals first | (simp at hs; done) | skip
    obtain rfl := cells_one hna hu
    have h5 : packE sh [q] = q := by simp [packE, hs]
    rw [h5]
    cases q with
    | any => trivial
    | agg fs => cases sh <;> simp [Sh.Is, Sh.isSt] at h1 hs
    | tup fs => simp only [CR] at h4
    | _ => exact h4

def isAll : List Sh → List PV → Prop
  | [], [] => True
  | s :: ss, p :: ps => (∃ qs, s.Is qs ∧ p = packE s qs) ∧ isAll ss ps
  | _, _ => False

def fitAll (P : Program) : List Sh → List TypeId → Bool
  | [], [] => true
  | s :: ss, t :: ts => fitB P s t && P.readableRec t && decide (t < P.types.size) && fitAll P ss ts
  | _, _ => false

theorem args_VR {W : World} {s : St} (hsw : s.w = W) (hS : s.S = fun b => b < W.heap.size) {r : Reach} {b0 : Nat} : ∀ {shs : List Sh} {ts : List TypeId} {vs : List Value} {ds : List (DataW H)} {ps : List MemPlace}, fitAll P shs ts = true →
    (∀ (j : Nat) (t : TypeId) (v : Value), ts[j]? = some t → vs[j]? = some v → Value.okWide P W r b0 t v) → DataW.TrodAll enc P W base spare held ts vs ds ps → (DataW.weightsEach P ts ds).all (· ≤ reachBytes) = true → ∃ qs, isAll shs qs ∧ VRs s qs vs
  | [], [], vs, ds, ps, _, _, h, _ => by
    cases vs <;> cases ds <;> simp only [DataW.TrodAll] at h
    exact ⟨[], trivial, rfl⟩
  | [], _ :: _, _, _, _, hf, _, _, _ => by simp [fitAll] at hf
  | _ :: _, [], _, _, _, hf, _, _, _ => by simp [fitAll] at hf
  | sh :: shs, t :: ts, vs, ds, ps, hf, hval, h, hw => by
    cases vs with
    | nil => cases ds <;> simp only [DataW.TrodAll] at h
    | cons v vs =>
      cases ds with
      | nil => simp only [DataW.TrodAll] at h
      | cons d ds =>
        simp only [DataW.TrodAll] at h
        obtain ⟨p, q, h1, h2, rfl⟩ := h
        simp only [fitAll, Bool.and_eq_true] at hf
        simp only [DataW.weightsEach, List.all_append, Bool.and_eq_true] at hw
        obtain ⟨qs, k1, k2⟩ := arg_VR hsw hS hf.1.1.1 (hval 0 t v rfl rfl) h1 hw.1
        obtain ⟨rs, r1, r2⟩ := args_VR hsw hS hf.2 (fun j t' v' hj hv' => hval (j + 1) t' v' (by simpa using hj) (by simpa using hv')) h2 hw.2
        exact ⟨packE sh qs :: rs, ⟨⟨qs, k1, rfl⟩, r1⟩, v, vs, rfl, k2, r2⟩

theorem trodAll_stays (hl : laidOutB P = true) {W W' : World} {sp' : Nat → Bool} (hb : Below W.heap.size W W') : ∀ {shs : List Sh} {ts : List TypeId} {vs : List Value} {ds : List (DataW H)} {ps : List MemPlace}, fitAll P shs ts = true →
    DataW.TrodAll enc P W 0 (fun _ => true) true ts vs ds ps → (∀ p ∈ ps, p.block < W.heap.size) → (∀ p ∈ ps, sp' p.block = true) → DataW.TrodAll enc P W' 0 sp' true ts vs ds ps
  | [], [], vs, ds, ps, _, h, _, _ => by
    cases vs <;> cases ds <;> simp only [DataW.TrodAll] at h ⊢ <;> exact h
  | [], _ :: _, _, _, _, hf, _, _, _ => by simp [fitAll] at hf
  | _ :: _, [], _, _, _, hf, _, _, _ => by simp [fitAll] at hf
  | sh :: shs, t :: ts, vs, ds, ps, hf, h, hlt, hs => by
    cases vs with
    | nil => cases ds <;> simp only [DataW.TrodAll] at h
    | cons v vs =>
      cases ds with
      | nil => simp only [DataW.TrodAll] at h
      | cons d ds =>
        simp only [DataW.TrodAll] at h ⊢
        obtain ⟨p, q, h1, h2, rfl⟩ := h
        simp only [fitAll, Bool.and_eq_true, decide_eq_true_eq] at hf
        exact ⟨p, q, WideElems.Trod_stays hl hf.1.1.2 hf.1.2 h1 (fun x hx => hb.same (hlt x (by simp [hx]))) (fun x hx => hs x (by simp [hx])), trodAll_stays hl hb hf.2 h2 (fun x hx => hlt x (by simp [hx])) (fun x hx => hs x (by simp [hx])), rfl⟩

/-- The state in which a law's call begins: all that there is is data. -/
def st0 (W : World) : St := ⟨W, fun _ => none, fun b => b < W.heap.size, []⟩

theorem st0_ok {B : Base} {W : World} (hW : B.W = W) (hg : B.gs = W.heap.size) : (st0 W).ok B where
  lt _ h := h
  blk _ _ h := by simp [st0, Heap.get] at h
  inj _ _ _ _ _ _ _ h := by simp [st0, Heap.get] at h
  glob b hb := ⟨by rw [hg] at hb; exact hb, by rw [hW]; rfl⟩

/-- **A law's post, out of its contract in the reading.** -/
theorem law_contract {B : Base} {W : World} {f : FuncId} {fn : Func} {s : ChangeSpec} {shs : List Sh} {rt : TypeId} {apart fresh handsOn again : Bool} {args : Array Value} {ds gs : List (DataW H)} {before : List MemPlace} {bb : Nat} (hP : B.P = P) (hBW : B.W = W) (hBg : B.gs = W.heap.size)
    (hl : laidOutB P = true) (hfit : fitAll P shs fn.params.toList = true) (hrt : fn.resultTypes = #[rt]) (hbool : P.underlying rt = some .bool) (hvars : s.vars = [])
    (hfn : ds.length = shs.length → s.fn H (ds ++ gs) = { results := [.lit (.bool true)], args := ds })
    (hval : ∀ (j : Nat) t v, fn.params[j]? = some t → args[j]? = some v → Value.okWide P W .any bb t v)
    (hW : DataW.Whole enc P fn.params.toList s.vars apart W args.toList ds gs before)
    (hsz : (DataW.weightsEach P (fn.params.toList ++ s.plain.varTypes P) (ds ++ gs)).all (· ≤ reachBytes) = true)
    (hspec : ∀ qs, isAll shs qs → PSpec B f qs [] (fun r H => r = .bool true ∧ H = [])) :
    Calls P f args W fun e W' => ∃ v, e = .returned v ∧ s.post enc P fn apart fresh handsOn again W args v W' := by
  have hW' := hW
  obtain ⟨p, q, hA, hV, rfl, hz, hn⟩ := hW
  rw [hvars] at hV
  have hgs : gs = [] ∧ q = [] := by cases gs <;> simp only [DataW.TrodVars] at hV <;> exact ⟨rfl, hV⟩
  obtain ⟨rfl, rfl⟩ := hgs
  simp only [List.append_nil] at *
  have hlen : ∀ {ts : List TypeId} {shs : List Sh} {vs : List Value} {ds : List (DataW H)} {ps : List MemPlace}, fitAll P shs ts = true → DataW.TrodAll enc P W 0 (fun _ => true) true ts vs ds ps → ds.length = shs.length ∧ ds.length = ts.length := by
    intro ts
    induction ts with
    | nil =>
      intro shs vs ds ps hf h
      cases shs with
      | nil => cases vs <;> cases ds <;> simp only [DataW.TrodAll] at h; exact ⟨rfl, rfl⟩
      | cons _ _ => simp [fitAll] at hf
    | cons t ts ih =>
      intro shs vs ds ps hf h
      cases shs with
      | nil => simp [fitAll] at hf
      | cons sh shs =>
        cases vs with
        | nil => cases ds <;> simp only [DataW.TrodAll] at h
        | cons v vs =>
          cases ds with
          | nil => simp only [DataW.TrodAll] at h
          | cons d ds =>
            simp only [DataW.TrodAll] at h
            obtain ⟨_, _, _, h2, _⟩ := h
            simp only [fitAll, Bool.and_eq_true] at hf
            have := ih hf.2 h2
            simp [this.1]; omega
  have hl2 := hlen hfit hA
  have hsz' : (DataW.weightsEach P fn.params.toList ds).all (· ≤ reachBytes) = true := by
    have : ∀ (ts : List TypeId) (ds : List (DataW H)) (us : List TypeId), ds.length = ts.length → DataW.weightsEach P (ts ++ us) ds = DataW.weightsEach P ts ds := by
      intro ts
      induction ts with
      | nil => intro ds us h; cases ds <;> simp at h; cases us <;> simp [DataW.weightsEach]
      | cons t ts ih => intro ds us h; cases ds with
        | nil => simp at h
        | cons d ds => simp only [List.cons_append, DataW.weightsEach]; rw [ih ds us (by simpa using h)]
    rw [this _ _ _ hl2.2] at hsz
    exact hsz
  have hok0 : (st0 W).ok B := st0_ok hBW hBg
  obtain ⟨qs, k1, k2⟩ := args_VR (P := P) (s := st0 W) (W := W) rfl rfl hfit (fun j t v hj hv => hval j t v (by simpa using hj) (by simpa using hv)) hA hsz'
  have hrun := (hspec qs k1).run (st0 W) args.toList hok0 (fun _ => rfl) k2
  rw [hP] at hrun
  have e0 : args.toList.toArray = args := by simp
  rw [e0] at hrun
  refine hrun.mono fun e W' ⟨v, t, r, H', h1, h2, h3, h4, h5, h6, h7⟩ => ?_
  obtain ⟨rfl, rfl⟩ := h7
  subst h2
  obtain rfl : v = .bool true := VR_bool.1 h5
  have hb : Below W.heap.size W t.w := ⟨h4.os, h4.tape, h4.output, h4.size, fun b hb => h4.frame b hb (by rintro ⟨id, bk, c, q1, _⟩; simp [st0, Heap.get] at q1)⟩
  have hlt : ∀ x ∈ p, x.block < W.heap.size := fun x hx => hW'.lt x hx
  have hres : ∀ (b : Nat) (sp : Nat → Bool) (hd : Bool), DataW.TrodAll enc P t.w b sp hd fn.resultTypes.toList ((Value.bool true).resultList fn.resultTypes.size) [.lit (.bool true)] [] := by
    intro b sp hd
    rw [hrt]
    exact trodAll_cons_mk (p := []) (p' := []) ⟨1, by simp [DataW.trod, Value.cells, hbool]⟩ trodAll_mk0
  have hargs : ∀ sp : Nat → Bool, (∀ x ∈ p, sp x.block = true) → DataW.TrodAll enc P t.w 0 sp true fn.params.toList args.toList ds p := fun sp hs => trodAll_stays hl hb hfit hA hlt hs
  have hf : s.fn H (ds ++ []) = { results := [.lit (.bool true)], args := ds } := by rw [List.append_nil]; exact hfn hl2.1
  refine ⟨_, h1, ds, [], p, [], p, [], hW', ?_, ?_, ?_, World.keptBut_mono (fun x hx => ⟨hx, .inr (.inl hx)⟩) (hb.frame (· ∈ p)), fun _ => ⟨?_, [.lit (.bool true)] ++ ds, [], p, ?_, fun x hx _ => hx⟩⟩
  · rw [hf]; exact hres _ _ _
  · rw [hf]; exact hargs _ fun x hx => by simpa using hlt x hx
  · rw [hvars, hf]; rfl
  · intro j t' r' hj hv
    rw [hrt] at hj
    rw [hrt] at hv
    match j, hj, hv with
    | 0, hj, hv =>
      obtain rfl : rt = t' := by simpa using hj
      obtain rfl : Value.bool true = r' := by simpa [Value.resultList] using hv
      simp [Value.okWide, hbool, Cell.okWide, Cell.ok]
    | j + 1, hj, hv => simp at hj
  · refine ⟨[] ++ p, [], trodAll_append (hargs _ fun _ _ => rfl) (hres _ _ _), by rw [hvars]; rfl, by simp, fun b off hx => ?_, fun ha => hn ha⟩
    rw [hb.frozen (hlt _ hx)]
    exact hz b off hx
end
end Go.PM
/- The law FnExactRiverWrite: its contract in the reading. -/
namespace Go.PMS
open Go Go.PM Go.Proofs Go.RowKit
variable {W : World} {gs : Nat}
set_option maxRecDepth 20000

def evSh : Sh := .st [.int .i64, .int .i64, .int .i64, .int .i64, .int .i64, .int .i64, .int .i64, .int .i64, .int .i64, .str]

theorem i64_min : IntKind.i64.min = -9223372036854775808 := by decide
theorem i64_max : IntKind.i64.max = 9223372036854775807 := by decide

/-- Its numbers fit, its text is no longer than memory. -/
structure Ev.ok0 (e : Ev) : Prop where
  kind : I64 e.kind
  at_ : I64 e.at_
  frm : I64 e.frm
  num : I64 e.num
  word : I64 e.word
  mix : I64 e.mix
  keep : I64 e.keep
  to_ : I64 e.to_
  til : I64 e.til
  text : e.text.length ≤ 140737488351232

theorem ShIs_int {k : IntKind} {fs : List Sh} {ps : List PV} (h : ShIs (.int k :: fs) ps) : ∃ n r, ps = .int k n :: r ∧ k.min ≤ n ∧ n ≤ k.max ∧ ShIs fs r := by
  simp only [ShIs, Sh.Is] at h
  obtain ⟨a, b, rfl, ⟨n, rfl, h1, h2⟩, h3⟩ := h
  exact ⟨n, b, rfl, h1, h2, h3⟩
theorem ShIs_str {fs : List Sh} {ps : List PV} (h : ShIs (.str :: fs) ps) : ∃ l r, ps = .str l :: r ∧ l.length ≤ 140737488351232 ∧ ShIs fs r := by
  simp only [ShIs, Sh.Is] at h
  obtain ⟨a, b, rfl, ⟨l, rfl, h1⟩, h3⟩ := h
  exact ⟨l, b, rfl, h1, h3⟩
theorem ShIs_nil {ps : List PV} (h : ShIs [] ps) : ps = [] := h

theorem ev_of {qs : List PV} (h : evSh.Is qs) : ∃ e : Ev, packE evSh qs = e.pv ∧ Ev.ok0 e := by
  simp only [evSh, Sh.Is] at h
  obtain ⟨n1, _, rfl, a1, b1, h⟩ := ShIs_int h
  obtain ⟨n2, _, rfl, a2, b2, h⟩ := ShIs_int h
  obtain ⟨n3, _, rfl, a3, b3, h⟩ := ShIs_int h
  obtain ⟨n4, _, rfl, a4, b4, h⟩ := ShIs_int h
  obtain ⟨n5, _, rfl, a5, b5, h⟩ := ShIs_int h
  obtain ⟨n6, _, rfl, a6, b6, h⟩ := ShIs_int h
  obtain ⟨n7, _, rfl, a7, b7, h⟩ := ShIs_int h
  obtain ⟨n8, _, rfl, a8, b8, h⟩ := ShIs_int h
  obtain ⟨n9, _, rfl, a9, b9, h⟩ := ShIs_int h
  obtain ⟨l, _, rfl, hl, h⟩ := ShIs_str h
  obtain rfl := ShIs_nil h
  rw [i64_min] at a1 a2 a3 a4 a5 a6 a7 a8 a9
  rw [i64_max] at b1 b2 b3 b4 b5 b6 b7 b8 b9
  exact ⟨⟨n1, n2, n3, n4, n5, n6, n7, n8, n9, l⟩, rfl, ⟨a1, b1⟩, ⟨a2, b2⟩, ⟨a3, b3⟩, ⟨a4, b4⟩, ⟨a5, b5⟩, ⟨a6, b6⟩, ⟨a7, b7⟩, ⟨a8, b8⟩, ⟨a9, b9⟩, hl⟩

/-- A list of packed things is a mapped one. -/
theorem map_of {α : Type} (f : α → PV) (ok : α → Prop) : ∀ (xs : List PV), (∀ x ∈ xs, ∃ a, x = f a ∧ ok a) → ∃ l : List α, xs = l.map f ∧ ∀ a ∈ l, ok a
  | [], _ => ⟨[], rfl, by simp⟩
  | x :: xs, h => by
    obtain ⟨a, rfl, ha⟩ := h x (by simp)
    obtain ⟨l, rfl, hl⟩ := map_of f ok xs fun y hy => h y (by simp [hy])
    exact ⟨a :: l, rfl, by simpa using ⟨ha, hl⟩⟩

theorem evs_of {p : PV} (h : ∃ qs, (Sh.sl evSh).Is qs ∧ p = packE (.sl evSh) qs) : ∃ l : List Ev, p = .snap 10 (l.map Ev.pv) ∧ l.length ≤ 140737488351232 ∧ ∀ e ∈ l, Ev.ok0 e := by
  obtain ⟨qs, h1, rfl⟩ := h
  simp only [Sh.Is] at h1
  obtain ⟨xs, rfl, h2, h3⟩ := h1
  obtain ⟨l, rfl, hl⟩ := map_of Ev.pv Ev.ok0 xs fun x hx => by
    obtain ⟨qs, k1, rfl⟩ := h2 x hx
    exact ev_of k1
  exact ⟨l, rfl, by simpa using h3, hl⟩

theorem szFold_le : ∀ (l : List Ev) (x : Int), 0 ≤ l.foldl (fun x e => if x < 0 then -1 else szEv e x) x → 0 ≤ x ∧ ∀ e ∈ l, (e.text.length : Int) ≤ x
  | [], x, h => ⟨h, by simp⟩
  | e :: l, x, h => by
    rw [List.foldl_cons] at h
    obtain ⟨h1, h2⟩ := szFold_le l _ h
    by_cases hx : x < 0
    · rw [if_pos hx] at h1; omega
    · rw [if_neg hx] at h1 h2
      unfold szEv at h1 h2
      split at h1
      · omega
      · rename_i h3
        rw [if_neg h3] at h2
        refine ⟨by omega, fun f hf => ?_⟩
        rcases List.mem_cons.1 hf with rfl | hf
        · omega
        · have := h2 f hf; omega

theorem szEvS_le {l : List Ev} (h : 0 ≤ szEvS l 1048576) : l.length ≤ 1048576 ∧ ∀ e ∈ l, e.text.length ≤ 1048576 := by
  unfold szEvS at h
  split at h
  · omega
  · obtain ⟨h1, h2⟩ := szFold_le _ _ h
    exact ⟨by omega, fun e he => by have := h2 e he; omega⟩

theorem fnExactRiverWrite_spec (l : List Ev) (hl : l.length ≤ 140737488351232) (hok : ∀ e ∈ l, Ev.ok0 e)
    (hI : ∀ n : Int, 0 ≤ n → n ≤ 9999 → PSpec (bs W gs) n_strconv_Itoa [.int .i64 n] [] (fun r H => r = .str (dec n) ∧ H = [])) :
    PSpec (bs W gs) n_laws_FnExactRiverWrite [.snap 10 (l.map Ev.pv)] [] (fun r H => r = .bool true ∧ H = []) := by
  refine pspec_intro (fn := b_laws_FnExactRiverWrite) (bs_good W gs) rfl rfl rfl (Nat.le_of_ble_eq_true rfl) fun s0 _ => ?_
  have hT := bs_good W gs
  repeat refine prun_step hT rfl ?_
  refine prun_callx (szRiverEventS_spec l 1048576 (by omega) (by omega) (by omega) (fun e he => by have := (hok e he).text; omega)) rfl rfl rfl rfl rfl ?_
  repeat refine prun_step hT rfl ?_
  refine prun_if rfl (fun h => ?_) (fun h => ?_)
  · repeat refine prun_step hT rfl ?_
    exact ret_ends (ends_flat rfl rfl ⟨rfl, rfl⟩)
  obtain ⟨h1, h2⟩ := szEvS_le (l := l) (by omega)
  have hok' : ∀ e ∈ l, e.ok := fun e he => by
    obtain ⟨a1, a2, a3, a4, a5, a6, a7, a8, a9, a10⟩ := hok e he
    exact ⟨a1, a2, a3, a4, a5, a6, a7, a8, a9, h2 e he⟩
  repeat refine prun_step hT rfl ?_
  refine prun_callx (toRiverEventS_spec l h1) rfl rfl rfl rfl rfl ?_
  repeat refine prun_step hT rfl ?_
  refine prun_callx (specRiverWrite_spec l (by omega) hok') rfl rfl rfl rfl rfl ?_
  repeat refine prun_step hT rfl ?_
  refine prun_callx (toRiverEventS_spec l h1) rfl rfl rfl rfl rfl ?_
  repeat refine prun_step hT rfl ?_
  refine prun_callx (implRiverWrite_spec l (by omega) hok' hI) rfl rfl rfl rfl rfl ?_
  repeat refine prun_step hT rfl ?_
  refine prun_if rfl (fun h3 => ?_) (fun h3 => ?_)
  · exact absurd (write8_eq l) h3
  repeat refine prun_step hT rfl ?_
  refine prun_callx (toRiverEventS_spec l h1) rfl rfl rfl rfl rfl ?_
  repeat refine prun_step hT rfl ?_
  refine prun_callx (eqRiverEventS_spec l l (by omega)) rfl rfl rfl rfl rfl ?_
  repeat refine prun_step hT rfl ?_
  refine prun_if rfl (fun h4 => ?_) (fun h4 => ?_)
  · simp at h4
  repeat refine prun_step hT rfl ?_
  exact ret_ends (ends_flat rfl rfl ⟨rfl, rfl⟩)

end Go.PMS
