/- The law FnExactRiverRead, as its card states it: for every text the call returns true, and the text reads as it did. No condition of its own. -/
import Derived.Test.YtkjmbfkfimdejaaDoorReadA3
import Derived.Test.YtkjmbfkfimdejaaDoorCards
import Derived.Test.YtkjmbfkfimdejaaDoorTie
namespace Go.Proofs.YtkjmbfkfimdejaaDoor.fnR
open Go Go.ChangeShapes Go.WideShapes Go.ChangeAt Go.RowKit Go.PM Go.PMS

theorem own : ownKnob Tryd.prog.godebug = none := by kernel_rfl
theorem lay : laidOutB Tryd.prog = true := by kernel_rfl

set_option maxRecDepth 100000 in
/-- The longest needle is a number, whatever it is. -/
theorem maxLen {W : World} (h : W.ShapedOpen Tryd.prog) : 0 < W.heap.size ∧ ∃ m, W.cell? ⟨0, 0, none⟩ = some (.int .i64 m) := by
  obtain ⟨cs, hh, hs, hr⟩ := h.1 0 #[.int .i64 0] 3 (by rw [show Tryd.prog.globals.size = 6 by kernel_rfl]; omega) (by kernel_rfl)
  obtain ⟨ts, hts, _, hall⟩ := hr (by kernel_rfl)
  rw [show Tryd.prog.cellTypes Tryd.prog.depth 3 = some [3] by kernel_rfl] at hts
  cases hts
  have h1 : 0 < cs.size := by simp at hs; omega
  obtain ⟨u, hu', hok⟩ := hall 0 cs[0] (by simp [h1])
  have : u = 3 := by simpa using hu'.symm
  subst this
  refine ⟨(Array.getElem?_eq_some_iff.1 hh).1, ?_⟩
  have hcell : W.cell? ⟨0, 0, none⟩ = some cs[0] := by simp [World.cell?, hh, h1]
  rw [hcell]
  unfold Cell.ok at hok
  rw [show Tryd.prog.underlying 3 = some (.int .i64) by kernel_rfl] at hok
  cases hv : cs[0] <;> rw [hv] at hok <;> first | exact hok.elim | (obtain ⟨rfl, _⟩ := hok; exact ⟨_, rfl⟩)

set_option maxRecDepth 100000 in
theorem contract (H : Type) (enc : TypeId × Value → H) (W : World) (base : Nat) (args : Array Value) (ds gs : List (DataW H)) (before : List MemPlace)
    (hval : ∀ (j : Nat) t v, Tryd.f4.params[j]? = some t → args[j]? = some v → Value.okWide Tryd.prog W .any base t v)
    (hW : DataW.Whole enc Tryd.prog Tryd.f4.params.toList Rows.fnExactRiverReadSpec.vars false W args.toList ds gs before)
    (hsz : (DataW.weightsEach Tryd.prog (Tryd.f4.params.toList ++ Rows.fnExactRiverReadSpec.plain.varTypes Tryd.prog) (ds ++ gs)).all (· ≤ reachBytes) = true)
    (hS : W.ShapedOpen Tryd.prog) :
    Calls Tryd.prog 4 args W fun e W' => ∃ v, e = .returned v ∧ Rows.fnExactRiverReadSpec.post enc Tryd.prog Tryd.f4 false true false false W args v W' := by
  refine law_contract (B := bs W W.heap.size) (shs := [.str]) (rt := 4) rfl rfl rfl lay (by kernel_rfl) (by kernel_rfl) (by kernel_rfl) rfl (fun hl => ?_) hval hW hsz (fun qs hq => ?_)
  · have hgs : gs = [] := by
      obtain ⟨p, q, _, hV, _⟩ := hW
      cases gs with
      | nil => rfl
      | cons _ _ => exact hV.elim
    subst hgs
    match ds, hl with
    | [d], _ => rfl
  · match qs, hq with
    | [p], ⟨hp, _⟩ =>
      obtain ⟨qs, h1, rfl⟩ := hp
      obtain ⟨s, rfl, hl⟩ := h1
      refine fnExactRiverRead_spec s hl fun t ho => ?_
      obtain ⟨h0, m, hm⟩ := maxLen hS
      refine ⟨m, ?_⟩
      rw [← hm]
      unfold World.cell?
      simp only [show t.w.heap[0]? = W.heap[0]? from (ho.glob 0 h0).2]

noncomputable def lits (k : IntKind) (zs : List Int) : Array Value := (zs.map (Value.int k)).toArray
noncomputable def tabObj (k : IntKind) (zs : List Int) : Obj → Obj
  | .cells _ t fr => .cells (lits k zs) t fr
  | o => o
/-- A world for the witness: the settled one, the tables holding what their initialisers lay. -/
noncomputable def laidWorld (os : Os) : World :=
  let w := World.holding Tryd.prog os ⟨#[], #[], []⟩
  let h := (w.heap.modify 2 (tabObj .u8 (Go.Pinned.utf8FirstZ.map Int.ofNat))).modify 3
      (tabObj .u8 [128, 191, 160, 191, 128, 159, 144, 191, 128, 143, 0, 0, 0, 0, 0, 0, 0, 0, 0, 0, 0, 0, 0, 0, 0, 0, 0, 0, 0, 0, 0, 0])
  { w with heap := h }
theorem laid_met (os : Os) : laidMet Tryd.prog Rows.fnExactRiverReadRow.laid ((laidWorld os).forCall (fun _ _ => 0) ⟨#[], #[.string ⟨#[]⟩], []⟩).memory :=
  laidMet_of_run' 8 (by kernel_rfl) (by kernel_rfl)
theorem reads (os : Os) {H : Type} (enc : TypeId × Value → H) : ∃ places, DataW.whole enc Tryd.prog ((laidWorld os).forCall (fun _ _ => 0) ⟨#[], #[.string ⟨#[]⟩], []⟩).memory Tryd.f4.params.toList Rows.fnExactRiverReadSpec.vars false #[Value.string ⟨#[]⟩].toList 8 = some ([.lit (.string [])], [], places) :=
  ⟨[], by kernel_rfl⟩

set_option maxRecDepth 100000 in
theorem lifted (os : Os) (started : os.Started) (H : Type) (enc : TypeId × Value → H) (F : Stop.Interp) :
    ReturnsInHanded {} Tryd.checked os 4 .any ((OpenSpec.ofChange Rows.fnExactRiverReadSpec).preRow enc Tryd.prog Tryd.f4 Rows.fnExactRiverReadRow.domain false Rows.fnExactRiverReadRow.laid) (((OpenSpec.ofChange Rows.fnExactRiverReadSpec).at F).post enc Tryd.prog Tryd.f4 false true false false) := by
  obtain ⟨places, hx⟩ := reads os enc
  refine returnsInHanded_of_row (C := Tryd.checked) (s := OpenSpec.ofChange Rows.fnExactRiverReadSpec) own started (by kernel_rfl) Tryd.func4
    (witness_row_at (enc := enc) (C := Tryd.checked) false (laidWorld os) #[.string ⟨#[]⟩] rfl (by kernel_rfl) (by kernel_rfl) (by kernel_rfl)
      (OpenSpec.preRow_of_cond 8 hx (by kernel_rfl) (fun k hk => by cases hk) (by kernel_rfl) (laid_met os))) ?_
  intro W base args ds gs before hval hW _ _ hsz _ hS _
  exact contract H enc W base args ds gs before hval hW hsz hS

theorem said : Rows.FnExactRiverReadSaid :=
  OpenClaim.holds_of_cond 4 Tryd.f4 rfl rfl rfl rfl rfl rfl rfl ⟨rfl, rfl, rfl, rfl, rfl⟩ rfl rfl rfl rfl rfl (by kernel_rfl) Tryd.func4 (by kernel_rfl)
    (of_decide_eq_true (by kernel_rfl)) (by unfold Func.isWrapper; first | (rw [if_pos (by decide +kernel)]; kernel_rfl) | (rw [if_neg (by decide +kernel)]; exact ⟨rfl, rfl⟩))
    (fun os started H enc _ F => by rw [OpenClaim.pre_eq_preRow]; exact lifted os started H enc F)

set_option maxRecDepth 100000 in
theorem plain (f : FuncId) (fn : Func) (hf : Tryd.pinned.checked.prog.funcNamed "loop.example/bargeman/laws.FnExactRiverRead" = some f) (hfn : Tryd.pinned.checked.prog.funcs[f]? = some fn) :
    false = Tryd.pinned.checked.prog.looks [] ∧ ∀ (j : Nat) t, fn.params[j]? = some t → Tryd.pinned.checked.prog.wantsStandIn t = false := by
  obtain rfl : f = 4 := Option.some.inj ((show Tryd.prog.funcNamed "loop.example/bargeman/laws.FnExactRiverRead" = some 4 by kernel_rfl).symm.trans hf) |>.symm
  obtain rfl : fn = Tryd.f4 := (Option.some.inj (Tryd.func4.symm.trans hfn)).symm
  refine ⟨by kernel_rfl, fun j t ht => ?_⟩
  have hp : Tryd.f4.params = #[9] := by kernel_rfl
  rw [hp] at ht
  obtain rfl : t = 9 := by simpa using Array.mem_of_getElem? ht
  exact (show Tryd.prog.wantsStandIn 9 = false by kernel_rfl)

end Go.Proofs.YtkjmbfkfimdejaaDoor.fnR
namespace Go.Proofs.YtkjmbfkfimdejaaDoor
open Go Go.RowKit
theorem fnExactRiverRead_holds : Rows.FnExactRiverReadCardSaid :=
  Claim7.holds_tied_plain_at .later [] _ _ _ _ fnR.said (fun _ h => by cases h) (by kernel_rfl) (fun _ h => by cases h) fnExactRiverRead_row_tie rfl ⟨rfl, rfl⟩ (by kernel_rfl) rfl fnR.plain (by kernel_rfl)
#print axioms fnExactRiverRead_holds
end Go.Proofs.YtkjmbfkfimdejaaDoor
