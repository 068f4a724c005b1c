/- The law FnExactRiverWrite, as its card states it: for every list of events the call returns true, and the list reads as it did. No condition of its own. -/
import Derived.Test.YtkjmbfkfimdejaaDoorA3
import Derived.Test.YtkjmbfkfimdejaaDoorCards
import Derived.Test.YtkjmbfkfimdejaaDoorTie
namespace Go.Proofs.YtkjmbfkfimdejaaDoor.fnW
open Go Go.ChangeShapes Go.WideShapes Go.ChangeAt Go.RowKit Go.PM Go.PMS

theorem own : ownKnob Tryd.prog.godebug = none := by kernel_rfl
theorem lay : laidOutB Tryd.prog = true := by kernel_rfl

/-- The rest of what is listed is met too. -/
theorem met_tail {P : Program} {W : World} {x : String × DataW Unit} {rest : List (String × DataW Unit)} (h : laidMet P (x :: rest) W) : laidMet P rest W := by
  obtain ⟨ps, ⟨g, t, cs, fuel, p, q, _, _, _, _, h1, rfl⟩, h2, h3⟩ := h
  exact ⟨q, h1, (List.nodup_append.1 h2).2.1, fun b off hb => h3 b off (by simp [hb])⟩

set_option maxRecDepth 100000 in
theorem tab {W : World} (h : laidMetH Tryd.prog Rows.fnExactRiverWriteRow.laid W) : Lib.TabIs Tryd.prog W "internal/strconv.uint64pow10" .u64 Lib.pow10Tab := by
  have h1 : laidMet Tryd.prog Rows.fnExactRiverWriteRow.laid W := h
  have h2 := met_tail (met_tail h1)
  exact Lib.tabIs_of_head (g := 1) (t := 98) (e := 90) (n := 20) (rest := []) (by kernel_rfl) (by kernel_rfl) (by kernel_rfl) (by kernel_rfl) (by kernel_rfl) (by kernel_rfl) h2

set_option maxRecDepth 100000 in
theorem contract (H : Type) (enc : TypeId × Value → H) (W : World) (base : Nat) (args : Array Value) (ds gs : List (DataW H)) (before : List MemPlace)
    (hval : ∀ (j : Nat) t v, Tryd.f3.params[j]? = some t → args[j]? = some v → Value.okWide Tryd.prog W .any base t v)
    (hW : DataW.Whole enc Tryd.prog Tryd.f3.params.toList Rows.fnExactRiverWriteSpec.vars false W args.toList ds gs before)
    (hsz : (DataW.weightsEach Tryd.prog (Tryd.f3.params.toList ++ Rows.fnExactRiverWriteSpec.plain.varTypes Tryd.prog) (ds ++ gs)).all (· ≤ reachBytes) = true)
    (hL : laidMetH Tryd.prog Rows.fnExactRiverWriteRow.laid W) :
    Calls Tryd.prog 3 args W fun e W' => ∃ v, e = .returned v ∧ Rows.fnExactRiverWriteSpec.post enc Tryd.prog Tryd.f3 false true false false W args v W' := by
  refine law_contract (B := bs W W.heap.size) (shs := [.sl evSh]) (rt := 4) rfl rfl rfl lay (by kernel_rfl) (by kernel_rfl) (by kernel_rfl) rfl (fun hl => ?_) hval hW hsz (fun qs hq => ?_)
  · have hgs : gs = [] := by
      obtain ⟨p, q, _, hV, _⟩ := hW
      cases gs with
      | nil => rfl
      | cons _ _ => exact hV.elim
    subst hgs
    match ds, hl with
    | [d], _ => rfl
  · match qs, hq with
    | [p], ⟨hp, _⟩ =>
      obtain ⟨l, rfl, h1, h2⟩ := evs_of hp
      refine fnExactRiverWrite_spec l h1 h2 fun n h0 h9 => itoa_spec n (by omega) (by omega) fun s ho => ?_
      exact tab_keep (W := W) (Nat.le_refl _) (tab hL) s ho

noncomputable def lits (k : IntKind) (zs : List Int) : Array Value := (zs.map (Value.int k)).toArray
noncomputable def tabObj (k : IntKind) (zs : List Int) : Obj → Obj
  | .cells _ t fr => .cells (lits k zs) t fr
  | o => o
/-- A world for the witness: the settled one, the tables holding what their initialisers lay. -/
noncomputable def laidWorld (os : Os) : World :=
  let w := World.holding Tryd.prog os ⟨#[], #[], []⟩
  let h := ((w.heap.modify 1 (tabObj .u64 [1, 10, 100, 1000, 10000, 100000, 1000000, 10000000, 100000000, 1000000000, 10000000000, 100000000000, 1000000000000, 10000000000000, 100000000000000, 1000000000000000, 10000000000000000, 100000000000000000, 1000000000000000000, 10000000000000000000])).modify 4
      (tabObj .u8 [0, 1, 28, 2, 29, 14, 24, 3, 30, 22, 20, 15, 25, 17, 4, 8, 31, 27, 13, 23, 21, 19, 16, 7, 26, 12, 18, 6, 11, 5, 10, 9])).modify 5
      (tabObj .u8 [0, 1, 56, 2, 57, 49, 28, 3, 61, 58, 42, 50, 38, 29, 17, 4, 62, 47, 59, 36, 45, 43, 51, 22, 53, 39, 33, 30, 24, 18, 12, 5, 63, 55, 48, 27, 60, 41, 37, 16, 46, 35, 44, 21, 52, 32, 23, 11, 54, 26, 40, 15, 34, 20, 31, 10, 25, 14, 19, 9, 13, 8, 7, 6])
  { w with heap := h }
theorem laid_met (os : Os) : laidMet Tryd.prog Rows.fnExactRiverWriteRow.laid ((laidWorld os).forCall (fun _ _ => 0) ⟨#[], #[.slice none 0 0], []⟩).memory :=
  laidMet_of_run' 8 (by kernel_rfl) (by kernel_rfl)
theorem reads (os : Os) {H : Type} (enc : TypeId × Value → H) : ∃ places, DataW.whole enc Tryd.prog ((laidWorld os).forCall (fun _ _ => 0) ⟨#[], #[.slice none 0 0], []⟩).memory Tryd.f3.params.toList Rows.fnExactRiverWriteSpec.vars false #[Value.slice none 0 0].toList 8 = some ([.nil], [], places) :=
  ⟨[], by kernel_rfl⟩

set_option maxRecDepth 100000 in
theorem lifted (os : Os) (started : os.Started) (H : Type) (enc : TypeId × Value → H) (F : Stop.Interp) :
    ReturnsInHanded {} Tryd.checked os 3 .any ((OpenSpec.ofChange Rows.fnExactRiverWriteSpec).preRow enc Tryd.prog Tryd.f3 Rows.fnExactRiverWriteRow.domain false Rows.fnExactRiverWriteRow.laid) (((OpenSpec.ofChange Rows.fnExactRiverWriteSpec).at F).post enc Tryd.prog Tryd.f3 false true false false) := by
  obtain ⟨places, hx⟩ := reads os enc
  refine returnsInHanded_of_row (C := Tryd.checked) (s := OpenSpec.ofChange Rows.fnExactRiverWriteSpec) own started (by kernel_rfl) Tryd.func3
    (witness_row_at (enc := enc) (C := Tryd.checked) false (laidWorld os) #[.slice none 0 0] rfl (by kernel_rfl) (by kernel_rfl) (by kernel_rfl)
      (OpenSpec.preRow_of_cond 8 hx (by kernel_rfl) (fun k hk => by cases hk) (by kernel_rfl) (laid_met os))) ?_
  intro W base args ds gs before hval hW _ _ hsz hL _ _
  exact contract H enc W base args ds gs before hval hW hsz hL

theorem said : Rows.FnExactRiverWriteSaid :=
  OpenClaim.holds_of_cond 3 Tryd.f3 rfl rfl rfl rfl rfl rfl rfl ⟨rfl, rfl, rfl, rfl, rfl⟩ rfl rfl rfl rfl rfl (by kernel_rfl) Tryd.func3 (by kernel_rfl)
    (of_decide_eq_true (by kernel_rfl)) (by unfold Func.isWrapper; first | (rw [if_pos (by decide +kernel)]; kernel_rfl) | (rw [if_neg (by decide +kernel)]; exact ⟨rfl, rfl⟩))
    (fun os started H enc _ F => by rw [OpenClaim.pre_eq_preRow]; exact lifted os started H enc F)

set_option maxRecDepth 100000 in
theorem plain (f : FuncId) (fn : Func) (hf : Tryd.pinned.checked.prog.funcNamed "loop.example/bargeman/laws.FnExactRiverWrite" = some f) (hfn : Tryd.pinned.checked.prog.funcs[f]? = some fn) :
    false = Tryd.pinned.checked.prog.looks [] ∧ ∀ (j : Nat) t, fn.params[j]? = some t → Tryd.pinned.checked.prog.wantsStandIn t = false := by
  obtain rfl : f = 3 := Option.some.inj ((show Tryd.prog.funcNamed "loop.example/bargeman/laws.FnExactRiverWrite" = some 3 by kernel_rfl).symm.trans hf) |>.symm
  obtain rfl : fn = Tryd.f3 := (Option.some.inj (Tryd.func3.symm.trans hfn)).symm
  refine ⟨by kernel_rfl, fun j t ht => ?_⟩
  have hp : Tryd.f3.params = #[22] := by kernel_rfl
  rw [hp] at ht
  obtain rfl : t = 22 := by simpa using Array.mem_of_getElem? ht
  exact (show Tryd.prog.wantsStandIn 22 = false by kernel_rfl)

end Go.Proofs.YtkjmbfkfimdejaaDoor.fnW
namespace Go.Proofs.YtkjmbfkfimdejaaDoor
open Go Go.RowKit
theorem fnExactRiverWrite_holds : Rows.FnExactRiverWriteCardSaid :=
  Claim7.holds_tied_plain_at .later [] _ _ _ _ fnW.said (fun _ h => by cases h) (by kernel_rfl) (fun _ h => by cases h) fnExactRiverWrite_row_tie rfl ⟨rfl, rfl⟩ (by kernel_rfl) rfl fnW.plain (by kernel_rfl)
#print axioms fnExactRiverWrite_holds
end Go.Proofs.YtkjmbfkfimdejaaDoor
