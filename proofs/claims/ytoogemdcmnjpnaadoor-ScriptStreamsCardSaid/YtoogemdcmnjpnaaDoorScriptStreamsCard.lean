/- ScriptStreams: THE CARD: for every input the law returns true and leaves its arguments alone. Its conditions are the given row's own. -/
import Derived.Test.YtoogemdcmnjpnaaDoorScriptStreams
import Derived.Test.YtoogemdcmnjpnaaDoorLawW
namespace Go.Proofs.YtoogemdcmnjpnaaDoor.scriptStreams
open Go.ChangeShapes Go.WideShapes Go.ChangeAt Go.ChangeMaps Go.RowKit Go.Deep
set_option linter.unusedVariables false
set_option maxRecDepth 100000
theorem contract (H : Type) (enc : TypeId × Value → H) (W : World) (base : Nat) (args : Array Value) (ds gs : List (DataW H)) (before : List MemPlace)
    (hval : ∀ (j : Nat) t v, Tryd.f7.params[j]? = some t → args[j]? = some v → Value.okWide Tryd.prog W .any base t v)
    (hW : DataW.Whole enc Tryd.prog Tryd.f7.params.toList Rows.scriptStreamsSpec.vars false W args.toList ds gs before)
    (hwt : (DataW.weightsEach Tryd.prog (Tryd.f7.params.toList ++ (OpenSpec.ofChange Rows.scriptStreamsSpec).bare.plain.varTypes Tryd.prog) (ds ++ gs)).all (· ≤ reachBytes) = true) (hL0 : laidMetH Tryd.prog Rows.scriptStreamsRow.laid W) :
    Calls Tryd.prog 7 args W fun e W' => ∃ v, e = .returned v ∧ Rows.scriptStreamsSpec.post enc Tryd.prog Tryd.f7 false true false false W args v W' := by
  have hL : laidMet Tryd.prog Rows.scriptStreamsRow.laid W := by rwa [MakeChecks.laidMetH_plain _ _ _ (by kernel_rfl)] at hL0
  have hW' := hW
  obtain ⟨p, q, hA0, hV, rfl, hfz, hnd⟩ := hW
  have hA : DataW.TrodAll enc Tryd.prog W 0 (fun _ => true) true Tryd.f7.params.toList args.toList ds p := hA0
  obtain ⟨rfl, rfl⟩ := trodVars_none hV
  rw [List.append_nil] at hwt
  have hall := List.all_eq_true.1 hwt
  clear hwt hA0
  rw [Tryd.params7] at hA hval
  obtain ⟨v0, vs0, d0, ds0, p0, q0, hargs0, rfl, rfl, h0, r0⟩ := trodAll_cons hA
  obtain ⟨v1, vs1, d1, ds1, p1, q1, hargs1, rfl, rfl, h1, r1⟩ := trodAll_cons r0
  obtain ⟨v2, vs2, d2, ds2, p2, q2, hargs2, rfl, rfl, h2, r2⟩ := trodAll_cons r1
  obtain ⟨rfl, rfl, rfl⟩ := trodAll_nil r2
  subst hargs2
  subst hargs1
  obtain rfl : args = #[v0, v1, v2] := by cases args; simp_all
  rw [Tryd.params7] at hall
  have hw0 : ∀ n ∈ d0.weights Tryd.prog 22, n ≤ reachBytes := fun n hn => by
    have := hall n (by simp only [List.cons_append, List.nil_append, DataW.weightsEach, List.mem_append]; first | exact Or.inl hn | exact Or.inr (Or.inl hn) | exact Or.inr (Or.inr (Or.inl hn)) | exact Or.inr (Or.inr (Or.inr (Or.inl hn))) | exact Or.inr (Or.inr (Or.inr (Or.inr (Or.inl hn)))))
    simpa using this
  have hw1 : ∀ n ∈ d1.weights Tryd.prog 3, n ≤ reachBytes := fun n hn => by
    have := hall n (by simp only [List.cons_append, List.nil_append, DataW.weightsEach, List.mem_append]; first | exact Or.inl hn | exact Or.inr (Or.inl hn) | exact Or.inr (Or.inr (Or.inl hn)) | exact Or.inr (Or.inr (Or.inr (Or.inl hn))) | exact Or.inr (Or.inr (Or.inr (Or.inr (Or.inl hn)))))
    simpa using this
  have hw2 : ∀ n ∈ d2.weights Tryd.prog 3, n ≤ reachBytes := fun n hn => by
    have := hall n (by simp only [List.cons_append, List.nil_append, DataW.weightsEach, List.mem_append]; first | exact Or.inl hn | exact Or.inr (Or.inl hn) | exact Or.inr (Or.inr (Or.inl hn)) | exact Or.inr (Or.inr (Or.inr (Or.inl hn))) | exact Or.inr (Or.inr (Or.inr (Or.inr (Or.inl hn)))))
    simpa using this
  have fin : ∀ W', Below W.heap.size W W' → Rows.scriptStreamsSpec.post enc Tryd.prog Tryd.f7 false true false false W #[v0, v1, v2] (.bool true) W' := fun W' hb =>
    post_law laidOut rowed slicesFull hW' rfl (by rw [Tryd.params7]; decide +kernel) (show Tryd.f7.resultTypes = #[4] by kernel_rfl) Tryd.underlying4 rfl hb
  clear hW'
  obtain ⟨A0, l0, c0, rfl, hsc0, hcap0⟩ := op_sc (hval 0 22 v0 rfl rfl) h0 hw0
  obtain ⟨n1, rfl, _, _, hn1⟩ := open_int Tryd.underlying3 (hval 1 3 v1 rfl rfl) h1
  obtain ⟨n2, rfl, _, _, hn2⟩ := open_int Tryd.underlying3 (hval 2 3 v2 rfl rfl) h2
  refine (scriptStreams_walk W A0 c0 l0 hsc0 hcap0 n1 hn1 n2 hn2 (esc_of hL (by simp [Rows.scriptStreamsRow]))).mono fun e W' ⟨he, hb⟩ => ?_
  subst he
  exact ⟨_, rfl, fin W' hb⟩
noncomputable def laidWorld (os : Os) : World :=
  { World.holding Tryd.prog os ⟨#[], #[], []⟩ with heap := ((World.holding Tryd.prog os ⟨#[], #[], []⟩).heap.modify 0 fun
      | .cells _ t frozen => .cells #[.int .u8 34, .int .u8 34, .int .u8 92, .int .u8 92, .int .u8 10, .int .u8 110, .int .u8 13, .int .u8 114, .int .u8 9, .int .u8 116] t frozen
      | o => o) }
theorem laid_met (os : Os) : laidMet Tryd.prog Rows.scriptStreamsRow.laid ((laidWorld os).forCall (fun _ _ => 0) ⟨#[], #[.slice none 0 0, .int .i64 0, .int .i64 0], []⟩).memory :=
  laidMet_of_run' 8 (by kernel_rfl) (by kernel_rfl)
theorem reads (os : Os) {H : Type} (enc : TypeId × Value → H) : ∃ places, DataW.whole enc Tryd.prog ((laidWorld os).forCall (fun _ _ => 0) ⟨#[], #[.slice none 0 0, .int .i64 0, .int .i64 0], []⟩).memory Tryd.f7.params.toList Rows.scriptStreamsSpec.vars false (#[.slice none 0 0, .int .i64 0, .int .i64 0] : Array Value).toList 8 = some ([.nil, .lit (.int .i64 0), .lit (.int .i64 0)], [], places) :=
  ⟨[], by kernel_rfl⟩
theorem lifted (os : Os) (started : os.Started) (H : Type) (enc : TypeId × Value → H) (F : Stop.Interp) :
    ReturnsInHanded {} Tryd.checked os 7 .any ((OpenSpec.ofChange Rows.scriptStreamsSpec).preRow enc Tryd.prog Tryd.f7 Rows.scriptStreamsRow.domain false Rows.scriptStreamsRow.laid) (((OpenSpec.ofChange Rows.scriptStreamsSpec).at F).post enc Tryd.prog Tryd.f7 false true false false) := by
  obtain ⟨places, hx⟩ := reads os enc
  refine returnsInHanded_of_row (C := Tryd.checked) (s := OpenSpec.ofChange Rows.scriptStreamsSpec) own started (by kernel_rfl) Tryd.func7
    (witness_row_at (enc := enc) (C := Tryd.checked) false (laidWorld os) #[.slice none 0 0, .int .i64 0, .int .i64 0] rfl (by kernel_rfl) (by kernel_rfl) (by kernel_rfl)
      (OpenSpec.preRow_of_cond 8 hx (by kernel_rfl) (fun k hk => by cases hk) (by kernel_rfl) (laid_met os))) ?_
  intro W base args ds gs before hval hW _ _ hwt hL _ _
  exact contract H enc W base args ds gs before hval hW hwt hL
theorem said : Rows.ScriptStreamsSaid :=
  OpenClaim.holds_of_cond 7 Tryd.f7 rfl rfl rfl rfl rfl rfl rfl ⟨rfl, rfl, rfl, rfl, rfl⟩ rfl rfl rfl rfl rfl (by kernel_rfl) Tryd.func7 (by kernel_rfl)
    (of_decide_eq_true (by kernel_rfl)) (by unfold Func.isWrapper; first | (rw [if_pos (by decide +kernel)]; kernel_rfl) | (rw [if_neg (by decide +kernel)]; exact ⟨rfl, rfl⟩))
    (fun os started H enc _ F => by rw [OpenClaim.pre_eq_preRow]; exact lifted os started H enc F)
theorem plain (f : FuncId) (fn : Func) (hf : Tryd.pinned.checked.prog.funcNamed "dragnet/dragnetlaw32.ScriptStreams" = some f) (hfn : Tryd.pinned.checked.prog.funcs[f]? = some fn) :
    false = Tryd.pinned.checked.prog.looks [] ∧ ∀ (j : Nat) t, fn.params[j]? = some t → Tryd.pinned.checked.prog.wantsStandIn t = false := by
  obtain rfl : f = 7 := Option.some.inj ((show Tryd.prog.funcNamed "dragnet/dragnetlaw32.ScriptStreams" = some 7 by kernel_rfl).symm.trans hf) |>.symm
  obtain rfl : fn = Tryd.f7 := (Option.some.inj (Tryd.func7.symm.trans hfn)).symm
  refine ⟨by kernel_rfl, fun j t ht => ?_⟩
  rw [Tryd.params7] at ht
  have hm : t ∈ [22, 3, 3] := by simpa using Array.mem_of_getElem? ht
  have hall : ([22, 3, 3].all fun u => !Tryd.prog.wantsStandIn u) = true := by kernel_rfl
  exact (show Tryd.prog.wantsStandIn t = false by simpa using List.all_eq_true.1 hall t hm)
theorem card : Rows.ScriptStreamsCardSaid :=
  Claim7.holds_tied_plain_at .later [] _ _ _ _ said (fun _ h => by cases h) (by kernel_rfl) (fun _ h => by cases h) scriptStreams_row_tie rfl ⟨rfl, rfl⟩ (by kernel_rfl) rfl plain (by kernel_rfl)
#print axioms card
end Go.Proofs.YtoogemdcmnjpnaaDoor.scriptStreams
