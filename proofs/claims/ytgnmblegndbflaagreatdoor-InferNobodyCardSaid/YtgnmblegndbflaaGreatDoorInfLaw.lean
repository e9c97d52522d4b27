/- keyholelaw26.InferNobody answers true whatever it is given: of no environment nothing is inferred, and nothing is static. No condition. -/
import Derived.Test.YtgnmblegndbflaaGreatDoorTInf
import Derived.Test.YtgnmblegndbflaaGreatDoorKhPs
import Derived.Test.YtgnmblegndbflaaGreatDoorKhBr
import Derived.Test.YtgnmblegndbflaaGreatDoorTie
import Derived.Test.YtgnmblegndbflaaGreatDoorCards
import Derived.Lay
import Derived.LaidMore
import Derived.SevenTiedAt
namespace Go.Proofs.YtgnmblegndbflaaGreatDoor
set_option linter.all false
set_option linter.unusedVariables false
set_option linter.unusedSimpArgs false
open Go Go.Proofs.Kh Go.ChangeShapes Go.WideShapes Go.RowKit

def prL : List (FuncId × Prim) := [(18, ⟨2, 16⟩), (52, ⟨4, 64⟩), (120, ⟨1, 16⟩)]
theorem prL_fits : ∀ x, x ∈ prL → CloneFits Tryz.prog x.1 x.2 := by
  intro x hx
  simp only [prL, List.mem_cons, List.mem_nil_iff, or_false] at hx
  rcases hx with rfl | rfl | rfl
  · show CloneFits Tryz.prog 18 ⟨2, 16⟩
    unfold CloneFits; kernel_rfl
  · show CloneFits Tryz.prog 52 ⟨4, 64⟩
    unfold CloneFits; kernel_rfl
  · show CloneFits Tryz.prog 120 ⟨1, 16⟩
    unfold CloneFits; kernel_rfl
theorem mixed : Tryz.prog.follows .mixedOrders = true := by kernel_rfl
theorem machine : CallOK Tryz.prog (call (Kh.look tabL) (primOf prL)) ∧ CallPlain Tryz.prog (call (Kh.look tabL) (primOf prL)) :=
  call_ok mixed (look_fits tabL tabL_fit) (primOf_ok mixed prL_fits).1 (primOf_ok mixed prL_fits).2
theorem law_run : callB (Kh.look tabL) (primOf prL) 1000 60 3 [.agg [.bot, .bot, .bot, .bot], .bot] [] = some (.ret (.pd (.bool true)), []) := by kernel_rfl
theorem law_call : call (Kh.look tabL) (primOf prL) 3 [.agg [.bot, .bot, .bot, .bot], .bot] [] = some (.ret (.pd (.bool true)), []) := call_of_callB law_run
theorem plain3 : plainF Tryz.prog 3 = true := by kernel_rfl

theorem Tryz.own : ownKnob Tryz.prog.godebug = none := by kernel_rfl
theorem Tryz.laidOut : laidOutB Tryz.prog = true := by kernel_rfl
theorem cells25 : Tryz.prog.cellsOf 25 = 4 := by kernel_rfl
theorem u25 : ∃ fs, Tryz.prog.underlying 25 = some (.struct fs) := ⟨_, Tryz.underlying25⟩

/-- The value of a struct: cells, each a single one. -/
theorem struct_val {P : Program} {W : World} {base : Nat} {t : TypeId} {fs : Array Field} {v : Value} (hu : P.underlying t = some (.struct fs)) (h : Value.okWide P W .any base t v) :
    ∃ cs : Array Value, v = .agg cs ∧ cs.size = P.cellsOf t ∧ ∀ (k : Nat) (u : Value), cs[k]? = some u → oneCell u = true := by
  unfold Value.okWide at h
  rw [hu] at h
  obtain ⟨cs, h1, h2, ts, _, _, h3⟩ := h
  refine ⟨cs, h1, h2, fun k u hk => ?_⟩
  obtain ⟨e, _, hc⟩ := h3 k u hk
  cases u with
  | agg _ => unfold Cell.okWide Cell.ok at hc; split at hc <;> first | (rename_i hh; cases hh; done) | (split at hc <;> first | (rename_i hh; cases hh; done) | exact hc.elim)
  | tuple _ => unfold Cell.okWide Cell.ok at hc; split at hc <;> first | (rename_i hh; cases hh; done) | (split at hc <;> first | (rename_i hh; cases hh; done) | exact hc.elim)
  | _ => rfl

noncomputable def laid0 : List (String × DataW Unit) := Rows.inferNobodyRow.laid
theorem laid_met (os : Os) (args : Array Value) : laidMetH Tryz.prog laid0 ((World.laidAll Tryz.prog os laid0).forCall (fun _ _ => 0) ⟨#[], args, []⟩).memory := by
  rw [MakeChecks.laidMetH_plain _ _ _ (by kernel_rfl)]
  exact laidMet_laidAll args (by kernel_rfl) (by kernel_rfl)

set_option maxRecDepth 100000 in
theorem lifted (os : Os) (started : os.Started) (H : Type) (enc : TypeId × Value → H) :
    ReturnsInHanded {} Tryz.checked os 3 .any (fun w args => (Rows.inferNobodySpec.pre enc Tryz.prog Tryz.f3 [] false w args ∧ laidMetH Tryz.prog laid0 w) ∧ sizedMet enc Tryz.prog Tryz.f3 (OpenSpec.ofChange Rows.inferNobodySpec) false w args)
      (Rows.inferNobodySpec.post enc Tryz.prog Tryz.f3 false true false false) := by
  refine returnsInHanded_of_change_and (C := Tryz.checked) (X := fun w _ => laidMetH Tryz.prog laid0 w) (fun _ _ _ hh h => h.of_heap hh) Tryz.own started (by kernel_rfl) Tryz.func3
    (ChangeSpec.witness_shaped (enc := enc) (C := Tryz.checked) (os := os) (X := fun w _ => laidMetH Tryz.prog laid0 w) false (World.laidAll Tryz.prog os laid0) #[.agg #[.int .i64 0, .slice none 0 0, .slice none 0 0, .int .i64 0], .int .i64 0] 8 (World.laidAll_os _ _ _) (World.shaped_of_RefB (by kernel_rfl) (by kernel_rfl)) (by kernel_rfl) (by kernel_rfl) (by kernel_rfl) (laid_met os _)) ?_
  intro W base args ds gs before hval0 hW _ _ _ _
  have hval : ∀ (j : Nat) t v, Tryz.f3.params[j]? = some t → args[j]? = some v → Value.okWide Tryz.prog W .any base t v := hval0
  have hW' := hW
  obtain ⟨p, q, hA0, hV, rfl, hfz, hnd⟩ := hW
  have hA : DataW.TrodAll enc Tryz.prog W 0 (fun _ => true) true Tryz.f3.params.toList args.toList ds p := hA0
  rw [Tryz.params3] at hA hval
  obtain ⟨v0, v1, d0, d1, p0, p1, rfl, rfl, rfl, h0, h1⟩ := trodAll_two hA
  obtain ⟨cs, rfl, hcs, hone⟩ := struct_val Tryz.underlying25 (hval 0 25 v0 rfl rfl)
  rw [cells25] at hcs
  refine (calls_true machine.1 law_call (vs := #[.agg cs, v1]) (w := W) rfl (fun k v x hv hx => ?_) plain3).mono fun e W' ⟨he, hb⟩ => ⟨.bool true, he, ?_⟩
  · match k with
    | 0 =>
      simp at hv hx; subst hv; subst hx
      exact .agg cs _ (by simpa using hcs) hone fun k v c hv hc => by
        have : c = .bot := by
          match k, hc with
          | 0, hc => simpa using hc.symm
          | 1, hc => simpa using hc.symm
          | 2, hc => simpa using hc.symm
          | 3, hc => simpa using hc.symm
          | k + 4, hc => simp at hc
        subst this
        exact .bot v
    | 1 => simp at hv hx; subst hv; subst hx; exact .bot _
    | k + 2 => simp at hx
  · exact post_true Tryz.laidOut (fun t ht => by
      have hall : (Tryz.f3.params.toList.all fun t => Tryz.prog.readableRec t && decide (t < Tryz.prog.types.size)) = true := by kernel_rfl
      have := List.all_eq_true.1 hall t ht
      rw [Bool.and_eq_true, decide_eq_true_eq] at this
      exact this) rfl (fun ds hds => by
      match ds, hds with
      | [a, b], _ => rfl) (by kernel_rfl : Tryz.f3.resultTypes = #[4]) Tryz.underlying4 hW' hb

theorem inferNobody_holds : Rows.InferNobodySaid :=
  OpenClaim.holds_of_wide 3 Tryz.f3 rfl rfl rfl rfl rfl rfl rfl ⟨rfl, rfl, rfl, rfl, rfl⟩ rfl rfl rfl rfl rfl (by kernel_rfl) Tryz.func3 (by kernel_rfl)
    (of_decide_eq_true (by kernel_rfl)) (by unfold Func.isWrapper; first | (rw [if_pos (by decide +kernel)]; kernel_rfl) | (rw [if_neg (by decide +kernel)]; exact ⟨rfl, rfl⟩))
    (fun os started H enc _ => lifted os started H enc)

theorem inferNobody_card : Rows.InferNobodyCardSaid :=
  Claim7.holds_tied_plain_at .later [] [.data, .pinned] true (true, "489df007e70f8b0c1069a0daaba48d5ff42feb72040c752e77cf01acf797bec7") true
    inferNobody_holds (fun _ h => by cases h) (by kernel_rfl) (fun _ h => by cases h) inferNobody_row_tie rfl ⟨rfl, rfl⟩ (by kernel_rfl) rfl
    (fun f fn hf hfn => by
      obtain rfl : f = 3 := Option.some.inj ((show Tryz.prog.funcNamed "keyhole/keyholelaw26.InferNobody" = some 3 by kernel_rfl).symm.trans hf) |>.symm
      obtain rfl : fn = Tryz.f3 := (Option.some.inj (Tryz.func3.symm.trans hfn)).symm
      exact ⟨by kernel_rfl, fun j t ht => by
        rw [Tryz.params3] at ht
        have hm : t ∈ [25, 3] := by simpa using Array.mem_of_getElem? ht
        have hall : ([25, 3].all fun u => !Tryz.prog.wantsStandIn u) = true := by kernel_rfl
        exact (show Tryz.prog.wantsStandIn t = false by simpa using List.all_eq_true.1 hall t hm)⟩)
    (by kernel_rfl)
#print axioms inferNobody_card
end Go.Proofs.YtgnmblegndbflaaGreatDoor
