/- The row of TunnelAsks. -/
import Derived.Test.YtbcabikaaadiiaaDoorLuT5
import Derived.Test.YtbcabikaaadiiaaDoorLuFC5
import Derived.Test.YtbcabikaaadiiaaDoorLuXB5
import Derived.Test.YtbcabikaaadiiaaDoorLuJ2
import Derived.ProofKit
import Derived.OpenShut
import Derived.Deep.DeepHandedRow
import Derived.Lib.LaidTab
import Derived.SevenTiedAt
namespace Go.Proofs.YtbcabikaaadiiaaDoor.lawTunnelAsks
open Go.Lu Go.ChangeShapes Go.WideShapes Go.ChangeAt Go.WideElems Go.RowKit
set_option maxRecDepth 100000
set_option linter.unusedVariables false
theorem own : ownKnob Tryd.prog.godebug = none := by kernel_rfl
theorem contract (H : Type) (enc : TypeId × Value → H) (W : World) (base : Nat) (args : Array Value) (ds gs : List (DataW H)) (before : List MemPlace)
   (hval : ∀ (j : Nat) t v, Tryd.f5.params[j]? = some t → args[j]? = some v → Value.okWide Tryd.prog W .any base t v)
   (hW : DataW.Whole enc Tryd.prog Tryd.f5.params.toList Rows.tunnelAsksSpec.vars false W args.toList ds gs before) (hL : laidMetH Tryd.prog Rows.tunnelAsksRow.laid W) :
   Calls Tryd.prog 5 args W fun e W' => ∃ v, e = .returned v ∧ Rows.tunnelAsksSpec.post enc Tryd.prog Tryd.f5 false true false false W args v W' := by
 have hW' := hW
 obtain ⟨p, q, hA0, hV, rfl, hfz, hnd⟩ := hW
 have hA : DataW.TrodAll enc Tryd.prog W 0 (fun _ => true) true Tryd.f5.params.toList args.toList ds p := hA0
 rw [Tryd.params5] at hA hval
 obtain ⟨v0, vs0, d0, ds0, p0, q0, e0, rfl, rfl, h0, r0⟩ := trodAll_cons hA
 obtain ⟨v1, vs1, d1, ds1, p1, q1, e1, rfl, rfl, h1, r1⟩ := trodAll_cons r0
 subst e1
 obtain ⟨v2, vs2, d2, ds2, p2, q2, e2, rfl, rfl, h2, r2⟩ := trodAll_cons r1
 subst e2
 obtain ⟨rfl, rfl, rfl⟩ := trodAll_nil r2
 obtain rfl : args = #[v0, v1, v2] := by cases args; simp_all
 obtain ⟨rfl, rfl⟩ := trodVars_none hV
 have hg := glob_of hL
 obtain ⟨c0, a0, rfl, s0, f0⟩ := arg_book (hval 0 25 v0 rfl rfl) h0
 obtain ⟨a1, s1, f1⟩ := arg_slice (hval 1 26 v1 rfl rfl) h1
 obtain ⟨c2, a2, rfl, s2⟩ := arg_two (hval 2 47 v2 rfl rfl) h2
 obtain ⟨k, hk⟩ := asks_true a0 f0 a1 f1 a2 s2.2
 clear hA0
 refine (ok_5 (w := W) (H := hpOf W) (sub_hpOf W) s0 s1 s2 hg hk).mono fun e W' ⟨v, H', he, hl, hv⟩ => ?_
 subst hv
 exact ⟨_, he, law_post rfl rfl (by kernel_rfl) hW' ⟨rfl, rfl, rfl⟩ hl⟩
theorem lifted (os : Os) (started : os.Started) (H : Type) (enc : TypeId × Value → H) (F : Stop.Interp) :
   ReturnsInHanded {} Tryd.checked os 5 .any ((OpenSpec.ofChange Rows.tunnelAsksSpec).preRow enc Tryd.prog Tryd.f5 Rows.tunnelAsksRow.domain false Rows.tunnelAsksRow.laid) (((OpenSpec.ofChange Rows.tunnelAsksSpec).at F).post enc Tryd.prog Tryd.f5 false true false false) := by
 obtain ⟨places, hx⟩ := reads os enc
 refine returnsInHanded_of_row (C := Tryd.checked) (s := OpenSpec.ofChange Rows.tunnelAsksSpec) own started (by kernel_rfl) Tryd.func5
   (witness_row_at (enc := enc) (C := Tryd.checked) false (laidWorld os) #[.agg #[.slice none 0 0, .slice none 0 0], .slice none 0 0, .agg #[.int .i64 0, .int .i64 0]] rfl (w_vars os) (w_heap os) (w_args os)
     (OpenSpec.preRow_of_cond 8 hx (by kernel_rfl) (fun k hk => by cases hk) (by kernel_rfl) (laid_met os))) ?_
 intro W base args ds gs before hval hW _ _ _ hL _ _
 exact contract H enc W base args ds gs before hval hW hL
theorem said : Rows.TunnelAsksSaid :=
 OpenClaim.holds_of_cond 5 Tryd.f5 rfl rfl rfl rfl rfl rfl rfl ⟨rfl, rfl, rfl, rfl, rfl⟩ rfl rfl rfl rfl rfl (by kernel_rfl) Tryd.func5 facts
   (of_decide_eq_true (by kernel_rfl)) (by unfold Func.isWrapper; first | (rw [if_pos (by decide +kernel)]; kernel_rfl) | (rw [if_neg (by decide +kernel)]; exact ⟨rfl, rfl⟩))
   (fun os started H enc _ F => by rw [OpenClaim.pre_eq_preRow]; exact lifted os started H enc F)
end Go.Proofs.YtbcabikaaadiiaaDoor.lawTunnelAsks
