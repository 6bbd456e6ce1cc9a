/- ScanNone holds for every input, the listed variables laid by the text, where the input fits the given row. -/
import Derived.Test.YtjmfknlbnnpbiaaGreatDoorRc

set_option linter.all false

/- The row ScanNone, and its card. -/
namespace Go.Ab
open Go.Proofs Go.Proofs.YtjmfknlbnnpbiaaGreatDoor Go.RowKit Go.ChangeShapes Go.WideShapes

theorem params5 : Tryz.f5.params = #[22, 3, 23] := by kernel_rfl
theorem results5 : Tryz.f5.resultTypes = #[4] := by kernel_rfl

set_option maxRecDepth 100000 in
theorem scanNone_lifted (os : Os) (started : os.Started) (H : Type) (enc : TypeId × Value → H) :
    ReturnsInHanded {} Tryz.checked os 5 .any (fun w args => (Rows.scanNoneSpec.pre enc Tryz.prog Tryz.f5 [] false w args ∧ laidMetH Tryz.prog laidL w) ∧ sizedMet enc Tryz.prog Tryz.f5 (OpenSpec.ofChange Rows.scanNoneSpec) false w args)
      (Rows.scanNoneSpec.post enc Tryz.prog Tryz.f5 false true false false) := by
  refine handed_shaped (C := Tryz.checked) (X := fun w _ => laidMetH Tryz.prog laidL w) (fun _ _ _ hh h => h.of_heap hh) ownK started (by kernel_rfl) Tryz.func5
    (ChangeSpec.witness_at (enc := enc) (C := Tryz.checked) (os := os) (X := fun w _ => laidMetH Tryz.prog laidL w) false (World.laidAll Tryz.prog os laidL) #[.slice none 0 0, .int .i64 0, .slice none 0 0] 8 (World.laidAll_os _ _ _) (by kernel_rfl) (by kernel_rfl) (by kernel_rfl) (by kernel_rfl) (by kernel_rfl) (laidMet_laidAll _ (laid_fits os) (laid_ifaces os))) ?_
  intro W base args ds gs before hsh hval0 hW hcnd _ hL _
  have hval : ∀ (j : Nat) t v, Tryz.f5.params[j]? = some t → args[j]? = some v → Value.okWide Tryz.prog W .any base t v := hval0
  have hW' := hW
  obtain ⟨p, q, hA0, hV0, rfl, hfz, hnd⟩ := hW
  have hA : DataW.TrodAll enc Tryz.prog W 0 (fun _ => true) true Tryz.f5.params.toList args.toList ds p := hA0
  rw [params5] at hA hval
  obtain ⟨v0, v1, v2, d0, d1, d2, p0, p1, p2, rfl, rfl, rfl, t0, t1, t2⟩ := trodAll_three hA
  obtain ⟨rfl, rfl⟩ := trodVars_none hV0
  have hg := gw_of_laid hsh hL
  obtain ⟨arr, hz⟩ := h0_of hg
  obtain ⟨i, rfl, rfl, rfl, wi⟩ := open_int Tryz.underlying3 (hval 1 3 v1 rfl rfl) t1
  obtain ⟨bs, te7, pl7, u7, a7, s7⟩ := argBytes (bid := 7) hz (Value.okWide_any_base (b' := 0) (hval 0 22 v0 rfl rfl)) t0
  obtain ⟨len, xs, te8, pl8, u8, a8, _, s8⟩ := argParams (bid := 8) hz (Value.okWide_any_base (b' := 0) (hval 2 23 v2 rfl rfl)) t2
  have hi : -9223372036854775808 ≤ i ∧ i ≤ 9223372036854775807 := by
    simp only [Lit.wf, Bool.and_eq_true, decide_eq_true_eq, IntKind.min, IntKind.max, IntKind.signed] at wi
    refine ⟨?_, ?_⟩
    · have := wi.1; simp [IntKind.bits] at this; omega
    · have := wi.2; simp [IntKind.bits] at this; omega
  have hw := scanNone_law (H := HSt (.cells (u8s bs) te7 .ro) (.cells (ints xs) te8 .ro)) (n := 9) (s7 _ (by rw [HSt_get, if_neg (by omega), if_pos rfl])) HSt_fresh HSt_gok (by omega) u8 (s8 _ (by rw [HSt_get, if_pos rfl])) i hi.1 hi.2
  refine (law_calls hg a7 a8 (args' := [v0, .int .i64 i, v2]) (fun m h1 h2 => .cons h1 (.cons (.int _ _) (.cons h2 .nil))) (hw.mono fun _ _ _ h => h.1)).mono fun e W' hp => ?_
  have hb := hp.below
  obtain ⟨rfl, _⟩ := hp
  have hlt := hW'.lt
  refine ⟨_, rfl, _, _, _, [], p0 ++ ([] ++ p2), [], hW', ?_, ?_, rfl, hb.frame _, fun h => by cases h⟩
  · rw [results5]
    exact trodAll_mk1 (shut_bool Tryz.underlying4 true)
  · show DataW.TrodAll enc Tryz.prog W' 0 (fun b => decide (b < W.heap.size)) true Tryz.f5.params.toList _ _ _
    rw [params5]
    exact trodAll_mk3 (Below.trod laidOut (by kernel_rfl) (tlt (by omega)) t0 hb fun x hx => hlt x (by simp [hx])) (Below.trod laidOut (by kernel_rfl) (tlt (by omega)) t1 hb fun x hx => by cases hx)
      (Below.trod laidOut (by kernel_rfl) (tlt (by omega)) t2 hb fun x hx => hlt x (by simp [hx]))

theorem scanNone_holds : Rows.ScanNoneSaid :=
  OpenClaim.holds_of_wide 5 Tryz.f5 rfl rfl rfl rfl rfl rfl rfl ⟨rfl, rfl, rfl, rfl, rfl⟩ rfl rfl rfl rfl rfl (by kernel_rfl) Tryz.func5 (by kernel_rfl)
    (of_decide_eq_true (by kernel_rfl)) (by unfold Func.isWrapper; rw [if_neg (of_decide_eq_false (by kernel_rfl))]; exact ⟨rfl, rfl⟩)
    (fun os started H enc _ => scanNone_lifted os started H enc)

theorem scanNoneCard_holds : Rows.ScanNoneCardSaid :=
  Claim7.holds_tied_plain_at .later [] [.data, .data, .data, .data, .widerDeep, .widerDeep, .widerDeep] true (true, "13195d3674073950646bd1539d1bf05cfc046337bd96af0117bc889d6b8b239a") false
    scanNone_holds (fun _ h => by cases h) (by kernel_rfl) (fun _ h => by cases h) scanNone_row_tie rfl ⟨rfl, rfl⟩ (by kernel_rfl) rfl
    (fun f fn hf hfn => by
      obtain rfl : f = 5 := Option.some.inj ((show Tryz.prog.funcNamed "jetsam/jetsamlaw16.ScanNone" = some 5 by kernel_rfl).symm.trans hf) |>.symm
      obtain rfl : fn = Tryz.f5 := (Option.some.inj (Tryz.func5.symm.trans hfn)).symm
      exact ⟨by kernel_rfl, fun j t ht => by
        rw [params5] at ht
        rcases j with _ | _ | _ | j
        · obtain rfl : 22 = t := by simpa using ht
          exact (show Tryz.prog.wantsStandIn 22 = false by kernel_rfl)
        · obtain rfl : 3 = t := by simpa using ht
          exact (show Tryz.prog.wantsStandIn 3 = false by kernel_rfl)
        · obtain rfl : 23 = t := by simpa using ht
          exact (show Tryz.prog.wantsStandIn 23 = false by kernel_rfl)
        · simp at ht⟩)
    (by kernel_rfl)
end Go.Ab

namespace Go.Proofs.YtjmfknlbnnpbiaaGreatDoor
/-- The given statement. -/
theorem scanNone_proved : Rows.ScanNoneCardSaid := Go.Ab.scanNoneCard_holds
#print axioms scanNone_proved
end Go.Proofs.YtjmfknlbnnpbiaaGreatDoor
