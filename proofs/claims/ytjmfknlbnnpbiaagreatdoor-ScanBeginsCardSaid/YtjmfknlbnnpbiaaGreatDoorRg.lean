/- ScanBegins holds for every input, the listed variables laid by the text, where the input fits the given row. -/
import Derived.Test.YtjmfknlbnnpbiaaGreatDoorRc
import Derived.Test.YtjmfknlbnnpbiaaGreatDoorPe

set_option linter.all false

/- The row ScanBegins, and its card. -/
namespace Go.Ab
open Go.Proofs Go.Proofs.YtjmfknlbnnpbiaaGreatDoor Go.RowKit Go.ChangeShapes Go.WideShapes

theorem params7 : Tryz.f7.params = #[22] := by kernel_rfl
theorem results7 : Tryz.f7.resultTypes = #[4] := by kernel_rfl

set_option maxRecDepth 100000 in
theorem scanBegins_lifted (os : Os) (started : os.Started) (H : Type) (enc : TypeId × Value → H) :
    ReturnsInHanded {} Tryz.checked os 7 .any (fun w args => (Rows.scanBeginsSpec.pre enc Tryz.prog Tryz.f7 [] false w args ∧ laidMetH Tryz.prog laidL w) ∧ sizedMet enc Tryz.prog Tryz.f7 (OpenSpec.ofChange Rows.scanBeginsSpec) false w args)
      (Rows.scanBeginsSpec.post enc Tryz.prog Tryz.f7 false true false false) := by
  refine handed_shaped (C := Tryz.checked) (X := fun w _ => laidMetH Tryz.prog laidL w) (fun _ _ _ hh h => h.of_heap hh) ownK started (by kernel_rfl) Tryz.func7
    (ChangeSpec.witness_at (enc := enc) (C := Tryz.checked) (os := os) (X := fun w _ => laidMetH Tryz.prog laidL w) false (World.laidAll Tryz.prog os laidL) #[.slice none 0 0] 8 (World.laidAll_os _ _ _) (by kernel_rfl) (by kernel_rfl) (by kernel_rfl) (by kernel_rfl) (by kernel_rfl) (laidMet_laidAll _ (laid_fits os) (laid_ifaces os))) ?_
  intro W base args ds gs before hsh hval0 hW hcnd _ hL _
  have hval : ∀ (j : Nat) t v, Tryz.f7.params[j]? = some t → args[j]? = some v → Value.okWide Tryz.prog W .any base t v := hval0
  have hW' := hW
  obtain ⟨p, q, hA0, hV0, rfl, hfz, hnd⟩ := hW
  have hA : DataW.TrodAll enc Tryz.prog W 0 (fun _ => true) true Tryz.f7.params.toList args.toList ds p := hA0
  rw [params7] at hA hval
  obtain ⟨v0, d0, rfl, rfl, t0⟩ := trodAll_one hA
  obtain ⟨rfl, rfl⟩ := trodVars_none hV0
  have hg := gw_of_laid hsh hL
  obtain ⟨arr, hz⟩ := h0_of hg
  obtain ⟨bs, te7, pl7, u7, a7, s7⟩ := argBytes (bid := 7) hz (Value.okWide_any_base (b' := 0) (hval 0 22 v0 rfl rfl)) t0
  obtain ⟨te8, pl8, a8, _⟩ := argNil (P := Tryz.prog) (bid := 8) hz
  have hw := scanBegins_law (H := HSt (.cells (u8s bs) te7 .ro) (.cells [] te8 .ro)) (n := 9) (s7 _ (by rw [HSt_get, if_neg (by omega), if_pos rfl])) HSt_fresh HSt_gok (by omega)
  refine (law_calls hg a7 a8 (args' := [v0]) (fun m h1 _ => .cons h1 .nil) (hw.mono fun _ _ _ h => h.1)).mono fun e W' hp => ?_
  have hb := hp.below
  obtain ⟨rfl, _⟩ := hp
  have hlt := hW'.lt
  refine ⟨_, rfl, _, _, _, [], p, [], hW', ?_, ?_, rfl, hb.frame _, fun h => by cases h⟩
  · rw [results7]
    exact trodAll_mk1 (shut_bool Tryz.underlying4 true)
  · show DataW.TrodAll enc Tryz.prog W' 0 (fun b => decide (b < W.heap.size)) true Tryz.f7.params.toList _ _ _
    rw [params7]
    exact trodAll_mk1 (Below.trod laidOut (by kernel_rfl) (tlt (by omega)) t0 hb fun x hx => hlt x (by simp [hx]))

theorem scanBegins_holds : Rows.ScanBeginsSaid :=
  OpenClaim.holds_of_wide 7 Tryz.f7 rfl rfl rfl rfl rfl rfl rfl ⟨rfl, rfl, rfl, rfl, rfl⟩ rfl rfl rfl rfl rfl (by kernel_rfl) Tryz.func7 (by kernel_rfl)
    (of_decide_eq_true (by kernel_rfl)) (by unfold Func.isWrapper; rw [if_neg (of_decide_eq_false (by kernel_rfl))]; exact ⟨rfl, rfl⟩)
    (fun os started H enc _ => scanBegins_lifted os started H enc)

theorem scanBeginsCard_holds : Rows.ScanBeginsCardSaid :=
  Claim7.holds_tied_plain_at .later [] [.data, .data, .data, .data, .widerDeep, .widerDeep, .widerDeep] true (true, "13195d3674073950646bd1539d1bf05cfc046337bd96af0117bc889d6b8b239a") false
    scanBegins_holds (fun _ h => by cases h) (by kernel_rfl) (fun _ h => by cases h) scanBegins_row_tie rfl ⟨rfl, rfl⟩ (by kernel_rfl) rfl
    (fun f fn hf hfn => by
      obtain rfl : f = 7 := Option.some.inj ((show Tryz.prog.funcNamed "jetsam/jetsamlaw16.ScanBegins" = some 7 by kernel_rfl).symm.trans hf) |>.symm
      obtain rfl : fn = Tryz.f7 := (Option.some.inj (Tryz.func7.symm.trans hfn)).symm
      exact ⟨by kernel_rfl, fun j t ht => by
        rw [params7] at ht
        rcases j with _ | j
        · obtain rfl : 22 = t := by simpa using ht
          exact (show Tryz.prog.wantsStandIn 22 = false by kernel_rfl)
        · simp at ht⟩)
    (by kernel_rfl)
end Go.Ab

namespace Go.Proofs.YtjmfknlbnnpbiaaGreatDoor
/-- The given statement. -/
theorem scanBegins_proved : Rows.ScanBeginsCardSaid := Go.Ab.scanBeginsCard_holds
#print axioms scanBegins_proved
end Go.Proofs.YtjmfknlbnnpbiaaGreatDoor
