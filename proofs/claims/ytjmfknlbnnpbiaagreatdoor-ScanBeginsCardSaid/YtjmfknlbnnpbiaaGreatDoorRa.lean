/- Arguments and variables as blocks of the evaluator. -/
import Derived.Test.YtjmfknlbnnpbiaaGreatDoorPc
import Derived.ProofKit
import Derived.ReadAgain
import Derived.Handed
import Derived.ChangeSlices
import Derived.Deep.Slices
import Derived.Test.YtjmfknlbnnpbiaaGreatDoorRows
import Derived.OpenShut

set_option linter.all false

/- Arguments that can be read as data, as blocks that are only read. -/
namespace Go.Ab
open Go.Proofs Go.ChangeShapes Go.WideShapes

structure ArgOk (P : Program) (W : World) (bid : Nat) (X : Blk) (pl : Pl) (u v : Value) : Prop where
  ro : X.mut = false
  rel : ∀ m, BRel P m X pl W
  val : ∀ m, m bid = some pl → VRel m u v
  inb : pl.B < W.heap.size

theorem argSl {P : Program} {W : World} {bid : Nat} {arr0 : Array Value} {t0 : TypeId} {fz0 : Nat × Nat} (h0 : W.heap[0]? = some (.cells arr0 t0 fz0)) {a : Addr} {len cap esz : Nat} {cs : List Value}
    (hl : cs.length = len * esz) (hle : len ≤ cap) (hcs : ∀ i v, cs[i]? = some v → W.cell? ⟨a.block, a.off + i, none⟩ = some v) (hsc : cs.all scal = true)
    (hsp : 0 < cap → a.spot = none ∧ ∃ arr te fz, W.heap[a.block]? = some (.cells arr te fz)) :
    ∃ te pl, ArgOk P W bid (.cells cs te .ro) pl (.slice (some ⟨bid, 0, none⟩) len len) (.slice (some a) len cap) ∧ ∀ H e, T.get H bid = some (.cells cs te .ro) → Sl H e esz (.slice (some ⟨bid, 0, none⟩) len len) len cs := by
  have hsl : ∀ te H e, T.get H bid = some (.cells cs te .ro) → Sl H e esz (.slice (some ⟨bid, 0, none⟩) len len) len cs := fun te H e hg =>
    ⟨_, _, rfl, Nat.le_refl _, hl, rfl, cs, te, .ro, hg, (fun e => by cases e), by simp [hl], by rw [List.drop_zero]; exact List.take_of_length_le (by omega)⟩
  by_cases hc : 0 < cap
  · obtain ⟨hs, arr, te, fz, hb⟩ := hsp hc
    refine ⟨te, ⟨a.block, a.off, arr.size, 0, .ro⟩, ⟨rfl, fun m => ⟨rfl, ⟨arr, fz, hb, rfl, fun h => absurd rfl h, fun i v hi => ?_⟩, fun e => by cases e⟩, fun m hm => ?_, (Array.getElem?_eq_some_iff.1 hb).1⟩, hsl te⟩
    · refine ⟨v, ?_, scal_rel m ?_⟩
      · have := hcs i v hi
        unfold World.cell? at this
        rw [hb] at this
        simpa using this
      · rw [List.all_eq_true] at hsc
        exact hsc v (List.mem_of_getElem? hi)
    · refine .slice hm ?_
      show len ≤ cap ∧ ((cap = 0 ∧ len = 0) ∨ ARel _ _ _)
      refine ⟨hle, .inr ⟨rfl, ?_⟩⟩
      obtain ⟨b, o, s⟩ := a
      simp only at hs
      subst hs
      rfl
  · have hc0 : cap = 0 := by omega
    have hl0 : len = 0 := by omega
    subst hc0 hl0
    have hcs0 : cs = [] := List.eq_nil_of_length_eq_zero (by simpa using hl)
    subst hcs0
    refine ⟨t0, ⟨0, 0, arr0.size, 0, .ro⟩, ⟨rfl, fun m => ⟨rfl, ⟨arr0, fz0, h0, rfl, fun h => absurd rfl h, fun i v hi => by simp at hi⟩, fun e => by cases e⟩, fun m hm => ?_, (Array.getElem?_eq_some_iff.1 h0).1⟩, hsl t0⟩
    refine .slice hm ?_
    show 0 ≤ 0 ∧ ((0 = 0 ∧ 0 = 0) ∨ ARel _ _ _)
    exact ⟨Nat.le_refl _, .inl ⟨rfl, rfl⟩⟩

/-- nil, with a block that is not looked at. -/
theorem argNil {P : Program} {W : World} {bid : Nat} {arr0 : Array Value} {t0 : TypeId} {fz0 : Nat × Nat} (h0 : W.heap[0]? = some (.cells arr0 t0 fz0)) :
    ∃ te pl, ArgOk P W bid (.cells [] te .ro) pl (.slice none 0 0) (.slice none 0 0) ∧ ∀ H e esz, T.get H bid = some (.cells [] te .ro) → Sl H e esz (.slice none 0 0) 0 [] :=
  ⟨t0, ⟨0, 0, arr0.size, 0, .ro⟩, ⟨rfl, fun m => ⟨rfl, ⟨arr0, fz0, h0, rfl, fun h => absurd rfl h, fun i v hi => by simp at hi⟩, fun e => by cases e⟩, fun _ _ => .nilSlice _ _, (Array.getElem?_eq_some_iff.1 h0).1⟩, fun H e esz _ => .nil H e esz⟩

theorem u8s_scal (bs : List UInt8) : (u8s bs).all scal = true := by simp [u8s, scal]
theorem cells8 : Tryz.prog.cellsOf 5 = 1 := by kernel_rfl
theorem cells29 : Tryz.prog.cellsOf 29 = 3 := by kernel_rfl
variable {D : Type} {enc : TypeId × Value → D} {W : World}

set_option maxRecDepth 100000 in
/-- An argument of bytes. -/
theorem argBytes {bid : Nat} {arr0 : Array Value} {t0 : TypeId} {fz0 : Nat × Nat} (h0 : W.heap[0]? = some (.cells arr0 t0 fz0)) {v : Value} {d : DataW D} {ps : List MemPlace}
    (hval : Value.okWide Tryz.prog W .any 0 22 v) (hd : DataW.Trod enc Tryz.prog W 0 (fun _ => true) true 22 v d ps) :
    ∃ bs te pl u, ArgOk Tryz.prog W bid (.cells (u8s bs) te .ro) pl u v ∧ ∀ H, T.get H bid = some (.cells (u8s bs) te .ro) → By H u bs := by
  obtain ⟨a0, len, cap, rfl⟩ := okWide_slice Tryz.underlying22 hval
  obtain ⟨fuel, hf⟩ := hd
  rcases open_ints Tryz.underlying22 Tryz.underlying5 cells8 hf with ⟨hcs, hx⟩ | ⟨a, len', cap', zs, hcs, _, hle, hm, hz, hx, hcell, hwf⟩
  · simp [Value.cells] at hcs
    obtain ⟨rfl, rfl, rfl⟩ := hcs
    obtain ⟨te, pl, h1, h2⟩ := argNil (P := Tryz.prog) (bid := bid) h0
    exact ⟨[], te, pl, _, h1, fun H hg => h2 H 5 1 hg⟩
  · simp [Value.cells] at hcs
    obtain ⟨rfl, rfl, rfl⟩ := hcs
    simp only [if_true] at hz
    have hspot : 0 < cap → a.spot = none ∧ ∃ arr te fz, W.heap[a.block]? = some (.cells arr te fz) := fun hc => by
      have h1 := hcell 0 (by omega)
      have h2 : a.add 0 = a := by unfold Addr.add; rw [if_pos rfl]
      rw [h2] at h1
      unfold World.cell? at h1
      split at h1
      · rename_i c t f hb
        split at h1
        · cases h1
        · rename_i hs
          exact ⟨by simpa using hs, c, t, f, hb⟩
      · cases h1
    have hbs : ∀ z ∈ zs, ((UInt8.ofNat z.toNat).toNat : Int) = z := fun z hz => by
      have := hwf z hz
      simp only [Lit.wf, Bool.and_eq_true, decide_eq_true_eq, IntKind.min, IntKind.max, IntKind.signed] at this
      have h1 : 0 ≤ z := by simpa using this.1
      have h2 : z ≤ 255 := by
        have := this.2
        simp [IntKind.bits] at this
        omega
      obtain ⟨k, rfl⟩ := Int.eq_ofNat_of_zero_le h1
      simp
      omega
    have hlen : ((zs.take len).map fun z => UInt8.ofNat z.toNat).length = len := by simp; omega
    have hcs : ∀ i v, (u8s ((zs.take len).map fun z => UInt8.ofNat z.toNat))[i]? = some v → W.cell? ⟨a.block, a.off + i, none⟩ = some v := by
      intro i v hi
      have hi2 : i < len := by
        have := (List.getElem?_eq_some_iff.1 hi).1
        simp at this
        omega
      have hspot2 := (hspot (by omega)).1
      have h3 := hcell i (by omega)
      obtain ⟨b, o, sp⟩ := a
      simp only at hspot2
      subst hspot2
      rw [addr_plus] at h3
      show W.cell? ⟨b, o + i, none⟩ = some v
      rw [h3]
      have h4 : i < zs.length := by omega
      simp [u8s, List.getElem?_take, hi2, List.getElem?_eq_getElem h4] at hi
      rw [← hi, List.getD_eq_getElem?_getD, List.getElem?_eq_getElem h4]
      simp only [Option.getD_some]
      have := hbs zs[i] (List.getElem_mem h4)
      simp at this
      rw [this]
    obtain ⟨te, pl, h1, h2⟩ := argSl (P := Tryz.prog) (bid := bid) h0 (a := a) (len := len) (cap := cap) (esz := 1) (cs := u8s ((zs.take len).map fun z => UInt8.ofNat z.toNat)) (by simp; omega) hle hcs (u8s_scal _) hspot
    refine ⟨_, te, pl, _, h1, fun H hg => ?_⟩
    have := h2 H 5 hg
    unfold By
    rw [hlen]
    exact this

def ints (l : List Int) : List Value := l.map (.int .i64)
@[simp] theorem ints_len (l : List Int) : (ints l).length = l.length := by simp [ints]
theorem ints_scal (l : List Int) : (ints l).all scal = true := by simp [ints, scal]
def i64ok (x : Int) : Prop := -9223372036854775808 ≤ x ∧ x ≤ 9223372036854775807

set_option maxRecDepth 100000 in
/-- An argument of parameters: three numbers each. -/
theorem argParams {bid : Nat} {arr0 : Array Value} {t0 : TypeId} {fz0 : Nat × Nat} (h0 : W.heap[0]? = some (.cells arr0 t0 fz0)) {v : Value} {d : DataW D} {ps : List MemPlace}
    (hval : Value.okWide Tryz.prog W .any 0 23 v) (hd : DataW.Trod enc Tryz.prog W 0 (fun _ => true) true 23 v d ps) :
    ∃ len xs te pl u, ArgOk Tryz.prog W bid (.cells (ints xs) te .ro) pl u v ∧ (∀ x ∈ xs, i64ok x) ∧ ∀ H, T.get H bid = some (.cells (ints xs) te .ro) → Sl H 29 3 u len (ints xs) := by
  obtain ⟨a0, len, cap, rfl⟩ := okWide_slice Tryz.underlying23 hval
  obtain ⟨fuel, hf⟩ := hd
  rcases Go.Deep.open_slice Tryz.underlying23 hf with ⟨hcs, hx⟩ | ⟨a, len', cap', m, k, D', Pl', hcs, _, hle, hm, hmm, hx, hel⟩
  · simp [Value.cells] at hcs
    obtain ⟨rfl, rfl, rfl⟩ := hcs
    obtain ⟨te, pl, h1, h2⟩ := argNil (P := Tryz.prog) (bid := bid) h0
    exact ⟨0, [], te, pl, _, h1, (fun x hx => by cases hx), fun H hg => h2 H 29 3 hg⟩
  · simp [Value.cells] at hcs
    obtain ⟨rfl, rfl, rfl⟩ := hcs
    simp only [if_true] at hmm
    rw [hmm] at hel
    rw [cells29] at hel
    have hcellI : ∀ i, i < cap → ∀ j, j < 3 → ∃ x : Int, W.cell? ((a.add (i * 3)).add j) = some (.int .i64 x) ∧ i64ok x := by
      intro i hi j hj
      obtain ⟨cs', h1, h2⟩ := hel i hi
      obtain ⟨_, h3, h4⟩ := World.cells?_some h1
      obtain ⟨xs, n', _, _, h5, h6, h7⟩ := DataW.trod_struct Tryz.underlying29 h2
      have hfield : ∀ (jj : Nat) (f : Field), jj < 3 → (#[(⟨ "Rate", 3, 0, false, "", "", 0⟩ : Field), ⟨ "Channels", 3, 1, false, "", "", 8⟩, ⟨ "Depth", 3, 2, false, "", "", 16⟩])[jj]? = some f → f.type = 3 ∧ f.offset = jj := by
        intro jj f hjj hf'
        rcases (show jj = 0 ∨ jj = 1 ∨ jj = 2 by omega) with rfl | rfl | rfl <;> (simp at hf'; subst hf'; exact ⟨rfl, rfl⟩)
      have hsz : xs.length = 3 := h6
      obtain ⟨f, hf1⟩ : ∃ f, (#[(⟨ "Rate", 3, 0, false, "", "", 0⟩ : Field), ⟨ "Channels", 3, 1, false, "", "", 8⟩, ⟨ "Depth", 3, 2, false, "", "", 16⟩])[j]? = some f := ⟨_, Array.getElem?_eq_getElem (by simpa using hj)⟩
      obtain ⟨ft, fo⟩ := hfield j f hj hf1
      have h8 := h7 j f hf1
      have hc3 : Tryz.prog.cellsOf 3 = 1 := by kernel_rfl
      rw [ft, fo, hc3, List.getElem?_eq_getElem (by omega)] at h8
      obtain ⟨z, g1, g2, g3⟩ := DataW.trod_int Tryz.underlying3 h8
      have h9 := h4 j hj
      have h10 : cs'[j]? = some (.int .i64 z) := by
        have := congrArg (fun l => l[0]?) g1
        simpa using this
      refine ⟨z, by rw [h9, h10], ?_⟩
      simp only [Lit.wf, Bool.and_eq_true, decide_eq_true_eq, IntKind.min, IntKind.max, IntKind.signed] at g3
      constructor
      · have := g3.1
        simp [IntKind.bits] at this
        omega
      · have := g3.2
        simp [IntKind.bits] at this
        omega
    have hspot : 0 < cap → a.spot = none ∧ ∃ arr te fz, W.heap[a.block]? = some (.cells arr te fz) := fun hc => by
      obtain ⟨x, h1, _⟩ := hcellI 0 hc 0 (by omega)
      have h2 : (a.add (0 * 3)).add 0 = a := by unfold Addr.add; simp
      rw [h2] at h1
      unfold World.cell? at h1
      split at h1
      · rename_i c t f hb
        split at h1
        · cases h1
        · rename_i hs
          exact ⟨by simpa using hs, c, t, f, hb⟩
      · cases h1
    have hflat : ∀ j, j < len * 3 → ∃ x : Int, W.cell? ⟨a.block, a.off + j, none⟩ = some (.int .i64 x) ∧ i64ok x := by
      intro j hj
      obtain ⟨x, h1, h2⟩ := hcellI (j / 3) (by omega) (j % 3) (by omega)
      have hs := (hspot (by omega)).1
      refine ⟨x, ?_, h2⟩
      obtain ⟨b, o, sp⟩ := a
      simp only at hs
      subst hs
      rw [addr_plus, addr_plus] at h1
      rw [show o + j = o + j / 3 * 3 + j % 3 by omega]
      exact h1
    obtain ⟨xs, hxl, hxs⟩ : ∃ xs : List Int, xs.length = len * 3 ∧ ∀ j, (hj : j < xs.length) → W.cell? ⟨a.block, a.off + j, none⟩ = some (.int .i64 xs[j]) ∧ i64ok xs[j] := by
      refine ⟨(List.range (len * 3)).map (fun j => match W.cell? ⟨a.block, a.off + j, none⟩ with | some (.int _ x) => x | _ => 0), by simp, fun j hj => ?_⟩
      have hj' : j < len * 3 := by simpa using hj
      obtain ⟨x, h1, h2⟩ := hflat j hj'
      simp only [List.getElem_map, List.getElem_range, h1]
      exact ⟨trivial, h2⟩
    have hcs : ∀ i v, (ints xs)[i]? = some v → W.cell? ⟨a.block, a.off + i, none⟩ = some v := by
      intro i v hi
      have hi2 : i < xs.length := by simpa using (List.getElem?_eq_some_iff.1 hi).1
      simp [ints, List.getElem?_eq_getElem hi2] at hi
      rw [← hi]
      exact (hxs i hi2).1
    obtain ⟨te, pl, h1, h2⟩ := argSl (P := Tryz.prog) (bid := bid) h0 (a := a) (len := len) (cap := cap) (esz := 3) (cs := ints xs) (by simpa using hxl) hle hcs (ints_scal _) hspot
    refine ⟨len, xs, te, pl, _, h1, fun x hx => ?_, fun H hg => h2 H 29 hg⟩
    obtain ⟨j, hj, rfl⟩ := List.mem_iff_getElem.1 hx
    exact (hxs j hj).2
end Go.Ab

/- The package-level variables, as blocks that are only read; the heap at the start. -/
namespace Go.Ab
open Go.Proofs Go.ChangeShapes Go.WideShapes Go.Proofs.YtjmfknlbnnpbiaaGreatDoor
section
variable {P : Program} {w : World} {sp : Nat → Bool} {held : Bool} {D : Type} {enc : TypeId × Value → D} {base : Nat}

/-- What cells read as a row of whole numbers hold. -/
theorem row_ints {t e : TypeId} {n : Nat} {k : IntKind} {fuel : Nat} {cs : List Value} {p : List MemPlace} {zs : List Int} (ht : P.underlying t = some (.array n e)) (he : P.underlying e = some (.int k)) (hc : P.cellsOf e = 1) (hn : P.cellsOf t = n)
    (h : DataW.trod enc P w base sp held fuel t cs = some (.agg (zs.map fun z => .lit (.int k z)), p)) : cs = zs.map (.int k) := by
  obtain ⟨xs, m, _, hx, hl, hxl, hel⟩ := DataW.trod_array ht h
  simp only [Prod.mk.injEq, DataW.agg.injEq] at hx
  have hx := hx.1
  have hzl : zs.length = n := by have := congrArg List.length hx; simp at this; omega
  apply List.ext_getElem?
  intro i
  by_cases hi : i < n
  · have h1 := hel i hi
    rw [hc, Nat.mul_one, List.getElem?_eq_getElem (by omega)] at h1
    obtain ⟨z, g1, g2, _⟩ := DataW.trod_int he h1
    have h2 : (zs.map fun z => (DataW.lit (.int k z) : DataW D))[i]? = (xs.map (·.1))[i]? := by rw [hx]
    rw [List.getElem?_map, List.getElem?_map, List.getElem?_eq_getElem (by omega), List.getElem?_eq_getElem (by omega), g2] at h2
    simp at h2
    have h3 := congrArg (fun l => l[0]?) g1
    simp [List.getElem?_drop] at h3
    rw [h3, List.getElem?_map, List.getElem?_eq_getElem (by omega)]
    simp [h2]
  · rw [List.getElem?_eq_none (by omega), List.getElem?_eq_none (by simp; omega)]

theorem rows_ints {t e f : TypeId} {n m : Nat} {k : IntKind} {fuel : Nat} {cs : List Value} {p : List MemPlace} {zss : List (List Int)} (ht : P.underlying t = some (.array n e)) (he : P.underlying e = some (.array m f)) (hf : P.underlying f = some (.int k)) (hc : P.cellsOf f = 1) (hm : P.cellsOf e = m) (hn : P.cellsOf t = n * m)
    (h : DataW.trod enc P w base sp held fuel t cs = some (.agg (zss.map fun zs => .agg (zs.map fun z => .lit (.int k z))), p)) : ∀ i, i < n → ∃ zs, zss[i]? = some zs ∧ (cs.drop (i * m)).take m = zs.map (.int k) := by
  obtain ⟨xs, j, _, hx, hl, hxl, hel⟩ := DataW.trod_array ht h
  simp only [Prod.mk.injEq, DataW.agg.injEq] at hx
  have hx := hx.1
  have hzl : zss.length = n := by have := congrArg List.length hx; simp at this; omega
  intro i hi
  have h1 := hel i hi
  rw [hm, List.getElem?_eq_getElem (by omega)] at h1
  have h2 : (zss.map fun zs => (DataW.agg (zs.map fun z => .lit (.int k z)) : DataW D))[i]? = (xs.map (·.1))[i]? := by rw [hx]
  rw [List.getElem?_map, List.getElem?_map, List.getElem?_eq_getElem (by omega), List.getElem?_eq_getElem (by omega)] at h2
  simp only [Option.map_some, Option.some.injEq] at h2
  refine ⟨zss[i], List.getElem?_eq_getElem (by omega), ?_⟩
  have h3 : DataW.trod enc P w base sp held j e ((cs.drop (i * m)).take m) = some (.agg (zss[i].map fun z => .lit (.int k z)), xs[i].2) := by
    rw [h1, h2]
  exact row_ints he hf hc hm h3
end

theorem gt (i : Nat) : i < 7 → ((((begin Tryz.prog (fun _ _ => 0) default).world.heap[i]?).bind Obj.row?).map (·.2)) = some (gtype i) := by
  intro hi
  rcases (show i = 0 ∨ i = 1 ∨ i = 2 ∨ i = 3 ∨ i = 4 ∨ i = 5 ∨ i = 6 by omega) with rfl | rfl | rfl | rfl | rfl | rfl | rfl <;> kernel_rfl
theorem gsz : Tryz.prog.globals.size = 7 := by kernel_rfl

/-- The variables' blocks. -/
def GW (W : World) : Prop := ∀ i, i < 7 → ∃ arr, W.heap[i]? = some (.cells arr (gtype i)) ∧ arr.toList = gcells i

theorem gw_one {W : World} (hs : W.ShapedOpen Tryz.prog) {i : Nat} (hi : i < 7) {n : String} {cs : Array Value} (hn : Tryz.prog.globalNamed n = some i) (hv : W.var? Tryz.prog n = some cs) (hc : cs.toList = gcells i) : ∃ arr, W.heap[i]? = some (.cells arr (gtype i)) ∧ arr.toList = gcells i := by
  have h1 := gt i hi
  rw [Option.map_eq_some_iff] at h1
  obtain ⟨⟨zero, t⟩, h2, h3⟩ := h1
  simp only at h3
  subst h3
  obtain ⟨arr, h4, _, _⟩ := hs.1 i zero _ (by rw [gsz]; exact hi) h2
  refine ⟨arr, h4, ?_⟩
  unfold World.var? at hv
  rw [hn] at hv
  simp only [Option.bind_some, h4] at hv
  cases hv
  exact hc

def numV (v : Value) : Int := match v with
  | .int _ x => x
  | _ => 0
def gnums (i : Nat) : List Int := (gcells i).map numV
theorem four_eq {cs ds : List Value} {n : Nat} (hl : cs.length = n * 4) (hd : ds.length = n * 4) (h : ∀ q, q < n → (cs.drop (q * 4)).take 4 = (ds.drop (q * 4)).take 4) : cs = ds := by
  apply List.ext_getElem?
  intro i
  by_cases hi : i < n * 4
  · have h1 := congrArg (fun l => l[i % 4]?) (h (i / 4) (by omega))
    simp only [List.getElem?_take, List.getElem?_drop, show i % 4 < 4 by omega, if_true, show i / 4 * 4 + i % 4 = i by omega] at h1
    exact h1
  · rw [List.getElem?_eq_none (by omega), List.getElem?_eq_none (by omega)]

def laidL : List (String × DataW Unit) := [("jetsam/coded.limits", Rows.laid_jetsam_coded_limits), ("jetsam/digest.sines", Rows.laid_jetsam_digest_sines), ("jetsam/digest.turns", Rows.laid_jetsam_digest_turns), ("jetsam/predict.fixed", Rows.laid_jetsam_predict_fixed), ("jetsam/header.blocks", Rows.laid_jetsam_header_blocks), ("jetsam/header.rates", Rows.laid_jetsam_header_rates), ("jetsam/header.depths", Rows.laid_jetsam_header_depths)]
theorem tyOf (g : Nat) (hg : g < 7) : (Tryz.prog.globals[g]?).map (·.type) = some (gtype g) := by
  rcases (show g = 0 ∨ g = 1 ∨ g = 2 ∨ g = 3 ∨ g = 4 ∨ g = 5 ∨ g = 6 by omega) with rfl | rfl | rfl | rfl | rfl | rfl | rfl <;> kernel_rfl
theorem n0 : Tryz.prog.globalNamed "jetsam/header.blocks" = some 0 := by kernel_rfl
theorem n1 : Tryz.prog.globalNamed "jetsam/header.rates" = some 1 := by kernel_rfl
theorem n2 : Tryz.prog.globalNamed "jetsam/header.depths" = some 2 := by kernel_rfl
theorem n3 : Tryz.prog.globalNamed "jetsam/coded.limits" = some 3 := by kernel_rfl
theorem n4 : Tryz.prog.globalNamed "jetsam/predict.fixed" = some 4 := by kernel_rfl
theorem n5 : Tryz.prog.globalNamed "jetsam/digest.sines" = some 5 := by kernel_rfl
theorem n6 : Tryz.prog.globalNamed "jetsam/digest.turns" = some 6 := by kernel_rfl
theorem k143 : Tryz.prog.cellsOf 143 = 16 := by kernel_rfl
theorem k144 : Tryz.prog.cellsOf 144 = 8 := by kernel_rfl
theorem k288 : Tryz.prog.cellsOf 288 = 4 := by kernel_rfl
theorem k289 : Tryz.prog.cellsOf 289 = 5 * 4 := by kernel_rfl
theorem k294 : Tryz.prog.cellsOf 294 = 64 := by kernel_rfl
theorem k297 : Tryz.prog.cellsOf 297 = 4 * 4 := by kernel_rfl
theorem k3 : Tryz.prog.cellsOf 3 = 1 := by kernel_rfl
theorem k204 : Tryz.prog.cellsOf 204 = 1 := by kernel_rfl

set_option maxRecDepth 100000 in
theorem gw_of_laid {W : World} (hs : W.ShapedOpen Tryz.prog) (h : laidMetH Tryz.prog laidL W) : GW W := by
  have h' : laidMet Tryz.prog laidL W := h
  obtain ⟨ps, hL, _⟩ := h'
  obtain ⟨g3, t3, c3, f3, p3, q3, a1, a2, a3, a4, hL, _⟩ := hL
  obtain ⟨g5, t5, c5, f5, p5, q5, b1, b2, b3, b4, hL, _⟩ := hL
  obtain ⟨g6, t6, c6, f6, p6, q6, d1, d2, d3, d4, hL, _⟩ := hL
  obtain ⟨g4, t4, c4, f4, p4, q4, e1, e2, e3, e4, hL, _⟩ := hL
  obtain ⟨g0, t0, c0, f0, p0, q0, i1, i2, i3, i4, hL, _⟩ := hL
  obtain ⟨g1, t1, c1, f1, p1, q1, j1, j2, j3, j4, hL, _⟩ := hL
  obtain ⟨g2, t2, c2, f2, p2, q2, l1, l2, l3, l4, hL, _⟩ := hL
  obtain rfl := Option.some.inj (n3.symm.trans a1)
  obtain rfl := Option.some.inj (n5.symm.trans b1)
  obtain rfl := Option.some.inj (n6.symm.trans d1)
  obtain rfl := Option.some.inj (n4.symm.trans e1)
  obtain rfl := Option.some.inj (n0.symm.trans i1)
  obtain rfl := Option.some.inj (n1.symm.trans j1)
  obtain rfl := Option.some.inj (n2.symm.trans l1)
  obtain rfl := Option.some.inj ((tyOf 3 (by omega)).symm.trans a2)
  obtain rfl := Option.some.inj ((tyOf 5 (by omega)).symm.trans b2)
  obtain rfl := Option.some.inj ((tyOf 6 (by omega)).symm.trans d2)
  obtain rfl := Option.some.inj ((tyOf 4 (by omega)).symm.trans e2)
  obtain rfl := Option.some.inj ((tyOf 0 (by omega)).symm.trans i2)
  obtain rfl := Option.some.inj ((tyOf 1 (by omega)).symm.trans j2)
  obtain rfl := Option.some.inj ((tyOf 2 (by omega)).symm.trans l2)
  have r3 : c3.toList = gcells 3 := row_ints (zs := gnums 3) Tryz.underlying144 Tryz.underlying3 k3 k144 a4
  have r5 : c5.toList = gcells 5 := row_ints (zs := gnums 5) Tryz.underlying294 Tryz.underlying204 k204 k294 b4
  have r0 : c0.toList = gcells 0 := row_ints (zs := gnums 0) Tryz.underlying143 Tryz.underlying3 k3 k143 i4
  have r1 : c1.toList = gcells 1 := row_ints (zs := gnums 1) Tryz.underlying143 Tryz.underlying3 k3 k143 j4
  have r2 : c2.toList = gcells 2 := row_ints (zs := gnums 2) Tryz.underlying144 Tryz.underlying3 k3 k144 l4
  have r6 : c6.toList = gcells 6 := by
    have hr := rows_ints (zss := [[7, 12, 17, 22], [5, 9, 14, 20], [4, 11, 16, 23], [6, 10, 15, 21]]) Tryz.underlying297 Tryz.underlying288 Tryz.underlying3 k3 k288 k297 d4
    obtain ⟨_, _, _, _, hl, _⟩ := DataW.trod_array Tryz.underlying297 d4
    rw [k297] at hl
    refine four_eq (n := 4) hl rfl fun q hq => ?_
    obtain ⟨zs, g1, g2⟩ := hr q hq
    rw [g2]
    rcases (show q = 0 ∨ q = 1 ∨ q = 2 ∨ q = 3 by omega) with rfl | rfl | rfl | rfl <;> (cases g1; rfl)
  have r4 : c4.toList = gcells 4 := by
    have hr := rows_ints (zss := [[0, 0, 0, 0], [1, 0, 0, 0], [2, -1, 0, 0], [3, -3, 1, 0], [4, -6, 4, -1]]) Tryz.underlying289 Tryz.underlying288 Tryz.underlying3 k3 k288 k289 e4
    obtain ⟨_, _, _, _, hl, _⟩ := DataW.trod_array Tryz.underlying289 e4
    rw [k289] at hl
    refine four_eq (n := 5) hl rfl fun q hq => ?_
    obtain ⟨zs, g1, g2⟩ := hr q hq
    rw [g2]
    rcases (show q = 0 ∨ q = 1 ∨ q = 2 ∨ q = 3 ∨ q = 4 by omega) with rfl | rfl | rfl | rfl | rfl <;> (cases g1; rfl)
  intro i hi
  rcases (show i = 0 ∨ i = 1 ∨ i = 2 ∨ i = 3 ∨ i = 4 ∨ i = 5 ∨ i = 6 by omega) with rfl | rfl | rfl | rfl | rfl | rfl | rfl
  · exact gw_one hs (by omega) n0 i3 r0
  · exact gw_one hs (by omega) n1 j3 r1
  · exact gw_one hs (by omega) n2 l3 r2
  · exact gw_one hs (by omega) n3 a3 r3
  · exact gw_one hs (by omega) n4 e3 r4
  · exact gw_one hs (by omega) n5 b3 r5
  · exact gw_one hs (by omega) n6 d3 r6
end Go.Ab
