/-
  What is proved here: the row of the law FnEverySchedule: whatever the input, it returns true and leaves its arguments as they were. No condition.
-/
import Derived.Deep.DeepHandedRow
import Derived.OpenVars
import Derived.ChangeVars
import Derived.Carry
import Derived.Test.YtheldhohhpoloaaGreatDoorCards
import Derived.Test.YtheldhohhpoloaaGreatDoorTie
import Derived.LaidMore
import Derived.Lay
import Derived.SevenTiedAt
import Derived.Stop.Joined
import Derived.Test.YtheldhohhpoloaaGreatDoorT21
import Derived.Shelf.Vars
import Derived.Test.YtheldhohhpoloaaGreatDoorRows
import Derived.Test.YtheldhohhpoloaaGreatDoorT15
import Derived.Test.YtheldhohhpoloaaGreatDoorPAFnEveryScheduleP1
import Derived.Test.YtheldhohhpoloaaGreatDoorGSFnEverySchedule
import Derived.WalkKit
import Derived.ProofKit
import Derived.OpenShut
import Derived.ShutString
import Derived.ChangeOld
import Derived.Below
import Derived.SizedLaws
namespace Go.Proofs.YtheldhohhpoloaaGreatDoor.fnEverySchedule
open Go.ChangeShapes Go.WideShapes Go.ChangeAt Go.RowKit Go.Ab Go.ChangeMaps
set_option linter.unusedVariables false
theorem own : ownKnob Tryz.prog.godebug = none := by kernel_rfl
theorem laidOut : laidOutB Tryz.prog = true := by kernel_rfl
def wordL : List (List UInt8) := [[], [110, 101, 119], [99, 111, 112, 121], [108, 101, 102, 116], [114, 105, 103, 104, 116], [112, 117, 116, 108, 101, 102, 116], [112, 117, 116, 114, 105, 103, 104, 116], [99, 108, 101, 97, 114]]
/-- An array of texts that reads so holds them. -/
theorem strs_at {H : Type} {enc : TypeId × Value → H} {P : Program} {w : World} {base : Nat} {sp : Nat → Bool} {held : Bool} {fuel : Nat} {t e : TypeId} {n : Nat} {cs : List Value} {l : List (List UInt8)} {p : List MemPlace}
    (ht : P.underlying t = some (.array n e)) (he : P.underlying e = some .string) (hce : P.cellsOf e = 1) (h : DataW.trod enc P w base sp held fuel t cs = some (.agg (l.map fun s => .lit (.string s)), p)) : ∀ (i : Nat) s, l[i]? = some s → cs[i]? = some (.string ⟨s.toArray⟩) := by
  intro i s hs
  obtain ⟨xs, m, rfl, hx, hl, hn, hall⟩ := DataW.trod_array ht h
  have e1 : xs.map (·.1) = l.map fun s => (DataW.lit (.string s) : DataW H) := by
    have := congrArg Prod.fst hx
    simpa using this.symm
  have hi : i < xs.length := by
    have := congrArg List.length e1
    simp at this
    have h2 := getElem?_lt hs
    omega
  have h2 := hall i (by omega)
  rw [hce, List.getElem?_eq_getElem hi] at h2
  obtain ⟨s', hc, hx', _⟩ := DataW.trod_string he h2
  have h3 : (xs.map (·.1))[i]? = some (DataW.lit (.string s'.data.toList)) := by rw [List.getElem?_map, List.getElem?_eq_getElem hi, hx']; rfl
  rw [e1, List.getElem?_map, hs] at h3
  have h3 : s = s'.data.toList := by simpa using h3
  have h4 : cs[i]? = some (.string s') := by
    have := congrArg (·[0]?) hc
    simpa [List.getElem?_take, List.getElem?_drop] using this
  rw [h4, h3]
/-- What the row's list gives: the words' cells. -/
theorem words {W : World} (h : laidMetH Tryz.prog Rows.fnEveryScheduleUptoRow.laid W) : ∃ cs : Array Value, W.var? Tryz.prog "loop.example/cellcollector/impl.opWords" = some cs ∧ ∀ (i : Nat) s, wordL[i]? = some s → cs.toList[i]? = some (.string ⟨s.toArray⟩) := by
  rw [MakeChecks.laidMetH_plain _ _ _ (by kernel_rfl)] at h
  obtain ⟨ps, ⟨_, _, _, _, _, _, _, _, _, _, ⟨_, _, _, _, _, _, _, _, _, _, ⟨_, _, _, _, _, _, _, _, _, _, ⟨_, _, _, _, _, _, _, _, _, _, ⟨g', t', cs, fuel, p, q, hg', ht', hvar, hd, _, _⟩, _⟩, _⟩, _⟩, _⟩, _⟩ := h
  obtain rfl := Option.some.inj ((show Tryz.prog.globalNamed "loop.example/cellcollector/impl.opWords" = some 0 by kernel_rfl).symm.trans hg')
  obtain rfl := Option.some.inj ((show (Tryz.prog.globals[0]?).map (·.type) = some 167 by kernel_rfl).symm.trans ht')
  exact ⟨cs, hvar, strs_at Tryz.underlying167 Tryz.underlying9 (by kernel_rfl) hd⟩
theorem witness_here {H : Type} {enc : TypeId × Value → H} {C : Checked} {os : Os} {f : FuncId} {fn : Func} {s : OpenSpec} {conds : List PathCond} {apart : Bool} {laid : List (String × DataW Unit)} (w0 : World) (args : Array Value) (hos : w0.os = os)
    (hsh : (w0.forCall (fun _ _ => 0) ⟨#[], args, []⟩).Shaped C.prog) (hok : Input.okWideB C.prog (w0.forCall (fun _ _ => 0) ⟨#[], args, []⟩) f ⟨#[], args, []⟩ = true)
    (hrow : s.preRow enc C.prog fn conds apart laid (w0.forCall (fun _ _ => 0) ⟨#[], args, []⟩).memory args) :
    ∃ (w : World) (tape : Tape) (i : Input), w.os = os ∧ (w.forCall tape i).Shaped C.prog ∧ i.vars = [] ∧ Input.okWide C.prog (w.forCall tape i) .any w.heap.size f i ∧
      s.preRow enc C.prog fn conds apart laid (w.forCall tape i).memory i.args ∧ ({} : Assume).holds C.prog (lone (Frame.enter C.prog f i.args .normal) [] (w.forCall tape i)) :=
  ⟨w0, fun _ _ => 0, ⟨#[], args, []⟩, hos, hsh, (Input.okWide_of_okWideB (base := 0) hok).1, (Input.okWide_of_okWideB hok).2, hrow, by
    simp only [Assume.holds]
    exact ⟨by simp, by simp, fun _ => Modest.zero, by simp, by simp⟩⟩
/-- The variables that the texts know of. -/
def gcs (k : Int) : Nat → List AVal := fun g => if g = 0 then (wordL.map fun s => AVal.str ⟨s.toArray⟩) else if g = 3 then [.int .i64 k] else []
theorem gsome : ∀ g, g < 4 → g < Tryz.prog.globals.size ∧ (((begin Tryz.prog (fun _ _ => 0) default).world.heap[g]?).bind Obj.row?).isSome = true := by
  intro g hg
  rcases (show g = 0 ∨ g = 1 ∨ g = 2 ∨ g = 3 by omega) with rfl | rfl | rfl | rfl <;> exact ⟨of_decide_eq_true (by kernel_rfl), by kernel_rfl⟩
theorem GPk (k : Int) : GP (Mem.glob (gcs k)).blk := ⟨fun p hp => (by rw [List.mem_singleton.1 hp]; exact ⟨by decide, rfl⟩), fun g hg => by rw [List.mem_singleton.1 hg]; exact ⟨by decide, k, rfl⟩⟩
theorem reads (os : Os) {H : Type} (enc : TypeId × Value → H) : (DataW.whole enc Tryz.prog ((World.laidAll Tryz.prog os Rows.fnEveryScheduleUptoRow.laid).forCall (fun _ _ => 0) ⟨#[], #[.string ⟨#[]⟩, .string ⟨#[]⟩, .string ⟨#[]⟩], []⟩).memory Tryz.f7.params.toList Rows.fnEveryScheduleSpec.vars false #[.string ⟨#[]⟩, .string ⟨#[]⟩, .string ⟨#[]⟩].toList 8).map (fun x => (x.1, x.2.1)) = some ([.lit (.string []), .lit (.string []), .lit (.string [])], [.agg (wordL.map fun s => .lit (.string s))]) := by kernel_rfl
set_option maxRecDepth 100000 in
theorem lifted (os : Os) (started : os.Started) (H : Type) (enc : TypeId × Value → H) (F : Stop.Interp) :
    ReturnsInHanded {} Tryz.checked os 7 .any ((Rows.OpenSpec.upto Rows.fnEveryScheduleSpec).preRow enc Tryz.prog Tryz.f7 Rows.fnEveryScheduleUptoRow.domain false Rows.fnEveryScheduleUptoRow.laid) (((Rows.OpenSpec.upto Rows.fnEveryScheduleSpec).at F).post enc Tryz.prog Tryz.f7 false true false false) := by
  obtain ⟨⟨rd, rg, rp⟩, hx, hx2⟩ := Option.map_eq_some_iff.1 (reads os enc)
  obtain ⟨rfl, rfl⟩ := Prod.mk.inj hx2
  refine returnsInHanded_of_row (C := Tryz.checked) (s := (Rows.OpenSpec.upto Rows.fnEveryScheduleSpec)) own started (by kernel_rfl) Tryz.func7
    (witness_here (enc := enc) (C := Tryz.checked) (World.laidAll Tryz.prog os Rows.fnEveryScheduleUptoRow.laid) #[.string ⟨#[]⟩, .string ⟨#[]⟩, .string ⟨#[]⟩] (World.laidAll_os _ _ _)
      (World.shaped_of_ZipB (by kernel_rfl) (by kernel_rfl)) (by kernel_rfl)
      (OpenSpec.preRow_of_cond 8 hx (by kernel_rfl) (fun k hk => by cases hk; kernel_rfl) (by kernel_rfl)
        (by rw [MakeChecks.laidMetH_plain _ _ _ (by kernel_rfl)]; exact laidMet_laidAll _ (by kernel_rfl) (by kernel_rfl)))) ?_
  intro W base args ds gs before hval0 hW hcnd hkb hsz0 hX hsh _
  have hbk := hkb _ rfl
  clear hkb
  have hval : ∀ (j : Nat) t v, Tryz.f7.params[j]? = some t → args[j]? = some v → Value.okWide Tryz.prog W .any base t v := hval0
  have hW' := hW
  obtain ⟨p, q, hA0, hV, rfl, hfz, hnd⟩ := hW
  have hA : DataW.TrodAll enc Tryz.prog W 0 (fun _ => true) true Tryz.f7.params.toList args.toList ds p := hA0
  rw [Tryz.params7] at hA hval
  obtain ⟨v0, vs0, d0, ds0, p0, q0, hargs, rfl, rfl, h0, r0⟩ := trodAll_cons hA
  obtain ⟨v1, vs1, d1, ds1, p1, q1, rfl, rfl, rfl, h1, r1⟩ := trodAll_cons r0
  obtain ⟨v2, vs2, d2, ds2, p2, q2, rfl, rfl, rfl, h2, r2⟩ := trodAll_cons r1
  obtain ⟨rfl, rfl, rfl⟩ := trodAll_nil r2
  obtain rfl : args = #[v0, v1, v2] := by cases args; simp_all
  obtain ⟨_, _, _, _, dv, _, hgs, _⟩ := trodVars_one hV
  subst hgs
  have hbb := of_decide_eq_true hbk
  clear hbk
  obtain ⟨k3, hk3⟩ := cell_of_shapedOpen_int (P := Tryz.prog) (g := 3) (t := 3) (zero := #[.int .i64 0]) hsh (of_decide_eq_true (by kernel_rfl)) (by kernel_rfl) rfl (by kernel_rfl) (by kernel_rfl) Tryz.underlying3
  obtain ⟨wcs, hw1, hw2⟩ := words hX
  have O0 := op0_glob (W := W) (f := gcs k3) (fun g hg => ⟨shaped_lt2 hsh (gsome g hg).1 (gsome g hg).2, fun i a ha => by
    unfold gcs at ha
    split at ha
    · rename_i e; subst e
      rw [List.getElem?_map] at ha
      obtain ⟨s, hs, rfl⟩ := Option.map_eq_some_iff.1 ha
      exact ⟨_, (World.var?_cell (show Tryz.prog.globalNamed "loop.example/cellcollector/impl.opWords" = some 0 by kernel_rfl) hw1 i).trans (by rw [← Array.getElem?_toList]; exact hw2 i s hs), .str _⟩
    split at ha
    · rename_i e; subst e
      obtain rfl : i = 0 := by have := getElem?_lt ha; simpa using this
      simp at ha; subst ha
      exact ⟨_, hk3, .int _ _⟩
    · simp at ha⟩) (GPk k3)
  obtain ⟨a0, rfl, rfl, rfl, w0⟩ := open_string Tryz.underlying9 (hval 0 9 v0 rfl rfl) h0
  obtain ⟨a1, rfl, rfl, rfl, w1⟩ := open_string Tryz.underlying9 (hval 1 9 v1 rfl rfl) h1
  obtain ⟨a2, rfl, rfl, rfl, w2⟩ := open_string Tryz.underlying9 (hval 2 9 v2 rfl rfl) h2
  simp only [List.cons_append, List.nil_append, Rows.uptoBulkAll, Rows.uptoBulk] at hbb
  have nl0 : (a0.data.toList).length < 2 ^ 30 := by omega
  have nl1 : (a1.data.toList).length < 2 ^ 30 := by omega
  have nl2 : (a2.data.toList).length < 2 ^ 30 := by omega
  clear hbb
  clear hA0 hval0 hsz0
  have hK : Ml_FnEverySchedule (a0.data.toList) (a1.data.toList) (a2.data.toList) (fun r1 => TV.bool r1 = TV.bool true) := by apply law_FnEverySchedule <;> first | assumption | rfl
  obtain ⟨MM, hMM⟩ : ∃ M, M = @Ml_FnEverySchedule := ⟨_, rfl⟩
  rw [← hMM] at hK
  have hL : LV (roC (Mem.glob (gcs k3))) _ _ := (lv_cons (.str a0.data.toList) (lv_cons (.str a1.data.toList) (lv_cons (.str a2.data.toList) (lv_nil _))))
  obtain ⟨m', hd⟩ := law_true s7 O0 hL (show B7 ((a0.data.toList), (a1.data.toList), (a2.data.toList), ()) (fun r _ => r = TV.bool true) from (by unfold B7; rw [← hMM]; exact hK))
  clear hMM hK hL
  refine (hd.2.2 gInj W _ ((((LRel.nil gInj).push (.str a0)).push (.str a1)).push (.str a2)) O0.sim (op0_free O0)).mono fun e W' ⟨cv, β', he, hr, hp⟩ => ?_
  subst he
  cases back_bool hr
  have bel := hp.below
  exact ⟨_, rfl, _, _, _, [], _, _, hW', trodAll_mk1 (shut_bool Tryz.underlying4 _), (trodAll_cons_mk (shut_string Tryz.underlying9 w0) (trodAll_cons_mk (shut_string Tryz.underlying9 w1) (trodAll_cons_mk (shut_string Tryz.underlying9 w2) trodAll_mk0))), Below.trodVars laidOut bel (by kernel_rfl) hV, bel.frame _, fun h => by cases h⟩
def iw0 : List Char := [Char.ofNat 104, Char.ofNat 97, Char.ofNat 114, Char.ofNat 110, Char.ofNat 101, Char.ofNat 115, Char.ofNat 115]
def iw1 : List Char := [Char.ofNat 48, Char.ofNat 101, Char.ofNat 51, Char.ofNat 100, Char.ofNat 100, Char.ofNat 53, Char.ofNat 98, Char.ofNat 52, Char.ofNat 55, Char.ofNat 50, Char.ofNat 99, Char.ofNat 55, Char.ofNat 56, Char.ofNat 53, Char.ofNat 53, Char.ofNat 102, Char.ofNat 101, Char.ofNat 48, Char.ofNat 54, Char.ofNat 56, Char.ofNat 102, Char.ofNat 99, Char.ofNat 48, Char.ofNat 50, Char.ofNat 57, Char.ofNat 51, Char.ofNat 101, Char.ofNat 55, Char.ofNat 53, Char.ofNat 56, Char.ofNat 49, Char.ofNat 97, Char.ofNat 99, Char.ofNat 54, Char.ofNat 101, Char.ofNat 48, Char.ofNat 50, Char.ofNat 99, Char.ofNat 54, Char.ofNat 98, Char.ofNat 98, Char.ofNat 98, Char.ofNat 48, Char.ofNat 99, Char.ofNat 98, Char.ofNat 100, Char.ofNat 100, Char.ofNat 52, Char.ofNat 48, Char.ofNat 99, Char.ofNat 52, Char.ofNat 102, Char.ofNat 52, Char.ofNat 50, Char.ofNat 52, Char.ofNat 99, Char.ofNat 101, Char.ofNat 56, Char.ofNat 50, Char.ofNat 101, Char.ofNat 50, Char.ofNat 52, Char.ofNat 48, Char.ofNat 101]
def iw2 : List Char := [Char.ofNat 99, Char.ofNat 117, Char.ofNat 116]
def iw3 : List Char := [Char.ofNat 97, Char.ofNat 116]
def iw4 : List Char := [Char.ofNat 108, Char.ofNat 111, Char.ofNat 111, Char.ofNat 112, Char.ofNat 46, Char.ofNat 101, Char.ofNat 120, Char.ofNat 97, Char.ofNat 109, Char.ofNat 112, Char.ofNat 108, Char.ofNat 101, Char.ofNat 47, Char.ofNat 99, Char.ofNat 101, Char.ofNat 108, Char.ofNat 108, Char.ofNat 99, Char.ofNat 111, Char.ofNat 108, Char.ofNat 108, Char.ofNat 101, Char.ofNat 99, Char.ofNat 116, Char.ofNat 111, Char.ofNat 114, Char.ofNat 47, Char.ofNat 108, Char.ofNat 97, Char.ofNat 119, Char.ofNat 115, Char.ofNat 46, Char.ofNat 70, Char.ofNat 110, Char.ofNat 83, Char.ofNat 104, Char.ofNat 111, Char.ofNat 114, Char.ofNat 116, Char.ofNat 76, Char.ofNat 111, Char.ofNat 115, Char.ofNat 115]
def iw5 : List Char := [Char.ofNat 108, Char.ofNat 111, Char.ofNat 111, Char.ofNat 112, Char.ofNat 46, Char.ofNat 101, Char.ofNat 120, Char.ofNat 97, Char.ofNat 109, Char.ofNat 112, Char.ofNat 108, Char.ofNat 101, Char.ofNat 47, Char.ofNat 99, Char.ofNat 101, Char.ofNat 108, Char.ofNat 108, Char.ofNat 99, Char.ofNat 111, Char.ofNat 108, Char.ofNat 108, Char.ofNat 101, Char.ofNat 99, Char.ofNat 116, Char.ofNat 111, Char.ofNat 114, Char.ofNat 47, Char.ofNat 108, Char.ofNat 97, Char.ofNat 119, Char.ofNat 115, Char.ofNat 46, Char.ofNat 70, Char.ofNat 110, Char.ofNat 67, Char.ofNat 97, Char.ofNat 110, Char.ofNat 76, Char.ofNat 111, Char.ofNat 115, Char.ofNat 101]
def iw6 : List Char := [Char.ofNat 108, Char.ofNat 111, Char.ofNat 111, Char.ofNat 112, Char.ofNat 46, Char.ofNat 101, Char.ofNat 120, Char.ofNat 97, Char.ofNat 109, Char.ofNat 112, Char.ofNat 108, Char.ofNat 101, Char.ofNat 47, Char.ofNat 99, Char.ofNat 101, Char.ofNat 108, Char.ofNat 108, Char.ofNat 99, Char.ofNat 111, Char.ofNat 108, Char.ofNat 108, Char.ofNat 101, Char.ofNat 99, Char.ofNat 116, Char.ofNat 111, Char.ofNat 114, Char.ofNat 47, Char.ofNat 108, Char.ofNat 97, Char.ofNat 119, Char.ofNat 115, Char.ofNat 46, Char.ofNat 70, Char.ofNat 110, Char.ofNat 69, Char.ofNat 110, Char.ofNat 100, Char.ofNat 83, Char.ofNat 116, Char.ofNat 111, Char.ofNat 114, Char.ofNat 101, Char.ofNat 115]
def iw7 : List Char := [Char.ofNat 108, Char.ofNat 111, Char.ofNat 111, Char.ofNat 112, Char.ofNat 46, Char.ofNat 101, Char.ofNat 120, Char.ofNat 97, Char.ofNat 109, Char.ofNat 112, Char.ofNat 108, Char.ofNat 101, Char.ofNat 47, Char.ofNat 99, Char.ofNat 101, Char.ofNat 108, Char.ofNat 108, Char.ofNat 99, Char.ofNat 111, Char.ofNat 108, Char.ofNat 108, Char.ofNat 101, Char.ofNat 99, Char.ofNat 116, Char.ofNat 111, Char.ofNat 114, Char.ofNat 47, Char.ofNat 108, Char.ofNat 97, Char.ofNat 119, Char.ofNat 115, Char.ofNat 46, Char.ofNat 70, Char.ofNat 110, Char.ofNat 69, Char.ofNat 120, Char.ofNat 97, Char.ofNat 99, Char.ofNat 116, Char.ofNat 69, Char.ofNat 110, Char.ofNat 100, Char.ofNat 83, Char.ofNat 116, Char.ofNat 111, Char.ofNat 114, Char.ofNat 101, Char.ofNat 115]
def iw8 : List Char := [Char.ofNat 108, Char.ofNat 111, Char.ofNat 111, Char.ofNat 112, Char.ofNat 46, Char.ofNat 101, Char.ofNat 120, Char.ofNat 97, Char.ofNat 109, Char.ofNat 112, Char.ofNat 108, Char.ofNat 101, Char.ofNat 47, Char.ofNat 99, Char.ofNat 101, Char.ofNat 108, Char.ofNat 108, Char.ofNat 99, Char.ofNat 111, Char.ofNat 108, Char.ofNat 108, Char.ofNat 101, Char.ofNat 99, Char.ofNat 116, Char.ofNat 111, Char.ofNat 114, Char.ofNat 47, Char.ofNat 108, Char.ofNat 97, Char.ofNat 119, Char.ofNat 115, Char.ofNat 46, Char.ofNat 70, Char.ofNat 110, Char.ofNat 69, Char.ofNat 118, Char.ofNat 101, Char.ofNat 114, Char.ofNat 121, Char.ofNat 83, Char.ofNat 99, Char.ofNat 104, Char.ofNat 101, Char.ofNat 100, Char.ofNat 117, Char.ofNat 108, Char.ofNat 101]
def iw9 : List Char := [Char.ofNat 108, Char.ofNat 111, Char.ofNat 111, Char.ofNat 112, Char.ofNat 46, Char.ofNat 101, Char.ofNat 120, Char.ofNat 97, Char.ofNat 109, Char.ofNat 112, Char.ofNat 108, Char.ofNat 101, Char.ofNat 47, Char.ofNat 99, Char.ofNat 101, Char.ofNat 108, Char.ofNat 108, Char.ofNat 99, Char.ofNat 111, Char.ofNat 108, Char.ofNat 108, Char.ofNat 101, Char.ofNat 99, Char.ofNat 116, Char.ofNat 111, Char.ofNat 114, Char.ofNat 47, Char.ofNat 108, Char.ofNat 97, Char.ofNat 119, Char.ofNat 115, Char.ofNat 46, Char.ofNat 70, Char.ofNat 110, Char.ofNat 69, Char.ofNat 110, Char.ofNat 100, Char.ofNat 66, Char.ofNat 97, Char.ofNat 114, Char.ofNat 114, Char.ofNat 105, Char.ofNat 101, Char.ofNat 114]
def iw10 : List Char := [Char.ofNat 108, Char.ofNat 111, Char.ofNat 111, Char.ofNat 112, Char.ofNat 46, Char.ofNat 101, Char.ofNat 120, Char.ofNat 97, Char.ofNat 109, Char.ofNat 112, Char.ofNat 108, Char.ofNat 101, Char.ofNat 47, Char.ofNat 99, Char.ofNat 101, Char.ofNat 108, Char.ofNat 108, Char.ofNat 99, Char.ofNat 111, Char.ofNat 108, Char.ofNat 108, Char.ofNat 101, Char.ofNat 99, Char.ofNat 116, Char.ofNat 111, Char.ofNat 114, Char.ofNat 47, Char.ofNat 108, Char.ofNat 97, Char.ofNat 119, Char.ofNat 115, Char.ofNat 46, Char.ofNat 70, Char.ofNat 110, Char.ofNat 69, Char.ofNat 110, Char.ofNat 100, Char.ofNat 82, Char.ofNat 117, Char.ofNat 110]
theorem ws_app : ∀ (w r : List Char), (w.all fun c => c != Char.ofNat 32) = true → wordsSigns (w ++ Char.ofNat 32 :: r) = w :: wordsSigns r
  | [], r, _ => rfl
  | c :: w, r, h => by
    simp only [List.all_cons, Bool.and_eq_true, bne_iff_ne] at h
    have ih := ws_app w r h.2
    rw [List.cons_append, wordsSigns, ih]
    exact h.1
theorem ws_end : ∀ (w : List Char), (w.all fun c => c != Char.ofNat 32) = true → wordsSigns w = [w]
  | [], _ => rfl
  | c :: w, h => by
    simp only [List.all_cons, Bool.and_eq_true, bne_iff_ne] at h
    have ih := ws_end w h.2
    rw [wordsSigns, ih]
    exact h.1
def initL : List Char := (iw0 ++ Char.ofNat 32 :: (iw1 ++ Char.ofNat 32 :: (iw2 ++ Char.ofNat 32 :: (iw3 ++ Char.ofNat 32 :: (iw4 ++ Char.ofNat 32 :: (iw5 ++ Char.ofNat 32 :: (iw6 ++ Char.ofNat 32 :: (iw7 ++ Char.ofNat 32 :: (iw8 ++ Char.ofNat 32 :: (iw9 ++ Char.ofNat 32 :: iw10))))))))))
theorem initE : Tryz.prog.initOrder = String.ofList initL := by kernel_rfl
theorem initT : Tryz.prog.initOrder.toList = initL := by rw [initE, String.toList_ofList]
theorem initW : wordsSigns initL = [iw0, iw1, iw2, iw3, iw4, iw5, iw6, iw7, iw8, iw9, iw10] := ((ws_app iw0 _ (by kernel_rfl)).trans (congrArg (iw0 :: ·) ((ws_app iw1 _ (by kernel_rfl)).trans (congrArg (iw1 :: ·) ((ws_app iw2 _ (by kernel_rfl)).trans (congrArg (iw2 :: ·) ((ws_app iw3 _ (by kernel_rfl)).trans (congrArg (iw3 :: ·) ((ws_app iw4 _ (by kernel_rfl)).trans (congrArg (iw4 :: ·) ((ws_app iw5 _ (by kernel_rfl)).trans (congrArg (iw5 :: ·) ((ws_app iw6 _ (by kernel_rfl)).trans (congrArg (iw6 :: ·) ((ws_app iw7 _ (by kernel_rfl)).trans (congrArg (iw7 :: ·) ((ws_app iw8 _ (by kernel_rfl)).trans (congrArg (iw8 :: ·) ((ws_app iw9 _ (by kernel_rfl)).trans (congrArg (iw9 :: ·) (ws_end iw10 (by kernel_rfl))))))))))))))))))))))
theorem initB : behindMainWord [iw0, iw1, iw2, iw3, iw4, iw5, iw6, iw7, iw8, iw9, iw10] = [iw2, iw3, iw4, iw5, iw6, iw7, iw8, iw9, iw10] := by kernel_rfl
theorem initS : stripLifts liftWords [iw2, iw3, iw4, iw5, iw6, iw7, iw8, iw9, iw10] = ([], [iw2, iw3, iw4, iw5, iw6, iw7, iw8, iw9, iw10]) := by kernel_rfl
theorem may_of (P : Program) (c : List Char) (rest : List (List Char)) (h : behindMainWord (wordsSigns P.initOrder.toList) = c :: rest) (hs : stripLifts liftWords (c :: rest) = ([], c :: rest)) (hc : c = "cut".toList) (hl : P.laysLater = false) (hr : P.bearsReflect = false) (hd : P.doorFits [] = true) : P.mayEnter = true := by
  unfold Program.mayEnter
  rw [h]
  dsimp only
  rw [hs]
  dsimp only
  rw [hd, hl, hr, hc]
  simp
theorem lift_of (P : Program) (c : List Char) (rest : List (List Char)) (h : behindMainWord (wordsSigns P.initOrder.toList) = c :: rest) (hs : stripLifts liftWords (c :: rest) = ([], c :: rest)) (hn : (some c == some "carried".toList) = false) : P.liftsFinal = false := by
  have hh : P.headLifts = [] := by
    unfold Program.headLifts
    rw [h, hs]
    show (if _ then ([] : List String) else []) = []
    split <;> rfl
  unfold Program.liftsFinal
  rw [h, hh]
  simp only [List.head?_cons, hn]
  simp
theorem make_of (P : Program) (c : List Char) (rest : List (List Char)) (h : behindMainWord (wordsSigns P.initOrder.toList) = c :: rest) (h1 : (c == "gc".toList || c == "spec".toList) = false) (h2 : (c == "cut".toList) = true) : P.make = some .cut := by
  unfold Program.make
  rw [h]
  dsimp only
  rw [h1, h2]
  simp
theorem initH : behindMainWord (wordsSigns Tryz.prog.initOrder.toList) = [iw2, iw3, iw4, iw5, iw6, iw7, iw8, iw9, iw10] := by rw [initT, initW, initB]
theorem may : Tryz.prog.mayEnter = true := may_of _ iw2 _ initH initS (by kernel_rfl) (by kernel_rfl) (by kernel_rfl) (by kernel_rfl)
theorem lift : Tryz.prog.liftsFinal = false := lift_of _ iw2 _ initH initS (by kernel_rfl)
theorem made : Tryz.prog.make = some .cut := make_of _ iw2 _ initH (by kernel_rfl) (by kernel_rfl)
theorem closed : joinedFacts Tryz.prog 7 Tryz.f7 (Rows.OpenSpec.upto Rows.fnEveryScheduleSpec).bare Rows.fnEveryScheduleUptoRow = true := by
  unfold joinedFacts
  rw [may, lift, made]
  kernel_rfl
theorem over : Rows.fnEveryScheduleUptoRow.holds Tryz.pinned (Rows.OpenSpec.upto Rows.fnEveryScheduleSpec) :=
  OpenClaim.holds_of_cond 7 Tryz.f7 rfl rfl rfl rfl rfl rfl rfl ⟨rfl, rfl, rfl, rfl, rfl⟩ rfl rfl rfl rfl rfl (by kernel_rfl) Tryz.func7 closed
    (of_decide_eq_true (by kernel_rfl)) (by unfold Func.isWrapper; first | (rw [if_pos (by decide +kernel)]; kernel_rfl) | (rw [if_neg (by decide +kernel)]; exact ⟨rfl, rfl⟩))
    (fun os started H enc _ F => by rw [OpenClaim.pre_eq_preRow]; exact lifted os started H enc F)
theorem proved : Rows.FnEveryScheduleUptoSaid := over
end Go.Proofs.YtheldhohhpoloaaGreatDoor.fnEverySchedule
namespace Go.Proofs.YtheldhohhpoloaaGreatDoor
/-- The tied card, under a short name, for the claim. -/
theorem fnEverySchedule_holds : Rows.FnEveryScheduleUptoCardSaid :=
  Claim7.holds_tied_plain_at .later [] [.data, .data, .data, .data, .data, .pinned] true (true, "0e3dd5b472c7855fe068fc0293e7581ac6e02c6bbb0cbdd40c4f424ce82e240e") false fnEverySchedule.proved (fun _ h => by cases h) (by kernel_rfl) (fun _ h => by cases h) fnEveryScheduleUpto_row_tie rfl ⟨rfl, rfl⟩ (by kernel_rfl) rfl
    (fun f fn hf hfn => by
      obtain rfl : f = 7 := Option.some.inj ((show Tryz.prog.funcNamed "loop.example/cellcollector/laws.FnEverySchedule" = some 7 by kernel_rfl).symm.trans hf) |>.symm
      obtain rfl : fn = Tryz.f7 := (Option.some.inj (Tryz.func7.symm.trans hfn)).symm
      exact ⟨by kernel_rfl, fun j t ht => by
        rw [Tryz.params7] at ht
        have hm : t ∈ [9, 9, 9] := by simpa using Array.mem_of_getElem? ht
        have hall : ([9, 9, 9].all fun u => !Tryz.prog.wantsStandIn u) = true := by kernel_rfl
        exact (show Tryz.prog.wantsStandIn t = false by simpa using List.all_eq_true.1 hall t hm)⟩)
    (by kernel_rfl)
#print axioms fnEverySchedule_holds
end Go.Proofs.YtheldhohhpoloaaGreatDoor
