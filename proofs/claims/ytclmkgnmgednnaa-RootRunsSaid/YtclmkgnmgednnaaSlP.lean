/-
  Sl, the wrapper of a law whose row lists a package-level variable. Any program.
-/
import Derived.Test.YtclmkgnmgednnaaSlL
import Derived.Test.YtclmkgnmgednnaaSlN
import Derived.OpenShut
import Derived.Deep.DeepHandedRow
import Derived.Lib.LaidTab
import Derived.SevenTiedAt
import Derived.Deep.DeepWitnessRowRef
namespace Go.Sl
open Go Go.ChangeShapes Go.WideShapes Go.ChangeAt Go.RowKit
set_option linter.unusedVariables false
/-- THE ROW's STEP, the listed variables known. -/
theorem law_laid {H : Type} {enc : TypeId × Value → H} {C : Checked} {os : Os} {f : FuncId} {fn : Func} {s : ChangeSpec} {apart fresh handsOn again : Bool} {conds : List PathCond} {laid : List (String × DataW Unit)} {tb : TypeId} {F : Stop.Interp}
    (own : ownKnob C.prog.godebug = none) (started : os.Started) (noInit : C.prog.inits.idxOf? f = none) (hfn : C.prog.funcs[f]? = some fn)
    (hl : laidOutB C.prog = true) (hrow : fn.params.toList.all (fun t => C.prog.readableRec t && decide (t < C.prog.types.size)) = true) (hres : fn.resultTypes = #[tb]) (hbool : C.prog.underlying tb = some .bool) (hv : s.vars = [])
    (hs : ∀ ds : List (DataW H), ds.length = fn.params.toList.length → s.fn H ds = { results := [.lit (.bool true)], args := ds })
    (witness : ∃ (w : World) (tape : Tape) (i : Input), w.os = os ∧ (w.forCall tape i).Shaped C.prog ∧ i.vars = [] ∧ Input.okWide C.prog (w.forCall tape i) .any w.heap.size f i ∧
      (OpenSpec.ofChange s).preRow enc C.prog fn conds apart laid (w.forCall tape i).memory i.args ∧ ({} : Assume).holds C.prog (lone (Frame.enter C.prog f i.args .normal) [] (w.forCall tape i)))
    (walk : ∀ (W : World) (base : Nat) (vs : List Value) (ds : List (DataW H)) (p : List MemPlace), laidMetH C.prog laid W → (DataW.weightsEach C.prog fn.params.toList ds).all (· ≤ reachBytes) = true → (∀ (j : Nat) t v, fn.params[j]? = some t → vs[j]? = some v → Value.okWide C.prog W .any base t v) →
      DataW.TrodAll enc C.prog W 0 (fun _ => true) true fn.params.toList vs ds p → ∃ (β : Type) (post : β → HP), Fn C.prog f vs (Sl.all W) β (fun _ => .bool true) post ∧ ∀ b, Ent (post b) (Sl.all W)) :
    ReturnsInHanded {} C os f .any ((OpenSpec.ofChange s).preRow enc C.prog fn conds apart laid) (((OpenSpec.ofChange s).at F).post enc C.prog fn apart fresh handsOn again) := by
  refine returnsInHanded_of_row (s := OpenSpec.ofChange s) own started noInit hfn witness ?_
  intro W base args ds gs before hval hW _ _ hsz hL _ _
  have hW' := hW
  obtain ⟨p, q, hA, hV, e, hfz, hn⟩ := hW
  rw [show (OpenSpec.ofChange s).vars = s.vars from rfl, hv] at hV
  obtain ⟨rfl, rfl⟩ := trodVars_none hV
  rw [show (OpenSpec.ofChange s).bare.plain.varTypes C.prog = [] by rw [show (OpenSpec.ofChange s).bare.plain.varTypes C.prog = s.vars.filterMap _ from rfl, hv]; rfl, List.append_nil, List.append_nil] at hsz
  obtain ⟨β, post, hf, hp⟩ := walk W base args.toList ds p hL hsz (fun j t v h1 h2 => hval j t v h1 (by simpa using h2)) hA
  have hc := hf.calls ⟨W.os, W.output⟩ emp W (by rw [star_emp]; exact St.all W)
  simp only [Array.toArray_toList] at hc
  refine hc.mono fun e' W' ⟨b, he, hst⟩ => ?_
  subst he
  have hst' := hst.mono (Ent.left (hp b))
  rw [star_comm] at hst'
  exact ⟨_, rfl, post_true hl hrow hres hbool hv (hs ds (trodAll_length hA).1) hW' hst'.1 hst'.2.1 hst'.all_same⟩
section
variable {H : Type} {enc : TypeId × Value → H} {P : Program} {W : World} {t e : TypeId} {v : Value} {d : DataW H} {p : List MemPlace}
theorem okWide_array {n : Nat} {r : Reach} {b0 : Nat} (ht : P.underlying t = some (.array n e)) (h : Value.okWide P W r b0 t v) : ∃ cs, v = .agg cs ∧ cs.size = P.cellsOf t := by
  simp only [Value.okWide, ht] at h
  obtain ⟨cs, h1, h2, _⟩ := h
  exact ⟨cs, h1, h2⟩
/-- An argument that is a struct, or an array: its cells. -/
theorem open_agg (hag : (∃ fs, P.underlying t = some (.struct fs)) ∨ ∃ n e, P.underlying t = some (.array n e)) {b0 : Nat} (hv : Value.okWide P W .any b0 t v) (h : DataW.Trod enc P W 0 (fun _ => true) true t v d p) :
    ∃ (cs : List Value) (n : Nat), v = .agg cs.toArray ∧ DataW.trod enc P W 0 (fun _ => true) true n t cs = some (d, p) := by
  obtain ⟨fuel, hf⟩ := h
  have hv' : ∃ cs : Array Value, v = .agg cs := by
    rcases hag with ⟨fs, hu⟩ | ⟨n, e, hu⟩
    · obtain ⟨cs, h1, _⟩ := okWide_struct hu hv; exact ⟨cs, h1⟩
    · obtain ⟨cs, h1, _⟩ := okWide_array hu hv; exact ⟨cs, h1⟩
  obtain ⟨cs, rfl⟩ := hv'
  exact ⟨cs.toList, fuel, by simp, by simpa [Value.cells] using hf⟩
theorem wf_u8 {n : Int} (h : (Lit.int .u8 n).wf = true) : 0 ≤ n ∧ n ≤ 255 := by simpa [Lit.wf, IntKind.min, IntKind.max, IntKind.signed, IntKind.bits] using h
theorem wf_i64 {n : Int} (h : (Lit.int .i64 n).wf = true) : -9223372036854775808 ≤ n ∧ n ≤ 9223372036854775807 := by simpa [Lit.wf, IntKind.min, IntKind.max, IntKind.signed, IntKind.bits] using h
/-- What a listed variable reads as. -/
theorem laid_head {name : String} {dt : DataW Unit} {rest : List (String × DataW Unit)} {g : Nat} {t : TypeId} (hh : ((name, dt) :: rest).filter (fun x => x.2.handleName?.isSome) = [])
    (hg : P.globalNamed name = some g) (hty : (P.globals[g]?).map (·.type) = some t) (h : laidMetH P ((name, dt) :: rest) W) :
    ∃ (cs : Array Value) (fuel : Nat) (p : List MemPlace), DataW.trod (fun _ => ()) P W 0 (fun _ => true) false fuel t cs.toList = some (dt, p) ∧ ∀ i : Nat, W.cell? ⟨g, i, none⟩ = cs[i]? := by
  unfold laidMetH at h
  rw [hh] at h
  obtain ⟨ps, ⟨g', t', cs, fuel, p, q, hg', ht', hvar, hd, _, _⟩, _⟩ := h
  obtain rfl := Option.some.inj (hg.symm.trans hg')
  obtain rfl := Option.some.inj (hty.symm.trans ht')
  exact ⟨cs, fuel, p, hd, fun i => World.var?_cell hg hvar i⟩
end
end Go.Sl
