/-
  Sl, the law's wrapper: from a function's contract to the given row. Any program.
-/
import Derived.Test.YteomgcebbjoklaaSlJ
import Derived.WalkKit
import Derived.ProofKit
import Derived.OpenShut
import Derived.Carry
import Derived.HandedShaped
namespace Go.Sl
open Go Go.ChangeShapes Go.WideShapes Go.ChangeAt Go.RowKit
set_option linter.unusedVariables false
universe u
section
variable {H : Type} {enc : TypeId × Value → H} {P : Program}

theorem trodAll_stays (hl : laidOutB P = true) {W W' : World} (hs : ∀ p : MemPlace, p.block < W.heap.size → W.sameAt W' p) {sp : Nat → Bool} :
    ∀ {ts : List TypeId} {vs : List Value} {ds : List (DataW H)} {ps : List MemPlace}, ts.all (fun t => P.readableRec t && decide (t < P.types.size)) = true →
    DataW.TrodAll enc P W 0 (fun _ => true) true ts vs ds ps → (∀ p ∈ ps, sp p.block = true) → (∀ p ∈ ps, p.block < W.heap.size) → DataW.TrodAll enc P W' 0 sp true ts vs ds ps
  | [], [], [], _, _, h, _, _ => h
  | [], [], _ :: _, _, _, h, _, _ => h.elim
  | [], _ :: _, _, _, _, h, _, _ => h.elim
  | _ :: _, [], _, _, _, h, _, _ => h.elim
  | _ :: _, _ :: _, [], _, _, h, _, _ => h.elim
  | t :: ts, v :: vs, d :: ds, ps, hr, ⟨p, q, h1, h2, e⟩, hsp, hlt => by
    simp only [List.all_cons, Bool.and_eq_true, decide_eq_true_eq] at hr
    refine ⟨p, q, WideElems.Trod_stays hl hr.1.1 hr.1.2 h1 (fun x hx => hs x (hlt x (by rw [e]; simp [hx]))) (fun x hx => hsp x (by rw [e]; simp [hx])), trodAll_stays hl hs hr.2 h2 (fun x hx => hsp x (by rw [e]; simp [hx])) (fun x hx => hlt x (by rw [e]; simp [hx])), e⟩
theorem trodAll_length {W : World} {base : Nat} {sp : Nat → Bool} {hd : Bool} : ∀ {ts : List TypeId} {vs : List Value} {ds : List (DataW H)} {ps : List MemPlace}, DataW.TrodAll enc P W base sp hd ts vs ds ps → ds.length = ts.length ∧ vs.length = ts.length
  | [], [], [], _, _ => ⟨rfl, rfl⟩
  | [], [], _ :: _, _, h => h.elim
  | [], _ :: _, _, _, h => h.elim
  | _ :: _, [], _, _, h => h.elim
  | _ :: _, _ :: _, [], _, h => h.elim
  | t :: ts, v :: vs, d :: ds, ps, ⟨p, q, h1, h2, e⟩ => by
    have := trodAll_length h2
    simp [this.1, this.2]

theorem post_true {f : Func} {s : ChangeSpec} {apart fresh handsOn again : Bool} {W W' : World} {args : Array Value} {ds gs : List (DataW H)} {before : List MemPlace} {tb : TypeId}
    (hl : laidOutB P = true) (hrow : f.params.toList.all (fun t => P.readableRec t && decide (t < P.types.size)) = true) (hres : f.resultTypes = #[tb]) (hbool : P.underlying tb = some .bool) (hv : s.vars = [])
    (hs : s.fn H ds = { results := [.lit (.bool true)], args := ds })
    (hW : DataW.Whole enc P f.params.toList s.vars apart W args.toList ds gs before)
    (h1 : W'.os = W.os) (h2 : W'.output = W.output) (hsame : ∀ (i : Nat) (o : Obj), W.heap[i]? = some o → W'.heap[i]? = some o) :
    s.post enc P f apart fresh handsOn again W args (.bool true) W' := by
  have hblk : ∀ i, i < W.heap.size → W'.heap[i]? = W.heap[i]? := fun i hi => by rw [hsame i W.heap[i] (by simp [hi])]; simp [hi]
  have hsz : W.heap.size ≤ W'.heap.size := Nat.le_of_not_lt fun hlt => by
    have h := hblk W'.heap.size hlt
    simp [hlt] at h
  have hst : ∀ p : MemPlace, p.block < W.heap.size → W.sameAt W' p := fun p hp => by
    cases p with
    | cell b o => exact World.cell?_of_block (w := W) (hblk b hp)
    | map b => exact hblk b hp
  have hkept : ∀ may, W.keptBut W' may := fun may => ⟨h1, h2, fun i hi => by rw [hblk i hi]; split <;> simp_all⟩
  have hlt := hW.lt
  have hW0 := hW
  obtain ⟨p, q, hA, hV, rfl, hfz, hn⟩ := hW
  rw [hv] at hV
  obtain ⟨rfl, rfl⟩ := trodVars_none hV
  simp only [List.append_nil] at hlt hfz hn hW0
  have hargs : ∀ sp : Nat → Bool, (∀ x ∈ p, sp x.block = true) → DataW.TrodAll enc P W' 0 sp true f.params.toList args.toList (s.fn H (ds ++ [])).args p := fun sp hsp => by
    rw [List.append_nil, hs]; exact trodAll_stays hl hst hrow hA hsp hlt
  have hvars : ∀ sp : Nat → Bool, DataW.TrodVars enc P W' sp s.vars (s.fn H (ds ++ [])).vars [] := fun sp => by
    rw [List.append_nil, hs, hv]; rfl
  have hresT : ∀ (b : Nat) (sp : Nat → Bool) (hd : Bool), DataW.TrodAll enc P W' b sp hd f.resultTypes.toList ((Value.bool true).resultList f.resultTypes.size) (s.fn H (ds ++ [])).results [] := fun b sp hd => by
    rw [List.append_nil, hs, hres]; exact trodAll_cons_mk (shut_bool hbool true) trodAll_mk0
  refine ⟨ds, [], p, [], p, [], hW0, hresT _ _ _, hargs _ (fun x hx => by simpa using hlt x hx), hvars _, hkept _, fun _ => ?_⟩
  refine ⟨ok_one hres rfl (okWide_bool_mk hbool _), _, _, ([] ++ p) ++ [], ⟨[] ++ p, [], trodAll_append (hargs _ (fun _ _ => rfl)) (hresT _ _ _), hvars _, rfl, ?_, ?_⟩, ?_⟩
  · intro b off hp
    have hp' : MemPlace.cell b off ∈ p := by simpa using hp
    rw [World.frozen?_of_block (w := W) (hblk b (hlt _ hp'))]
    exact hfz b off hp'
  · intro ha
    simpa using hn ha
  · intro x hx _
    simpa using hx
end

/-- THE ROW's STEP, from the law function's contract. -/
theorem law_lifted {H : Type} {enc : TypeId × Value → H} {C : Checked} {os : Os} {f : FuncId} {fn : Func} {s : ChangeSpec} {apart fresh handsOn again : Bool} {conds : List PathCond} {tb : TypeId}
    (own : ownKnob C.prog.godebug = none) (started : os.Started) (noInit : C.prog.inits.idxOf? f = none) (hfn : C.prog.funcs[f]? = some fn)
    (hl : laidOutB C.prog = true) (hrow : fn.params.toList.all (fun t => C.prog.readableRec t && decide (t < C.prog.types.size)) = true) (hres : fn.resultTypes = #[tb]) (hbool : C.prog.underlying tb = some .bool) (hv : s.vars = [])
    (hs : ∀ ds : List (DataW H), ds.length = fn.params.toList.length → s.fn H ds = { results := [.lit (.bool true)], args := ds })
    (witness : ∃ (w : World) (tape : Tape) (i : Input), w.os = os ∧ (w.forCall tape i).Shaped C.prog ∧ i.vars = [] ∧ Input.okWide C.prog (w.forCall tape i) .any w.heap.size f i ∧
      s.pre6 enc C.prog fn conds apart (w.forCall tape i).memory i.args ∧ ({} : Assume).holds C.prog (lone (Frame.enter C.prog f i.args .normal) [] (w.forCall tape i)))
    (walk : ∀ (W : World) (base : Nat) (vs : List Value) (ds : List (DataW H)) (p : List MemPlace), W.ShapedOpen C.prog → (DataW.weightsEach C.prog fn.params.toList ds).all (· ≤ reachBytes) = true → (∀ (j : Nat) t v, fn.params[j]? = some t → vs[j]? = some v → Value.okWide C.prog W .any base t v) →
      DataW.TrodAll enc C.prog W 0 (fun _ => true) true fn.params.toList vs ds p → ∃ (β : Type) (post : β → HP), Fn C.prog f vs (Sl.all W) β (fun _ => .bool true) post ∧ ∀ b, Ent (post b) (Sl.all W)) :
    ReturnsInHanded {} C os f .any (s.pre6 enc C.prog fn conds apart) (s.post enc C.prog fn apart fresh handsOn again) := by
  refine returnsInHanded_of_change_shaped own started noInit hfn witness ?_
  intro W base args ds gs before hval hW _ hsz hsh _
  have hW' := hW
  obtain ⟨p, q, hA, hV, e, hfz, hn⟩ := hW
  rw [hv] at hV
  obtain ⟨rfl, rfl⟩ := trodVars_none hV
  rw [show s.plain.varTypes C.prog = [] by rw [show s.plain.varTypes C.prog = s.vars.filterMap _ from rfl, hv]; rfl, List.append_nil, List.append_nil] at hsz
  obtain ⟨β, post, hf, hp⟩ := walk W base args.toList ds p hsh hsz (fun j t v h1 h2 => hval j t v h1 (by simpa using h2)) hA
  have hc := hf.calls ⟨W.os, W.output⟩ emp W (by rw [star_emp]; exact St.all W)
  simp only [Array.toArray_toList] at hc
  refine hc.mono fun e' W' ⟨b, he, hst⟩ => ?_
  subst he
  have hst' := hst.mono (Ent.left (hp b))
  rw [star_comm] at hst'
  exact ⟨_, rfl, post_true hl hrow hres hbool hv (hs ds (trodAll_length hA).1) hW' hst'.1 hst'.2.1 hst'.all_same⟩

section
variable {H : Type} {enc : TypeId × Value → H} {P : Program} {W : World} {t e : TypeId} {v : Value} {d : DataW H} {p : List MemPlace}
theorem rd_all {a : Addr} (h : W.cell? a = some v) : RdA (Sl.all W) a v := fun x hx => by
  have hx' : x = _ := hx
  unfold cellH
  rw [hx']
  unfold World.cell? at h
  simp only
  cases ho : W.heap[a.block]? with
  | none => rw [ho] at h; cases h
  | some o =>
    rw [ho] at h
    cases o <;> first | exact h | cases h
/-- The datum of a slice of n elements. -/
def Len (d : DataW H) (n : Nat) : Prop := n = 0 ∨ ∃ el sp, d = .slice el sp ∧ el.length = n
theorem Len.sized {ts : List TypeId} {ds : List (DataW H)} {n : Nat} (h : Len d n) (hz : (DataW.weightsEach P ts ds).all (· ≤ reachBytes) = true) {j : Nat} (ht : ts[j]? = some t) (hd : ds[j]? = some d) (hu : P.underlying t = some (.slice e)) : n * P.bytesOf e ≤ 140737488351232 := by
  rcases h with rfl | ⟨el, sp, rfl, rfl⟩
  · simp
  · have := sized_slice hz ht hd hu
    have h2 : el.length * P.bytesOf e ≤ (el.length + sp.length) * P.bytesOf e := Nat.mul_le_mul_right _ (by omega)
    have h3 : reachBytes = 140737488351232 := rfl
    omega
theorem ro_ints {k : IntKind} (ht : P.underlying t = some (.slice e)) (he : P.underlying e = some (.int k)) (hc : P.cellsOf e = 1) {base : Nat} (hv : Value.okWide P W .any base t v) (h : DataW.Trod enc P W 0 (fun _ => true) true t v d p) :
    ∃ (a : Option Addr) (c : Nat) (l : List Int), v = .slice a l.length c ∧ l.length ≤ 9223372036854775807 ∧ Ro (Sl.all W) a l.length 1 (l.map (.int k)) ∧ (∀ n ∈ l, (Lit.int k n).wf = true) ∧ Len d l.length := by
  obtain ⟨a0, len, cap, rfl⟩ := okWide_slice ht hv
  obtain ⟨fuel, hf⟩ := h
  rcases open_ints ht he hc hf with ⟨hcs, hx⟩ | ⟨a, len', cap', zs, hcs, _, hl, hm, hz, hx, hcell, hwz⟩
  · simp [Value.cells] at hcs
    obtain ⟨rfl, rfl, rfl⟩ := hcs
    exact ⟨none, 0, [], rfl, by simp, ⟨by simp, fun j u hj => by simp at hj⟩, by simp, .inl rfl⟩
  · simp [Value.cells] at hcs
    obtain ⟨rfl, rfl, rfl⟩ := hcs
    simp at hz
    have hlen : (zs.take len).length = len := by simp; omega
    refine ⟨some a, cap, zs.take len, by rw [hlen], by rw [hlen]; unfold maxLen at hm; omega, ⟨by simp, fun j u hj => ⟨rfl, ?_⟩⟩, fun n hn => hwz n (List.mem_of_mem_take hn), .inr ⟨_, _, congrArg Prod.fst hx, by simp [lits]⟩⟩
    rw [List.getElem?_map] at hj
    have hj2 : ∃ q, (zs.take len)[j]? = some q ∧ Value.int k q = u := by simpa using hj
    obtain ⟨q, hq, rfl⟩ := hj2
    have hjlt : j < len := by rw [← hlen]; exact (List.getElem?_eq_some_iff.1 hq).1
    rw [List.getElem?_take, if_pos hjlt] at hq
    have := hcell j (by omega)
    rw [List.getD_eq_getElem?_getD, hq] at this
    exact rd_all this
theorem flatMap_get {α : Type} {dc : α → List Value} {s : Nat} (hs : ∀ x, (dc x).length = s) : ∀ (l : List α) (j : Nat) (u : Value), (l.flatMap dc)[j]? = some u → ∃ i o x, l[i]? = some x ∧ (dc x)[o]? = some u ∧ j = i * s + o ∧ o < s
  | [], j, u, h => by simp at h
  | x :: l, j, u, h => by
    rw [List.flatMap_cons] at h
    by_cases hj : j < s
    · rw [List.getElem?_append_left (by rw [hs]; exact hj)] at h
      exact ⟨0, j, x, rfl, h, by simp, hj⟩
    · rw [List.getElem?_append_right (by rw [hs]; omega), hs] at h
      obtain ⟨i, o, y, h1, h2, h3, h4⟩ := flatMap_get hs l _ u h
      exact ⟨i + 1, o, y, by simpa using h1, h2, by rw [Nat.add_mul]; omega, h4⟩
theorem flatMap_len {α : Type} {dc : α → List Value} {s : Nat} (hs : ∀ x, (dc x).length = s) : ∀ (l : List α), (l.flatMap dc).length = l.length * s
  | [] => by simp
  | x :: l => by rw [List.flatMap_cons, List.length_append, hs, flatMap_len hs l, List.length_cons, Nat.add_mul]; omega
/-- An argument that is a slice, each element by its own cells. -/
theorem ro_slice {α : Type} [Inhabited α] {dc : α → List Value} {I : α → Prop} {s : Nat} (ht : P.underlying t = some (.slice e)) (hc : P.cellsOf e = s) (hs : ∀ x, (dc x).length = s)
    (hel : ∀ n cs y, DataW.trod enc P W 0 (fun _ => true) true n e cs = some y → ∃ x, I x ∧ cs = dc x)
    {base : Nat} (hv : Value.okWide P W .any base t v) (h : DataW.Trod enc P W 0 (fun _ => true) true t v d p) :
    ∃ (a : Option Addr) (c : Nat) (l : List α), v = .slice a l.length c ∧ l.length ≤ 9223372036854775807 ∧ Ro (Sl.all W) a l.length s (l.flatMap dc) ∧ (∀ x ∈ l, I x) ∧ Len d l.length := by
  obtain ⟨a0, len, cap, rfl⟩ := okWide_slice ht hv
  obtain ⟨fuel, hf⟩ := h
  rcases DataW.trod_slice ht hf with ⟨hcs, hx⟩ | ⟨a, len', cap', elems, rest, n, _, hcs, hx, hb, hl, hm, hlen, hel', _, _⟩
  · simp [Value.cells] at hcs
    obtain ⟨rfl, rfl, rfl⟩ := hcs
    exact ⟨none, 0, [], rfl, by simp, ⟨by simp, fun j u hj => by simp at hj⟩, by simp, .inl rfl⟩
  · simp [Value.cells] at hcs
    obtain ⟨rfl, rfl, rfl⟩ := hcs
    have each : ∀ i, ∃ x, i < len → I x ∧ W.cells? 0 (a.add (i * s)) s = some (dc x) := fun i => by
      by_cases hi : i < len
      · have h1 := hel' i hi
        rw [hc, List.getElem?_eq_getElem (by omega)] at h1
        obtain ⟨cs, h2, h3⟩ := Option.bind_eq_some_iff.1 h1
        obtain ⟨x, h4, h5⟩ := hel _ _ _ h3
        exact ⟨x, fun _ => ⟨h4, by rw [h2, h5]⟩⟩
      · exact ⟨default, fun h => absurd h hi⟩
    let l : List α := (List.range len).map fun i => Classical.choose (each i)
    have hll : l.length = len := by simp [l]
    have hget : ∀ i x, l[i]? = some x → i < len ∧ I x ∧ W.cells? 0 (a.add (i * s)) s = some (dc x) := fun i x hx => by
      have hi : i < len := by have := (List.getElem?_eq_some_iff.1 hx).1; omega
      have : x = Classical.choose (each i) := by simpa [l, hi, eq_comm] using hx
      subst this
      exact ⟨hi, Classical.choose_spec (each i) hi⟩
    refine ⟨some a, cap, l, by rw [hll], by rw [hll]; unfold maxLen at hm; omega, ⟨flatMap_len hs l, fun j u hj => ⟨rfl, ?_⟩⟩, fun x hx => ?_, .inr ⟨_, _, congrArg Prod.fst hx, by simp [hll, hlen]⟩⟩
    · obtain ⟨i, o, x, h1, h2, rfl, h4⟩ := flatMap_get hs l j u hj
      obtain ⟨h5, h6, h7⟩ := hget i x h1
      have h8 := (World.cells?_some h7).2.2 o h4
      rw [addr_add2, h2] at h8
      exact rd_all h8
    · obtain ⟨i, hi⟩ := List.getElem?_of_mem hx
      exact (hget i x hi).2.1
theorem ro_bools (ht : P.underlying t = some (.slice e)) (he : P.underlying e = some .bool) (hc : P.cellsOf e = 1) {base : Nat} (hv : Value.okWide P W .any base t v) (h : DataW.Trod enc P W 0 (fun _ => true) true t v d p) :
    ∃ (a : Option Addr) (c : Nat) (l : List Bool), v = .slice a l.length c ∧ l.length ≤ 9223372036854775807 ∧ Ro (Sl.all W) a l.length 1 (l.map .bool) ∧ Len d l.length := by
  obtain ⟨a, c, l, h1, h2, h3, _, h4⟩ := ro_slice (s := 1) (dc := fun b => [Value.bool b]) (I := fun _ => True) ht hc (fun _ => rfl) (fun n cs y hy => by
    obtain ⟨b, hb, _⟩ := DataW.trod_bool he hy
    exact ⟨b, trivial, hb⟩) hv h
  have e : ∀ l : List Bool, l.flatMap (fun b => [Value.bool b]) = l.map .bool := fun l => by induction l <;> simp_all
  rw [e] at h3
  exact ⟨a, c, l, h1, h2, h3, h4⟩
end
end Go.Sl
