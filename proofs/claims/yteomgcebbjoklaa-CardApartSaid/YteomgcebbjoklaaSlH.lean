/-
  Sl, eighth part: regions that draw their order. What is read lies in a part B that stays as it is ('held'); operations that only reckon or read B are taken first, as soon as they may come; the others, one after another.
-/
import Derived.Test.YteomgcebbjoklaaSlG
namespace Go.Sl
open Go
set_option linter.unusedVariables false
universe u

def noQ : Exit → Act → World → Prop := fun _ _ _ => False

section
variable {F : Fence} {P : Program} {ops : Array Oper} {md : Region.Mode} {Q : Exit → Act → World → Prop} {g : Gh} {B : HP}

theorem wpIn_of_noQ {o : Oper} {a : Act} {w : World} {K : Act → World → Prop} (h : o.wpIn F 0 P a w K noQ) : o.wpIn F 0 P a w K Q := by
  unfold Oper.wpIn at *
  refine ⟨h.1, ?_⟩
  have h := h.2
  generalize (o.semAt F.round a.eval).run P w = r at *
  cases r with
  | ok x w' =>
    cases x <;> simp only [Oper.uponIn] at h ⊢ <;>
      first
        | exact h
        | exact ⟨h.1, CallsIn.mono h.2 (fun e w'' he => by cases e <;> first | exact he | exact he.elim | (obtain ⟨_, _, hf⟩ := he; exact hf.elim))⟩
        | exact ⟨h.1, RowsIn.mono h.2 (fun _ _ he => he)⟩
        | exact ⟨h.1, RoundIn.mono h.2 (fun e w'' he => by cases e <;> first | exact he | exact he.elim | (obtain ⟨_, _, hf⟩ := he; exact hf.elim))⟩
  | halt x w' => cases x <;> simp only [Oper.uponIn] at h ⊢ <;> first | exact h | exact h.elim

/-- Operation i comes up; the heap holds H. What is only read lies in B. -/
def hStep (F : Fence) (P : Program) (ops : Array Oper) (g : Gh) (B : HP) (i : Nat) (K : Act → HP → Prop) (a : Act) (H : HP) : Prop :=
  match ops[i]? with
  | none => K a H
  | some o => if Region.wanted o (yielded ops a.tmps) then
      (∃ v, (∀ w, St g w B → (execOp a.eval o).run P w = .ok (.value v) w) ∧ K (a.put o.dst v) H) ∨
      (∀ w, St g w H → o.wpIn F 0 P a w (fun a' w' => ∃ H', St g w' H' ∧ K a' H') noQ)
    else K (a.put o.dst undef) H

theorem hStep_mono {i : Nat} {a : Act} {H : HP} {K K' : Act → HP → Prop} (h : ∀ a H, K a H → K' a H) (hh : hStep F P ops g B i K a H) : hStep F P ops g B i K' a H := by
  unfold hStep at *
  split
  · next ho => simp only [ho] at hh; exact h _ _ hh
  · next o ho =>
    simp only [ho] at hh
    split
    · next hw =>
      simp only [hw, if_true] at hh
      rcases hh with ⟨v, h1, h2⟩ | h1
      · exact .inl ⟨v, h1, h _ _ h2⟩
      · exact .inr fun w hs => Oper.wpIn_mono (fun a' w' ⟨H', h3, h4⟩ => ⟨H', h3, h _ _ h4⟩) (h1 w hs)
    · next hw => simp only [hw] at hh; exact h _ _ hh

/-- Whatever comes up from here on. While something is still to come (or there is no last one that may turn B: 'tl'), B is held. -/
def hAny (F : Fence) (P : Program) (md : Region.Mode) (ops : Array Oper) (g : Gh) (B : HP) (tl : Bool) (Qn : Act → HP → Prop) : Nat → Array Bool → Act → HP → Prop
  | 0, listed, a, H => (tl = false → Ent H B) ∧ Region.ready md ops listed = [] ∧ Qn a H
  | fuel + 1, listed, a, H => Ent H B ∧ (Region.ready md ops listed = [] → Qn a H) ∧ ∀ i ∈ Region.ready md ops listed, hStep F P ops g B i (hAny F P md ops g B tl Qn fuel (listed.setIfInBounds i true)) a H

/-- No operation of the region is a defer statement, or a select. -/
def tame (ops : Array Oper) : Bool := ops.all fun o => match o.op with | .defer _ => false | .select _ _ => false | _ => true
theorem tame_defer (h : tame ops = true) {i : Nat} {o : Oper} (hi : ops[i]? = some o) : ∀ c, o.op ≠ .defer c := by
  intro c hc
  have := Array.all_eq_true'.1 h o (Array.mem_of_getElem? hi)
  rw [hc] at this; cases this
theorem tame_select (h : tame ops = true) {i : Nat} {o : Oper} (hi : ops[i]? = some o) : ∀ cs b, o.op ≠ .select cs b := by
  intro c b hc
  have := Array.all_eq_true'.1 h o (Array.mem_of_getElem? hi)
  rw [hc] at this; cases this

theorem wpOpIn_of_hStep (hF : ∀ f, F.fn f) (ht : tame ops = true) {i : Nat} {K : Act → HP → Prop} {K' : Act → World → Prop} {a : Act} {H : HP} {w : World} (hK : ∀ a H w, St g w H → K a H → K' a w)
    (hs : St g w H) (hB : Ent H B) (h : hStep F P ops g B i K a H) : wpOpIn F 0 P ops Q i K' a w := by
  unfold hStep at h
  unfold wpOpIn
  split
  · next ho => simp only [ho] at h; exact hK _ _ _ hs h
  · next o ho =>
    simp only [ho] at h
    split
    · next hw =>
      simp only [hw, if_true] at h
      rcases h with ⟨v, h1, h2⟩ | h1
      · unfold Oper.wpIn
        refine ⟨fun f _ => hF f, ?_⟩
        rw [semAt_eq (tame_defer ht ho), h1 _ (hs.mono hB)]
        exact hK _ _ _ hs h2
      · exact wpIn_of_noQ (Oper.wpIn_mono (fun a' w' ⟨H', h3, h4⟩ => hK _ _ _ h3 h4) (h1 w hs))
    · next hw => simp only [hw] at h; exact ⟨fun f _ => hF f, hK _ _ _ hs h⟩

theorem wpAnyIn_of_hAny (hF : ∀ f, F.fn f) (ht : tame ops = true) {tl : Bool} {Qn : Act → HP → Prop} (hQ : ∀ a H w, St g w H → Qn a H → Q .normal a w) : ∀ (fuel : Nat) (listed : Array Bool) (a : Act) (H : HP) (w : World), St g w H →
    hAny F P md ops g B tl Qn fuel listed a H → wpAnyIn F 0 P md ops Q fuel listed a w
  | 0, _, _, _, _, hs, h => ⟨h.2.1, hQ _ _ _ hs h.2.2⟩
  | fuel + 1, _, _, _, _, hs, h => ⟨fun h0 => hQ _ _ _ hs (h.2.1 h0), fun i hi => wpOpIn_of_hStep hF ht (fun a' H' w' hs' h' => wpAnyIn_of_hAny hF ht hQ fuel _ a' H' w' hs' h') hs h.1 (h.2.2 i hi)⟩

/-- In state a the operation only reads, and yields v. -/
def YQ (P : Program) (ops : Array Oper) (g : Gh) (B : HP) (o : Oper) (v : Value) (a : Act) : Prop :=
  (Region.wanted o (yielded ops a.tmps) = true ∧ ∀ w, St g w B → (execOp a.eval o).run P w = .ok (.value v) w) ∨ (Region.wanted o (yielded ops a.tmps) = false ∧ v = undef)
theorem YQ.step {i : Nat} {o : Oper} {v : Value} {a : Act} {H : HP} (hi : ops[i]? = some o) (hy : YQ P ops g B o v a) {K : Act → HP → Prop} (h : K (a.put o.dst v) H) : hStep F P ops g B i K a H := by
  unfold hStep
  simp only [hi]
  rcases hy with ⟨hw, hv⟩ | ⟨hw, rfl⟩
  · simp only [hw, if_true]; exact .inl ⟨v, hv, h⟩
  · simp only [hw, Bool.false_eq_true, if_false]; exact h
theorem YQ.same {o : Oper} {v : Value} {a a' : Act} (hy : YQ P ops g B o v a) (he : execOp a'.eval o = execOp a.eval o)
    (hw : Region.wanted o (yielded ops a'.tmps) = Region.wanted o (yielded ops a.tmps)) : YQ P ops g B o v a' := by
  unfold YQ at *
  rw [he, hw]
  exact hy

theorem hStep_put (ht : tame ops = true) {i j : Nat} {oi oj : Oper} {v : Value} (hi : ops[i]? = some oi) (hj : ops[j]? = some oj) (hap : oi.apart ops oj = true) {K : Act → HP → Prop} {a : Act} {H : HP}
    (hF : ∀ f, F.fn f) (hy : YQ P ops g B oi v a) (h : hStep F P ops g B j K (a.put oi.dst v) H) : hStep F P ops g B j (fun a' H' => YQ P ops g B oi v a' ∧ K (a'.put oi.dst v) H') a H := by
  obtain ⟨h1, h2, h3⟩ := Oper.apart_spec hap
  have hsi := tame_select ht hi
  have hsj := tame_select ht hj
  have hdj := tame_defer ht hj
  have keep : ∀ (a : Act), YQ P ops g B oi v a → ∀ u, YQ P ops g B oi v (a.put oj.dst u) := fun a hy u =>
    hy.same (execOp_put oi hsi a oj.dst u h3) (wanted_put oi a oj.dst u h3)
  unfold hStep at *
  simp only [hj] at *
  rw [wanted_put oj a oi.dst v h1] at h
  split
  · next hw =>
    simp only [hw, if_true] at h
    rcases h with ⟨u, h4, h5⟩ | h4
    · refine .inl ⟨u, fun w hs => ?_, keep a hy u, by rw [← Act.put_comm a v u h2]; exact h5⟩
      have := h4 w hs
      rwa [execOp_put oj hsj a oi.dst v h1] at this
    · refine .inr fun w hs => ?_
      have h := h4 w hs
      unfold Oper.wpIn at *
      refine ⟨fun f _ => hF f, ?_⟩
      have h := h.2
      rw [semAt_eq hdj, execOp_put oj hsj a oi.dst v h1] at h
      rw [semAt_eq hdj]
      generalize (execOp a.eval oj).run P w = r at *
      cases r with
      | ok x w' =>
        cases x <;> simp only [Oper.uponIn] at h ⊢
        case value u =>
          obtain ⟨H', h6, h7⟩ := h
          exact ⟨H', h6, keep a hy u, by rw [← Act.put_comm a v u h2]; exact h7⟩
        case skip =>
          obtain ⟨H', h6, h7⟩ := h
          exact ⟨H', h6, keep a hy _, by rw [← Act.put_comm a v undef h2]; exact h7⟩
        case defer d =>
          obtain ⟨H', h6, h7⟩ := h
          refine ⟨H', h6, hy.same ?_ ?_, ?_⟩
          · exact (execOp_put oi hsi { a with defers := d :: a.defers } oj.dst undef h3)
          · exact (wanted_put oi { a with defers := d :: a.defers } oj.dst undef h3)
          · rw [← Act.put_comm _ v undef h2]; cases e : oi.dst <;> (rw [e] at h7; exact h7)
        case enter f args =>
          refine ⟨h.1, CallsIn.mono h.2 fun e w'' he => ?_⟩
          cases e with
          | returned u =>
            obtain ⟨H', h6, h7⟩ := he
            exact ⟨H', h6, keep a hy u, by rw [← Act.put_comm a v u h2]; exact h7⟩
          | panicked c => exact he.elim
          | outgrown => exact he
        case row row args => exact ⟨h.1, RowsIn.mono h.2 fun u w'' ⟨H', h6, h7⟩ => ⟨H', h6, keep a hy u, by rw [← Act.put_comm a v u h2]; exact h7⟩⟩
        case round l f tmps assign body =>
          refine ⟨h.1, RoundIn.mono h.2 fun e w'' he => ?_⟩
          cases e with
          | returned u =>
            obtain ⟨H', h6, h7⟩ := he
            exact ⟨H', h6, keep a hy u, by rw [← Act.put_comm a v u h2]; exact h7⟩
          | panicked c => exact he.elim
          | outgrown => exact he
      | halt x w' => cases x <;> simp only [Oper.uponIn] at h ⊢ <;> first | exact h.elim | exact h
  · next hw =>
    simp only [hw] at h
    exact ⟨keep a hy _, by rw [← Act.put_comm a v undef h2]; exact h⟩

/-- Whatever is listed, what it waits for is. -/
def Shut (md : Region.Mode) (ops : Array Oper) (listed : Array Bool) : Prop := ∀ k ok, ops[k]? = some ok → listed.getD k false = true → ∀ e ∈ ok.after, Region.binds md e = true → listed.getD e.on false = true
theorem Shut.put {listed : Array Bool} (h : Shut md ops listed) {i : Nat} (hi : i ∈ Region.ready md ops listed) : Shut md ops (listed.setIfInBounds i true) := by
  intro k ok hk hl e he hb
  by_cases hki : i = k
  · subst hki
    obtain ⟨_, o, ho, hall⟩ := mem_ready.1 hi
    rw [hk] at ho; cases ho
    exact getD_set_true (hall e he hb)
  · rw [getD_set_ne false hki] at hl
    exact getD_set_true (h k ok hk hl e he hb)
/-- Operation j waits for operation k. -/
def waits (md : Region.Mode) (ops : Array Oper) : Nat → Nat → Nat → Bool
  | 0, _, _ => false
  | f + 1, j, k => match ops[j]? with
    | none => false
    | some o => o.after.any fun e => Region.binds md e && (e.on == k || waits md ops f e.on k)
theorem waits_listed {listed : Array Bool} (hs : Shut md ops listed) : ∀ (f j k : Nat), waits md ops f j k = true → listed.getD j false = true → listed.getD k false = true
  | 0, _, _, h, _ => by cases h
  | f + 1, j, k, h, hl => by
    simp only [waits] at h
    cases ho : ops[j]? with
    | none => rw [ho] at h; cases h
    | some o =>
      rw [ho] at h
      obtain ⟨e, he, h1⟩ := Array.any_eq_true'.1 h
      simp only [Bool.and_eq_true, Bool.or_eq_true, beq_iff_eq] at h1
      have h2 := hs j o ho hl e he h1.1
      rcases h1.2 with h3 | h3
      · rw [← h3]; exact h2
      · exact waits_listed hs f e.on k h3 h2
theorem waits_ready {listed : Array Bool} (hs : Shut md ops listed) {f j k : Nat} (h : waits md ops f j k = true) (hr : j ∈ Region.ready md ops listed) : listed.getD k false = true := by
  cases f with
  | zero => cases h
  | succ f =>
    simp only [waits] at h
    obtain ⟨_, o, ho, hall⟩ := mem_ready.1 hr
    rw [ho] at h
    obtain ⟨e, he, h1⟩ := Array.any_eq_true'.1 h
    simp only [Bool.and_eq_true, Bool.or_eq_true, beq_iff_eq] at h1
    have h2 := hall e he h1.1
    rcases h1.2 with h3 | h3
    · rw [← h3]; exact h2
    · exact waits_listed hs f e.on k h3 h2
/-- The last one: it waits for all others. -/
def lastOk (md : Region.Mode) (ops : Array Oper) (jt : Nat) : Bool := (List.range ops.size).all fun k => k == jt || waits md ops 4 jt k

theorem getD_true_of_false {listed : Array Bool} {k : Nat} (h : listed.getD k true = false) : listed.getD k false = false := by
  rcases Nat.lt_or_ge k listed.size with h' | h'
  · simp [h'] at h ⊢; exact h
  · simp [Array.getElem?_eq_none h'] at h

theorem countP_but {p p' : Nat → Bool} {j : Nat} (hp : p j = true) (hp' : p' j = false) (hs : ∀ k, k ≠ j → p' k = p k) : ∀ n, j < n → (List.range n).countP p' + 1 = (List.range n).countP p
  | 0, h => by omega
  | n + 1, h => by
    simp only [List.range_succ, List.countP_append, List.countP_cons, List.countP_nil, Nat.zero_add]
    by_cases e : j = n
    · subst e
      have : (List.range j).countP p' = (List.range j).countP p := List.countP_congr fun k hk => by
        have := List.mem_range.1 hk
        rw [hs k (by omega)]
      rw [this, hp, hp']; simp
    · have := countP_but hp hp' hs n (by omega)
      rw [hs n (fun h => e h.symm)]
      omega
/-- How many are still to come. -/
def left (ops : Array Oper) (listed : Array Bool) : Nat := (List.range ops.size).countP fun k => !listed.getD k true
theorem left_put {listed : Array Bool} {j : Nat} (hj : j < ops.size) (hun : listed.getD j true = false) : left ops (listed.setIfInBounds j true) + 1 = left ops listed := by
  refine countP_but (j := j) ?_ ?_ (fun k hk => ?_) _ hj
  · simp only [hun, Bool.not_false]
  · have hlt : j < listed.size := by
      rcases Nat.lt_or_ge j listed.size with h' | h'
      · exact h'
      · simp [Array.getElem?_eq_none h'] at hun
    simp [hlt]
  · simp only [getD_set_ne true (Ne.symm hk)]

theorem hAny_first (ht : tame ops = true) (hF : ∀ f, F.fn f) {tl : Bool} {jt : Nat} (htl : tl = true → lastOk md ops jt = true) {Qn : Act → HP → Prop} {i : Nat} {oi : Oper} {v : Value} (hi : ops[i]? = some oi) (hit : i ≠ jt ∨ tl = false) (hjts : jt < ops.size ∨ tl = false) :
    ∀ (fuel : Nat) (listed : Array Bool) (a : Act) (H : HP), Shut md ops listed → (listed.getD jt true = false ∨ tl = false) → Ent H B → left ops listed ≤ fuel + 1 →
      (∀ j oj, ops[j]? = some oj → j ≠ i → listed.getD j true = false → (∀ e ∈ oj.after, Region.binds md e = true → e.on ≠ i) → oi.apart ops oj = true) →
      i ∈ Region.ready md ops listed → YQ P ops g B oi v a →
      hAny F P md ops g B tl Qn fuel (listed.setIfInBounds i true) (a.put oi.dst v) H → hAny F P md ops g B tl Qn (fuel + 1) listed a H := by
  intro fuel
  induction fuel with
  | zero =>
    intro listed a H _ _ hB _ _ hr hy HH
    refine ⟨hB, fun h => (by rw [h] at hr; cases hr), fun j hj => ?_⟩
    by_cases hji : j = i
    · subst hji; exact hy.step hi HH
    · have := ready_mono hj hji
      rw [HH.2.1] at this
      cases this
  | succ fuel ih =>
    intro listed a H hsh hjt hB hcnt hfree hr hy HH
    refine ⟨hB, fun h => (by rw [h] at hr; cases hr), fun j hj => ?_⟩
    by_cases hji : j = i
    · subst hji; exact hy.step hi HH
    · have h1 := HH.2.2 j (ready_mono hj hji)
      obtain ⟨hjun, oj, hoj, hall⟩ := mem_ready.1 hj
      have hjlt : j < ops.size := (Array.getElem?_eq_some_iff.1 hoj).1
      have hun_i : listed.getD i false = false := getD_true_of_false (mem_ready.1 hr).1
      -- the last one is not ready while i is to come
      have hjjt : j ≠ jt ∨ tl = false := by
        cases htb : tl with
        | false => exact .inr rfl
        | true =>
          refine .inl fun e => ?_
          subst e
          have hl := htl htb
          have hilt : i < ops.size := (Array.getElem?_eq_some_iff.1 hi).1
          have hw := List.all_eq_true.1 hl i (List.mem_range.2 hilt)
          simp only [Bool.or_eq_true, beq_iff_eq] at hw
          rcases hw with hw | hw
          · exact hji hw.symm
          · have := waits_ready hsh hw hj
            rw [hun_i] at this; cases this
      have hnot : ∀ e ∈ oj.after, Region.binds md e = true → e.on ≠ i := fun e he hb heq => by
        have h1 := hall e he hb
        rw [heq, hun_i] at h1; cases h1
      have h2 := hStep_put ht hi hoj (hfree j oj hoj hji hjun hnot) hF hy h1
      have hfree' : ∀ k ok, ops[k]? = some ok → k ≠ i → (listed.setIfInBounds j true).getD k true = false →
          (∀ e ∈ ok.after, Region.binds md e = true → e.on ≠ i) → oi.apart ops ok = true := fun k ok hk hki hun hno => by
        refine hfree k ok hk hki ?_ hno
        by_cases hjk : j = k
        · subst hjk; exact hjun
        · rw [getD_set_ne true hjk] at hun; exact hun
      refine hStep_mono (fun a' H' h3 => ?_) h2
      have h4 := h3.2
      have hB' : Ent H' B := by
        cases fuel with
        | succ k => exact h4.1
        | zero =>
          rcases hjjt with hjjt | htb
          · rcases hit with hit | htb
            · rcases hjt with hjt | htb
              · rcases hjts with hjts | htb
                · -- three are to come
                  have hi_un := (mem_ready.1 hr).1
                  have e1 := left_put (ops := ops) (listed := listed) (j := i) (Array.getElem?_eq_some_iff.1 hi).1 hi_un
                  have e2 := left_put (ops := ops) (listed := listed.setIfInBounds i true) (j := j) hjlt (by rw [getD_set_ne true (Ne.symm hji)]; exact hjun)
                  have e3 := left_put (ops := ops) (listed := (listed.setIfInBounds i true).setIfInBounds j true) (j := jt) hjts (by rw [getD_set_ne true hjjt, getD_set_ne true hit]; exact hjt)
                  omega
                · exact h4.1 htb
              · exact h4.1 htb
            · exact h4.1 htb
          · exact h4.1 htb
      refine ih (listed.setIfInBounds j true) a' H' (hsh.put hj) ?_ hB' ?_ hfree' (ready_mono hr (Ne.symm hji)) h3.1 ?_
      · rcases hjt with h5 | h5
        · rcases hjjt with h6 | h6
          · exact .inl (by rw [getD_set_ne true h6]; exact h5)
          · exact .inr h6
        · exact .inr h5
      · have := left_put (ops := ops) (listed := listed) (j := j) hjlt hjun
        omega
      · rw [Array.setIfInBounds_comm _ _ hji]
        exact h4
end

/-- The order in which the walk goes: index, and whether it is one that turns something ('loud'). Checked by reckoning. -/
def ordOk (ops : Array Oper) (tl : Bool) (jt : Nat) : List (Nat × Bool) → Array Bool → Bool
  | [], listed => (Region.ready .any ops listed).isEmpty
  | (i, false) :: l, listed => (Region.ready .any ops listed).contains i && Region.free .any ops listed i && (i != jt || !tl) && ordOk ops tl jt l (listed.setIfInBounds i true)
  | (i, true) :: l, listed => (Region.ready .any ops listed == [i]) && (i != jt || !tl || l.isEmpty) && ordOk ops tl jt l (listed.setIfInBounds i true)

section
variable {P : Program} {r : Option Nat} {n : Nat} {Q : PostT} {ρ : Env} {ds : List Deferred} {H R A B X : HP} {all : List Oper} {d : Option Nat} {t t' : TypeId} {pos : String} {aft : Array Edge} {v : Value} {tl : Bool} {jt i : Nat} {ord : List (Nat × Bool)}

/-- The guard, if there is one, says yes. -/
def Gy (all : List Oper) (ρ : Env) : Option (Nat × Bool) → Prop
  | none => True
  | some (j, b) => ∃ oj dj, all[j]? = some oj ∧ oj.dst = some dj ∧ lk ρ dj = some (.bool b)

def Dw (P : Program) (r : Option Nat) (n : Nat) (all : List Oper) (B : HP) (tl : Bool) (jt : Nat) (Q : PostT) (ds : List Deferred) (ord : List (Nat × Bool)) (ρ : Env) (X : HP) : Prop :=
  (tl = true → lastOk .any all.toArray jt = true) → (jt < all.length ∨ tl = false) → tame all.toArray = true → ∀ g a listed, ordOk all.toArray tl jt ord listed = true → Shut .any all.toArray listed → (ord = [] ∨ listed.getD jt true = false ∨ tl = false) → left all.toArray listed ≤ ord.length →
    Rep n ρ a → a.defers = ds → hAny (fen r) P .any all.toArray g B tl (fun a H => ∃ ρ, Rep n ρ a ∧ a.defers = ds ∧ Q .normal ρ ds H) ord.length listed a (B * X)

theorem Dw.nil (h : Q .normal ρ ds (B * X)) (htl : tl = false) : Dw P r n all B tl jt Q ds [] ρ X := fun _ _ _ g a listed hok _ _ _ hr hd =>
  ⟨fun _ => .drop _ _, by simpa [ordOk] using hok, ρ, hr, hd, h⟩
theorem Dw.nilE (h : Q .normal ρ ds B) (htl : tl = false) : Dw P r n all B tl jt Q ds [] ρ emp := Dw.nil (by rw [star_emp]; exact h) htl
/-- One that only reads. -/
theorem Dw.q {op : Op} {gd : Option (Nat × Bool)} (hi : all[i]? = some ⟨d, op, t, pos, aft, gd⟩) (hd : dOk n d = true)
    (hg : Gy all ρ gd)
    (hpu : Pu P n ρ B op t v) (h : Dw P r n all B tl jt Q ds ord (putE d v ρ) X) : Dw P r n all B tl jt Q ds ((i, false) :: ord) ρ X := by
  intro hl hj ht g a listed hok hsh hjt hle hr hds
  simp only [ordOk, Bool.and_eq_true, Bool.or_eq_true] at hok
  obtain ⟨⟨⟨hrd, hfr⟩, hit⟩, hok'⟩ := hok
  have hjt : listed.getD jt true = false ∨ tl = false := by rcases hjt with h | h; cases h; exact h
  have hrd' : i ∈ Region.ready .any all.toArray listed := by simpa using hrd
  have hi' : all.toArray[i]? = some ⟨d, op, t, pos, aft, gd⟩ := by simpa using hi
  have hlt := (Array.getElem?_eq_some_iff.1 hi').1
  have hit' : i ≠ jt ∨ tl = false := by simpa using hit
  have hw : Region.wanted ⟨d, op, t, pos, aft, gd⟩ (yielded all.toArray a.tmps) = true := by
    cases gd with
    | none => rfl
    | some jb =>
      obtain ⟨j, b⟩ := jb
      obtain ⟨oj, dj, h1, h2, h3⟩ := hg
      have := hr.2 dj _ h3
      simp [Region.wanted, yielded, h1, h2, this]
  have hlp := left_put (ops := all.toArray) hlt (mem_ready.1 hrd').1
  refine hAny_first ht (fun _ => trivial) hl hi' hit' (by rcases hj with hj | hj; exact .inl (by simpa using hj); exact .inr hj) ord.length listed a (B * X) hsh hjt (.drop _ _) (by simpa using hle) (Region.free_spec hi' hfr) hrd' (.inl ⟨hw, fun w hs => hpu.2 _ _ _ _ g w a hr hs⟩) ?_
  refine h hl hj ht g _ _ hok' (hsh.put hrd') ?_ (by simp only [List.length_cons] at hle; omega) (hr.putE hd v) (by cases d <;> exact hds)
  rcases hit' with h1 | h1
  · rcases hjt with h2 | h2
    · exact .inr (.inl (by rw [getD_set_ne true h1]; exact h2))
    · exact .inr (.inr h2)
  · exact .inr (.inr h1)
/-- One that its guard passes over. -/
theorem Dw.s {op : Op} {j : Nat} {b : Bool} {oj : Oper} {dj : Nat} (hi : all[i]? = some ⟨d, op, t, pos, aft, some (j, b)⟩) (hd : dOk n d = true)
    (h1 : all[j]? = some oj) (h2 : oj.dst = some dj) (h3 : lk ρ dj = some (.bool (!b))) (h : Dw P r n all B tl jt Q ds ord (putE d undef ρ) X) : Dw P r n all B tl jt Q ds ((i, false) :: ord) ρ X := by
  intro hl hj ht g a listed hok hsh hjt hle hr hds
  simp only [ordOk, Bool.and_eq_true, Bool.or_eq_true] at hok
  obtain ⟨⟨⟨hrd, hfr⟩, hit⟩, hok'⟩ := hok
  have hjt : listed.getD jt true = false ∨ tl = false := by rcases hjt with h | h; cases h; exact h
  have hrd' : i ∈ Region.ready .any all.toArray listed := by simpa using hrd
  have hi' : all.toArray[i]? = some ⟨d, op, t, pos, aft, some (j, b)⟩ := by simpa using hi
  have hlt := (Array.getElem?_eq_some_iff.1 hi').1
  have hit' : i ≠ jt ∨ tl = false := by simpa using hit
  have hw : Region.wanted ⟨d, op, t, pos, aft, some (j, b)⟩ (yielded all.toArray a.tmps) = false := by
    have := hr.2 dj _ h3
    simp [Region.wanted, yielded, h1, h2, this]
  have hlp := left_put (ops := all.toArray) hlt (mem_ready.1 hrd').1
  refine hAny_first ht (fun _ => trivial) hl hi' hit' (by rcases hj with hj | hj; exact .inl (by simpa using hj); exact .inr hj) ord.length listed a (B * X) hsh hjt (.drop _ _) (by simpa using hle) (Region.free_spec hi' hfr) hrd' (.inr ⟨hw, rfl⟩) ?_
  refine h hl hj ht g _ _ hok' (hsh.put hrd') ?_ (by simp only [List.length_cons] at hle; omega) (hr.putE hd undef) (by cases d <;> exact hds)
  rcases hit' with h1 | h1
  · rcases hjt with h2 | h2
    · exact .inr (.inl (by rw [getD_set_ne true h1]; exact h2))
    · exact .inr (.inr h2)
  · exact .inr (.inr h1)
/-- One that turns something, alone. -/
def loudQ (P : Program) (r : Option Nat) (n : Nat) (all : List Oper) (B : HP) (tl : Bool) (jt : Nat) (Q : PostT) (ds : List Deferred) (ord : List (Nat × Bool)) : PostT := fun e ρ ds' H => e = .normal ∧ ds' = ds ∧
  ((∃ X, H = B * X ∧ Dw P r n all B tl jt Q ds ord ρ X) ∨ (ord = [] ∧ tl = true ∧ Q .normal ρ ds H))
theorem loudQ.go (hp : Pk H B X) (h : Dw P r n all B tl jt Q ds ord ρ X) : loudQ P r n all B tl jt Q ds ord .normal ρ ds H := ⟨rfl, rfl, .inl ⟨X, hp, h⟩⟩
theorem loudQ.go2 {B1 B2 R1 : HP} (hp : Pk H B1 R1) (hp2 : Pk R1 B2 X) (h : Dw P r n all (B1 * B2) tl jt Q ds ord ρ X) : loudQ P r n all (B1 * B2) tl jt Q ds ord .normal ρ ds H :=
  ⟨rfl, rfl, .inl ⟨X, by unfold Pk at *; rw [hp, hp2, star_assoc], h⟩⟩
theorem loudQ.last (h : Q .normal ρ ds H) : loudQ P r n all B true jt Q ds [] .normal ρ ds H := ⟨rfl, rfl, .inr ⟨rfl, rfl, h⟩⟩
theorem Dw.l {op : Op} {gd : Option (Nat × Bool)} (hi : all[i]? = some ⟨d, op, t, pos, aft, gd⟩)
    (hg : Gy all ρ gd)
    (h : Ow P r n all [⟨d, op, t, pos, aft, none⟩] (loudQ P r n all B tl jt Q ds ord) ρ ds (B * X)) : Dw P r n all B tl jt Q ds ((i, true) :: ord) ρ X := by
  intro hl hj ht g a listed hok hsh hjt hle hr hds
  simp only [ordOk, Bool.and_eq_true, Bool.or_eq_true] at hok
  obtain ⟨⟨hrd, hjt'⟩, hok'⟩ := hok
  have hrd' : Region.ready .any all.toArray listed = [i] := by simpa using hrd
  have hmem : i ∈ Region.ready .any all.toArray listed := by rw [hrd']; simp
  have hi' : all.toArray[i]? = some ⟨d, op, t, pos, aft, gd⟩ := by simpa using hi
  have hlt := (Array.getElem?_eq_some_iff.1 hi').1
  have hlp := left_put (ops := all.toArray) hlt (mem_ready.1 hmem).1
  have hw : Region.wanted ⟨d, op, t, pos, aft, gd⟩ (yielded all.toArray a.tmps) = true := by
    cases gd with
    | none => rfl
    | some jb =>
      obtain ⟨j, b⟩ := jb
      obtain ⟨oj, dj, h1, h2, h3⟩ := hg
      have := hr.2 dj _ h3
      simp [Region.wanted, yielded, h1, h2, this]
  change hAny (fen r) P .any all.toArray g B tl _ (ord.length + 1) listed a (B * X)
  refine And.intro (.drop _ _) (And.intro (fun h0 => by rw [hrd'] at h0; cases h0) (fun k hk => ?_))
  rw [hrd'] at hk
  obtain rfl : k = i := by simpa using hk
  unfold hStep
  simp only [hi', hw, if_true]
  refine .inr fun w hs => ?_
  have h1 := h g w a hr hds hs
  simp only [wpListIn, Region.wanted, if_true] at h1
  have hno : ∀ e a w, e ≠ .normal → ¬ toQ n g (loudQ P r n all B tl jt Q ds ord) e a w := fun e a w hne ⟨_, _, _, _, h5⟩ => hne h5.1
  -- the guard plays no part in what is done
  have h2 : Oper.wpIn (fen r) 0 P ⟨d, op, t, pos, aft, gd⟩ a w (toQ n g (loudQ P r n all B tl jt Q ds ord) .normal) (toQ n g (loudQ P r n all B tl jt Q ds ord)) := h1
  have h3 : Oper.wpIn (fen r) 0 P ⟨d, op, t, pos, aft, gd⟩ a w (toQ n g (loudQ P r n all B tl jt Q ds ord) .normal) noQ := by
    unfold Oper.wpIn at *
    refine ⟨h2.1, ?_⟩
    have h2 := h2.2
    generalize ((⟨d, op, t, pos, aft, gd⟩ : Oper).semAt (fen r).round a.eval).run P w = x at *
    cases x with
    | ok x w' =>
      cases x <;> simp only [Oper.uponIn] at h2 ⊢ <;>
        first
          | exact h2
          | exact ⟨h2.1, CallsIn.mono h2.2 (fun e w'' he => by cases e <;> first | exact he | exact (hno _ _ _ (by simp) he).elim | (obtain ⟨_, _, hf⟩ := he; exact (hno _ _ _ (by simp) hf).elim))⟩
          | exact ⟨h2.1, RoundIn.mono h2.2 (fun e w'' he => by cases e <;> first | exact he | exact (hno _ _ _ (by simp) he).elim | (obtain ⟨_, _, hf⟩ := he; exact (hno _ _ _ (by simp) hf).elim))⟩
    | halt x w' => cases x <;> simp only [Oper.uponIn] at h2 ⊢ <;> first | exact h2 | exact (hno _ _ _ (by simp) h2).elim
  refine Oper.wpIn_mono ?_ h3
  rintro a' w' ⟨ρ', H', h4, h5, _, h6, h7⟩
  rcases h7 with ⟨X', rfl, h8⟩ | ⟨rfl, htl, h8⟩
  · refine ⟨B * X', h5, h8 hl hj ht g a' _ hok' (hsh.put hmem) ?_ (by simp only [List.length_cons] at hle; omega) h4 h6⟩
    rcases hjt with h9 | h9 | h9
    · cases h9
    · by_cases hkj : k = jt
      · simp only [hkj, bne_self_eq_false] at hjt'
        rcases hjt' with (h10 | h10) | h10
        · cases h10
        · exact .inr (.inr (by simpa using h10))
        · exact .inl (by simpa using h10)
      · exact .inr (.inl (by rw [getD_set_ne true hkj]; exact h9))
    · exact .inr (.inr h9)
  · refine ⟨H', h5, ?_⟩
    show (tl = false → Ent H' B) ∧ _ ∧ _
    exact ⟨(fun h => by rw [htl] at h; cases h), (by simpa [ordOk] using hok'), ρ', h4, h6, h6 ▸ h8⟩

theorem Cw.draw {id : Nat} (B X : HP) (tl : Bool) (jt : Nat) (ord : List (Nat × Bool)) (hH : Ent H (B * X)) (hm : P.follows .mixedOrders = true) (hok : (tame all.toArray && ordOk all.toArray tl jt ord (Array.replicate all.length false) && (!tl || (lastOk .any all.toArray jt && Nat.blt jt all.length)) && Nat.beq ord.length all.length) = true)
    (h : Dw P r n all B tl jt Q ds ord ρ X) : Cw P r n (.region id all.toArray true) Q ρ ds H := by
  simp only [Bool.and_eq_true, Bool.or_eq_true] at hok
  obtain ⟨⟨⟨h1, h2⟩, h3⟩, h4⟩ := hok
  have h4 := Nat.eq_of_beq_eq_true h4
  intro g w a hr hd hs
  refine wpIn_region_any hm ?_
  have hh := h (fun htl => by rw [htl] at h3; simp at h3; exact h3.1) (by cases tl with | false => exact .inr rfl | true => simp at h3; exact .inl h3.2) h1 g a _ h2
    (fun k ok hk hl e he hb => by
      rcases Nat.lt_or_ge k all.length with h' | h'
      · simp [h'] at hl
      · simp [Nat.not_lt.2 h'] at hl)
    (by
      rcases Nat.lt_or_ge jt all.length with h' | h'
      · exact .inr (.inl (by simp [h']))
      · cases tl with
        | false => exact .inr (.inr rfl)
        | true => simp at h3; omega)
    (by unfold left; rw [h4]; exact Nat.le_trans List.countP_le_length (by simp)) hr hd
  rw [h4] at hh
  exact wpAnyIn_of_hAny (fun _ => trivial) h1 (fun a H w hs ⟨ρ, h5, h6, h7⟩ => ⟨ρ, H, h5, hs, h6 ▸ h7⟩) _ _ _ _ _ (St.drew _ (hs.mono hH)) hh
/-- .. where all only read. -/
theorem Cw.drawQ {id : Nat} (ord : List (Nat × Bool)) (hm : P.follows .mixedOrders = true) (hok : (tame all.toArray && ordOk all.toArray false 0 ord (Array.replicate all.length false) && (!false || (lastOk .any all.toArray 0 && Nat.blt 0 all.length)) && Nat.beq ord.length all.length) = true)
    (h : Dw P r n all H false 0 Q ds ord ρ emp) : Cw P r n (.region id all.toArray true) Q ρ ds H := Cw.draw H emp false 0 ord (.of_eq (star_emp H).symm) hm hok h
end
end Go.Sl
