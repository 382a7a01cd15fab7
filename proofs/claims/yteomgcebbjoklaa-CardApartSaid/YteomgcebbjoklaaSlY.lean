/- Regions that draw their order, in two parts: what is read ahead of one operation (jt) that turns it, and what comes behind. -/
import Derived.Test.YteomgcebbjoklaaSlV
namespace Go.Sl
open Go
set_option linter.unusedVariables false
universe u
section
variable {F : Fence} {P : Program} {ops : Array Oper} {md : Region.Mode} {Q : Exit → Act → World → Prop} {g : Gh} {B : HP}
theorem hStep_put2 {B2 : HP} (ht : tame ops = true) {i j : Nat} {oi oj : Oper} {v : Value} (hi : ops[i]? = some oi) (hj : ops[j]? = some oj) (hap : oi.apart ops oj = true) {K : Act → HP → Prop} {a : Act} {H : HP}
    (hF : ∀ f, F.fn f) (hy : YQ P ops g B2 oi v a) (h : hStep F P ops g B j K (a.put oi.dst v) H) : hStep F P ops g B j (fun a' H' => YQ P ops g B2 oi v a' ∧ K (a'.put oi.dst v) H') a H := by
  obtain ⟨h1, h2, h3⟩ := Oper.apart_spec hap
  have hsi := tame_select ht hi
  have hsj := tame_select ht hj
  have hdj := tame_defer ht hj
  have keep : ∀ (a : Act), YQ P ops g B2 oi v a → ∀ u, YQ P ops g B2 oi v (a.put oj.dst u) := fun a hy u =>
    hy.same (execOp_put oi hsi a oj.dst u h3) (wanted_put oi a oj.dst u h3)
  unfold hStep at *
  simp only [hj] at *
  rw [wanted_put oj a oi.dst v h1] at h
  split
  · next hw =>
    simp only [hw, if_true] at h
    rcases h with ⟨u, h4, h5⟩ | h4
    · refine .inl ⟨u, fun w hs => ?_, keep a hy u, by rw [← Act.put_comm a v u h2]; exact h5⟩
      have := h4 w hs
      rwa [execOp_put oj hsj a oi.dst v h1] at this
    · refine .inr fun w hs => ?_
      have h := h4 w hs
      unfold Oper.wpIn at *
      refine ⟨fun f _ => hF f, ?_⟩
      have h := h.2
      rw [semAt_eq hdj, execOp_put oj hsj a oi.dst v h1] at h
      rw [semAt_eq hdj]
      generalize (execOp a.eval oj).run P w = r at *
      cases r with
      | ok x w' =>
        cases x <;> simp only [Oper.uponIn] at h ⊢
        case value u =>
          obtain ⟨H', h6, h7⟩ := h
          exact ⟨H', h6, keep a hy u, by rw [← Act.put_comm a v u h2]; exact h7⟩
        case skip =>
          obtain ⟨H', h6, h7⟩ := h
          exact ⟨H', h6, keep a hy _, by rw [← Act.put_comm a v undef h2]; exact h7⟩
        case defer d =>
          obtain ⟨H', h6, h7⟩ := h
          refine ⟨H', h6, hy.same ?_ ?_, ?_⟩
          · exact (execOp_put oi hsi { a with defers := d :: a.defers } oj.dst undef h3)
          · exact (wanted_put oi { a with defers := d :: a.defers } oj.dst undef h3)
          · rw [← Act.put_comm _ v undef h2]; cases e : oi.dst <;> (rw [e] at h7; exact h7)
        case enter f args =>
          refine ⟨h.1, CallsIn.mono h.2 fun e w'' he => ?_⟩
          cases e with
          | returned u =>
            obtain ⟨H', h6, h7⟩ := he
            exact ⟨H', h6, keep a hy u, by rw [← Act.put_comm a v u h2]; exact h7⟩
          | panicked c => exact he.elim
          | outgrown => exact he
        case row row args => exact ⟨h.1, RowsIn.mono h.2 fun u w'' ⟨H', h6, h7⟩ => ⟨H', h6, keep a hy u, by rw [← Act.put_comm a v u h2]; exact h7⟩⟩
        case round l f tmps assign body =>
          refine ⟨h.1, RoundIn.mono h.2 fun e w'' he => ?_⟩
          cases e with
          | returned u =>
            obtain ⟨H', h6, h7⟩ := he
            exact ⟨H', h6, keep a hy u, by rw [← Act.put_comm a v u h2]; exact h7⟩
          | panicked c => exact he.elim
          | outgrown => exact he
      | halt x w' => cases x <;> simp only [Oper.uponIn] at h ⊢ <;> first | exact h.elim | exact h
  · next hw =>
    simp only [hw] at h
    exact ⟨keep a hy _, by rw [← Act.put_comm a v undef h2]; exact h⟩

theorem YQ.mono {B2 : HP} {o : Oper} {v : Value} {a : Act} (he : Ent B B2) (h : YQ P ops g B2 o v a) : YQ P ops g B o v a := by
  rcases h with ⟨h1, h2⟩ | h
  · exact .inl ⟨h1, fun w hs => h2 w (hs.mono he)⟩
  · exact .inr h
theorem Ent.emp (A : HP) : Ent A Sl.emp := fun h _ => Exists.intro (fun _ => none) (And.intro (fun i o hi => absurd hi (by simp)) rfl)
/-- What is held: B, until jt is listed; then nothing. -/
def Bfj (B : HP) (jt : Nat) (l : Array Bool) : HP := bif l.getD jt false then emp else B
def hAnyF (F : Fence) (P : Program) (md : Region.Mode) (ops : Array Oper) (g : Gh) (B : HP) (jt : Nat) (Qn : Act → HP → Prop) : Nat → Array Bool → Act → HP → Prop
  | 0, listed, a, H => Ent H (Bfj B jt listed) ∧ Region.ready md ops listed = [] ∧ Qn a H
  | fuel + 1, listed, a, H => Ent H (Bfj B jt listed) ∧ (Region.ready md ops listed = [] → Qn a H) ∧ ∀ i ∈ Region.ready md ops listed, hStep F P ops g (Bfj B jt listed) i (hAnyF F P md ops g B jt Qn fuel (listed.setIfInBounds i true)) a H
theorem hAnyF.ent {jt : Nat} {Qn : Act → HP → Prop} {fuel : Nat} {listed : Array Bool} {a : Act} {H : HP} (h : hAnyF F P md ops g B jt Qn fuel listed a H) : Ent H (Bfj B jt listed) := by
  cases fuel with
  | zero => exact h.1
  | succ k => exact h.1
theorem wpAnyIn_of_hAnyF (hF : ∀ f, F.fn f) (ht : tame ops = true) {jt : Nat} {Qn : Act → HP → Prop} (hQ : ∀ a H w, St g w H → Qn a H → Q .normal a w) : ∀ (fuel : Nat) (listed : Array Bool) (a : Act) (H : HP) (w : World), St g w H →
    hAnyF F P md ops g B jt Qn fuel listed a H → wpAnyIn F 0 P md ops Q fuel listed a w
  | 0, _, _, _, _, hs, h => ⟨h.2.1, hQ _ _ _ hs h.2.2⟩
  | fuel + 1, _, _, _, _, hs, h => ⟨fun h0 => hQ _ _ _ hs (h.2.1 h0), fun i hi => wpOpIn_of_hStep hF ht (fun a' H' w' hs' h' => wpAnyIn_of_hAnyF hF ht hQ fuel _ a' H' w' hs' h') hs h.1 (h.2.2 i hi)⟩
theorem Bfj_put {jt i : Nat} (h : i ≠ jt) (l : Array Bool) : Bfj B jt (l.setIfInBounds i true) = Bfj B jt l := by unfold Bfj; rw [getD_set_ne false h]
theorem hAnyF_first (ht : tame ops = true) (hF : ∀ f, F.fn f) {jt : Nat} {Qn : Act → HP → Prop} {i : Nat} {oi : Oper} {v : Value} {B2 : HP} (hi : ops[i]? = some oi) (hit : i ≠ jt)
    (hB2 : ∀ l, Shut md ops l → l.getD i false = false → Ent (Bfj B jt l) B2) :
    ∀ (fuel : Nat) (listed : Array Bool) (a : Act) (H : HP), Shut md ops listed → Ent H (Bfj B jt listed) →
      (∀ j oj, ops[j]? = some oj → j ≠ i → listed.getD j true = false → (∀ e ∈ oj.after, Region.binds md e = true → e.on ≠ i) → oi.apart ops oj = true) →
      i ∈ Region.ready md ops listed → YQ P ops g B2 oi v a →
      hAnyF F P md ops g B jt Qn fuel (listed.setIfInBounds i true) (a.put oi.dst v) H → hAnyF F P md ops g B jt Qn (fuel + 1) listed a H := by
  intro fuel
  induction fuel with
  | zero =>
    intro listed a H hsh hB hfree hr hy HH
    have hun : listed.getD i false = false := getD_true_of_false (mem_ready.1 hr).1
    refine ⟨hB, fun h => (by rw [h] at hr; cases hr), fun j hj => ?_⟩
    by_cases hji : j = i
    · subst hji; exact (hy.mono (hB2 _ hsh hun)).step hi HH
    · have := ready_mono hj hji
      rw [HH.2.1] at this
      cases this
  | succ fuel ih =>
    intro listed a H hsh hB hfree hr hy HH
    have hun_i : listed.getD i false = false := getD_true_of_false (mem_ready.1 hr).1
    refine ⟨hB, fun h => (by rw [h] at hr; cases hr), fun j hj => ?_⟩
    by_cases hji : j = i
    · subst hji; exact (hy.mono (hB2 _ hsh hun_i)).step hi HH
    · have h1 := HH.2.2 j (ready_mono hj hji)
      rw [Bfj_put hit] at h1
      obtain ⟨hjun, oj, hoj, hall⟩ := mem_ready.1 hj
      have hnot : ∀ e ∈ oj.after, Region.binds md e = true → e.on ≠ i := fun e he hb heq => by
        have h1 := hall e he hb
        rw [heq, hun_i] at h1; cases h1
      have h2 := hStep_put2 ht hi hoj (hfree j oj hoj hji hjun hnot) hF hy h1
      have hfree' : ∀ k ok, ops[k]? = some ok → k ≠ i → (listed.setIfInBounds j true).getD k true = false →
          (∀ e ∈ ok.after, Region.binds md e = true → e.on ≠ i) → oi.apart ops ok = true := fun k ok hk hki hun hno => by
        refine hfree k ok hk hki ?_ hno
        by_cases hjk : j = k
        · subst hjk; exact hjun
        · rw [getD_set_ne true hjk] at hun; exact hun
      refine hStep_mono (fun a' H' h3 => ?_) h2
      have h4 := h3.2
      rw [Array.setIfInBounds_comm _ _ (Ne.symm hji)] at h4
      have hB' := h4.ent
      rw [Bfj_put hit] at hB'
      exact ih (listed.setIfInBounds j true) a' H' (hsh.put hj) hB' hfree' (ready_mono hr (Ne.symm hji)) h3.1 h4
end
section
variable {P : Program} {r : Option Nat} {n : Nat} {Q : PostT} {ρ : Env} {ds : List Deferred} {H R A B X : HP} {all : List Oper} {d : Option Nat} {t t' : TypeId} {pos : String} {aft : Array Edge} {v : Value} {jt i : Nat} {ord : List (Nat × Bool)} {ph : Bool}
def held (B : HP) (ph : Bool) : HP := bif ph then emp else B
def DwF (P : Program) (r : Option Nat) (n : Nat) (all : List Oper) (B : HP) (jt : Nat) (Q : PostT) (ds : List Deferred) (ph : Bool) (ord : List (Nat × Bool)) (ρ : Env) (X : HP) : Prop :=
  tame all.toArray = true → ∀ g a listed, ordOk all.toArray false 0 ord listed = true → Shut .any all.toArray listed → listed.getD jt false = ph →
    Rep n ρ a → a.defers = ds → hAnyF (fen r) P .any all.toArray g B jt (fun a H => ∃ ρ, Rep n ρ a ∧ a.defers = ds ∧ Q .normal ρ ds H) ord.length listed a (held B ph * X)
theorem Bfj_held {l : Array Bool} (h : l.getD jt false = ph) : Bfj B jt l = held B ph := by unfold Bfj held; rw [h]
theorem DwF.nil (h : Q .normal ρ ds X) : DwF P r n all B jt Q ds true [] ρ X := fun _ g a listed hok _ hj hr hd =>
  ⟨by rw [Bfj_held hj]; exact .drop _ _, by simpa [ordOk] using hok, ρ, hr, hd, by rw [show held B true = emp from rfl, emp_star]; exact h⟩
theorem wanted_gy {op : Op} {gd : Option (Nat × Bool)} {a : Act} (hg : Gy all ρ gd) (hr : Rep n ρ a) : Region.wanted ⟨d, op, t, pos, aft, gd⟩ (yielded all.toArray a.tmps) = true := by
  cases gd with
  | none => rfl
  | some jb =>
    obtain ⟨j, b⟩ := jb
    obtain ⟨oj, dj, h1, h2, h3⟩ := hg
    have := hr.2 dj _ h3
    simp [Region.wanted, yielded, h1, h2, this]
theorem DwF.step {op : Op} {gd : Option (Nat × Bool)} {B2 : HP} (hi : all[i]? = some ⟨d, op, t, pos, aft, gd⟩) (hd : dOk n d = true) (hij : Nat.beq i jt = false)
    (hB2 : ∀ l, Shut .any all.toArray l → l.getD i false = false → Ent (Bfj B jt l) B2)
    (hy : ∀ g a, Rep n ρ a → YQ P all.toArray g B2 ⟨d, op, t, pos, aft, gd⟩ v a) (h : DwF P r n all B jt Q ds ph ord (putE d v ρ) X) : DwF P r n all B jt Q ds ph ((i, false) :: ord) ρ X := by
  intro ht g a listed hok hsh hj hr hds
  simp only [ordOk, Bool.and_eq_true, Bool.or_eq_true] at hok
  obtain ⟨⟨⟨hrd, hfr⟩, _⟩, hok'⟩ := hok
  have hne : i ≠ jt := Nat.ne_of_beq_eq_false hij
  have hrd' : i ∈ Region.ready .any all.toArray listed := by simpa using hrd
  have hi' : all.toArray[i]? = some ⟨d, op, t, pos, aft, gd⟩ := by simpa using hi
  refine hAnyF_first ht (fun _ => trivial) hi' hne hB2 ord.length listed a (held B ph * X) hsh (by rw [Bfj_held hj]; exact .drop _ _) (Region.free_spec hi' hfr) hrd' (hy g a hr) ?_
  exact h ht g _ _ hok' (hsh.put hrd') (by rw [getD_set_ne false hne]; exact hj) (hr.putE hd v) (by cases d <;> exact hds)
/-- One that only reads, and that jt waits for. -/
theorem DwF.q {op : Op} {gd : Option (Nat × Bool)} (hi : all[i]? = some ⟨d, op, t, pos, aft, gd⟩) (hd : dOk n d = true) (hij : (!Nat.beq i jt && waits .any all.toArray 12 jt i) = true) (hg : Gy all ρ gd)
    (hpu : Pu P n ρ B op t v) (h : DwF P r n all B jt Q ds ph ord (putE d v ρ) X) : DwF P r n all B jt Q ds ph ((i, false) :: ord) ρ X := by
  simp only [Bool.and_eq_true, Bool.not_eq_true'] at hij
  refine DwF.step hi hd hij.1 (B2 := B) (fun l hsh hun => ?_) (fun g a hr => .inl ⟨wanted_gy hg hr, fun w hs => hpu.2 _ _ _ _ g w a hr hs⟩) h
  have : l.getD jt false = false := by
    cases e : l.getD jt false with
    | false => rfl
    | true => have := waits_listed hsh 12 jt i hij.2 e; rw [hun] at this; cases this
  rw [Bfj_held this]; exact .refl _
/-- One that reckons only. -/
theorem DwF.f {op : Op} {gd : Option (Nat × Bool)} (hi : all[i]? = some ⟨d, op, t, pos, aft, gd⟩) (hd : dOk n d = true) (hij : Nat.beq i jt = false) (hg : Gy all ρ gd)
    (hpu : Pu P n ρ emp op t v) (h : DwF P r n all B jt Q ds ph ord (putE d v ρ) X) : DwF P r n all B jt Q ds ph ((i, false) :: ord) ρ X :=
  DwF.step hi hd hij (B2 := emp) (fun l _ _ => Ent.emp _) (fun g a hr => .inl ⟨wanted_gy hg hr, fun w hs => hpu.2 _ _ _ _ g w a hr hs⟩) h
/-- One that its guard passes over. -/
theorem DwF.s {op : Op} {j : Nat} {b : Bool} {oj : Oper} {dj : Nat} (hi : all[i]? = some ⟨d, op, t, pos, aft, some (j, b)⟩) (hd : dOk n d = true) (hij : Nat.beq i jt = false)
    (h1 : all[j]? = some oj) (h2 : oj.dst = some dj) (h3 : lk ρ dj = some (.bool (!b))) (h : DwF P r n all B jt Q ds ph ord (putE d undef ρ) X) : DwF P r n all B jt Q ds ph ((i, false) :: ord) ρ X :=
  DwF.step hi hd hij (B2 := emp) (fun l _ _ => Ent.emp _) (fun g a hr => .inr ⟨by
    have := hr.2 dj _ h3
    simp [Region.wanted, yielded, h1, h2, this], rfl⟩) h
/-- One that turns something, alone: jt itself, or one behind it. -/
def loudF (P : Program) (r : Option Nat) (n : Nat) (all : List Oper) (B : HP) (jt : Nat) (Q : PostT) (ds : List Deferred) (ord : List (Nat × Bool)) : PostT := fun e ρ ds' H => e = .normal ∧ ds' = ds ∧ DwF P r n all B jt Q ds true ord ρ H
theorem loudF.go (h : DwF P r n all B jt Q ds true ord ρ H) : loudF P r n all B jt Q ds ord .normal ρ ds H := ⟨rfl, rfl, h⟩
theorem DwF.l {op : Op} {gd : Option (Nat × Bool)} (hi : all[i]? = some ⟨d, op, t, pos, aft, gd⟩) (hg : Gy all ρ gd) (hij : (ph || Nat.beq i jt) = true)
    (h : Ow P r n all [⟨d, op, t, pos, aft, none⟩] (loudF P r n all B jt Q ds ord) ρ ds (held B ph * X)) : DwF P r n all B jt Q ds ph ((i, true) :: ord) ρ X := by
  intro ht g a listed hok hsh hj hr hds
  simp only [ordOk, Bool.and_eq_true, Bool.or_eq_true] at hok
  obtain ⟨⟨hrd, _⟩, hok'⟩ := hok
  have hrd' : Region.ready .any all.toArray listed = [i] := by simpa using hrd
  have hmem : i ∈ Region.ready .any all.toArray listed := by rw [hrd']; simp
  have hi' : all.toArray[i]? = some ⟨d, op, t, pos, aft, gd⟩ := by simpa using hi
  have hw := wanted_gy (d := d) (op := op) (t := t) (pos := pos) (aft := aft) hg hr
  have hjn : (listed.setIfInBounds i true).getD jt false = true := by
    cases ph with
    | true => exact getD_set_true hj
    | false =>
      have hij' : i = jt := Nat.eq_of_beq_eq_true (by simpa using hij)
      subst hij'
      have hun := (mem_ready.1 hmem).1
      have hlt : i < listed.size := by
        rcases Nat.lt_or_ge i listed.size with h' | h'
        · exact h'
        · simp [Array.getElem?_eq_none h'] at hun
      simp [hlt]
  change hAnyF (fen r) P .any all.toArray g B jt _ (ord.length + 1) listed a (held B ph * X)
  refine And.intro (by rw [Bfj_held hj]; exact .drop _ _) (And.intro (fun h0 => by rw [hrd'] at h0; cases h0) (fun k hk => ?_))
  rw [hrd'] at hk
  obtain rfl : k = i := by simpa using hk
  unfold hStep
  simp only [hi', hw, if_true]
  refine .inr fun w hs => ?_
  have h1 := h g w a hr hds hs
  simp only [wpListIn, Region.wanted, if_true] at h1
  have hno : ∀ e a w, e ≠ .normal → ¬ toQ n g (loudF P r n all B jt Q ds ord) e a w := fun e a w hne ⟨_, _, _, _, h5⟩ => hne h5.1
  have h2 : Oper.wpIn (fen r) 0 P ⟨d, op, t, pos, aft, gd⟩ a w (toQ n g (loudF P r n all B jt Q ds ord) .normal) (toQ n g (loudF P r n all B jt Q ds ord)) := h1
  have h3 : Oper.wpIn (fen r) 0 P ⟨d, op, t, pos, aft, gd⟩ a w (toQ n g (loudF P r n all B jt Q ds ord) .normal) noQ := by
    unfold Oper.wpIn at *
    refine ⟨h2.1, ?_⟩
    have h2 := h2.2
    generalize ((⟨d, op, t, pos, aft, gd⟩ : Oper).semAt (fen r).round a.eval).run P w = x at *
    cases x with
    | ok x w' =>
      cases x <;> simp only [Oper.uponIn] at h2 ⊢ <;>
        first
          | exact h2
          | exact ⟨h2.1, CallsIn.mono h2.2 (fun e w'' he => by cases e <;> first | exact he | exact (hno _ _ _ (by simp) he).elim | (obtain ⟨_, _, hf⟩ := he; exact (hno _ _ _ (by simp) hf).elim))⟩
          | exact ⟨h2.1, RoundIn.mono h2.2 (fun e w'' he => by cases e <;> first | exact he | exact (hno _ _ _ (by simp) he).elim | (obtain ⟨_, _, hf⟩ := he; exact (hno _ _ _ (by simp) hf).elim))⟩
    | halt x w' => cases x <;> simp only [Oper.uponIn] at h2 ⊢ <;> first | exact h2 | exact (hno _ _ _ (by simp) h2).elim
  refine Oper.wpIn_mono ?_ h3
  rintro a' w' ⟨ρ', H', h4, h5, _, h6, h7⟩
  have h8 := h7 ht g a' _ hok' (hsh.put hmem) hjn h4 h6
  rw [show held B true = emp from rfl, emp_star] at h8
  exact ⟨H', h5, h8⟩
theorem DwF.b {op : Op} {gd : Option (Nat × Bool)} (hi : all[i]? = some ⟨d, op, t, pos, aft, gd⟩) (hg : Gy all ρ gd) (hij : Nat.beq i jt = true)
    (h : Ow P r n all [⟨d, op, t, pos, aft, none⟩] (loudF P r n all B jt Q ds ord) ρ ds (B * X)) : DwF P r n all B jt Q ds false ((i, true) :: ord) ρ X := DwF.l hi hg (by simpa using hij) h
theorem DwF.a {op : Op} {gd : Option (Nat × Bool)} (hi : all[i]? = some ⟨d, op, t, pos, aft, gd⟩) (hg : Gy all ρ gd)
    (h : Ow P r n all [⟨d, op, t, pos, aft, none⟩] (loudF P r n all B jt Q ds ord) ρ ds X) : DwF P r n all B jt Q ds true ((i, true) :: ord) ρ X := DwF.l hi hg rfl (Ow.heq (emp_star X) h)
theorem Cw.drawF {id : Nat} (B : HP) (jt : Nat) (ord : List (Nat × Bool)) (hp : Pk H B X) (hm : P.follows .mixedOrders = true) (hok : (tame all.toArray && ordOk all.toArray false 0 ord (Array.replicate all.length false) && Nat.beq ord.length all.length) = true)
    (h : DwF P r n all B jt Q ds false ord ρ X) : Cw P r n (.region id all.toArray true) Q ρ ds H := by
  simp only [Bool.and_eq_true] at hok
  obtain ⟨⟨h1, h2⟩, h4⟩ := hok
  have h4 := Nat.eq_of_beq_eq_true h4
  intro g w a hr hd hs
  refine wpIn_region_any hm ?_
  have hh := h h1 g a _ h2
    (fun k ok hk hl e he hb => by
      rcases Nat.lt_or_ge k all.length with h' | h'
      · simp [h'] at hl
      · simp [Nat.not_lt.2 h'] at hl)
    (by
      rcases Nat.lt_or_ge jt all.length with h' | h'
      · simp [h']
      · simp [Nat.not_lt.2 h']) hr hd
  rw [h4] at hh
  exact wpAnyIn_of_hAnyF (fun _ => trivial) h1 (fun a H w hs ⟨ρ, h5, h6, h7⟩ => ⟨ρ, H, h5, hs, h6 ▸ h7⟩) _ _ _ _ _ (St.drew _ (hs.mono (Ent.of_eq hp))) hh
end
end Go.Sl
