/-
  Sl, fourteenth part: a loop's rounds one by one; comparisons that part the way. Any program.
-/
import Derived.Test.YteomgcebbjoklaaSlM
import Derived.LoopNIn
import Derived.Lib.Strings
namespace Go.Sl
open Go
set_option linter.unusedVariables false
universe u
variable {td td' : TypeDesc} {kk bb : Nat} {zc : List Value}
section
variable {P : Program} {r : Option Nat} {n : Nat} {Q : PostT} {ρ : Env} {ds : List Deferred} {H R A B X : HP} {all rest : List Oper} {d : Option Nat} {t t' t'' T e : TypeId} {pos : String} {aft : Array Edge} {v v2 u : Value} {x y z : Operand}
  {k k' : IntKind} {s m cap n2 b o : Nat} {i j a c : Int} {cs cs2 : List Value} {ts : Array TypeId} {tl : Bool} {jt : Nat} {ord : List (Nat × Bool)}

/-- At most m rounds of a loop. -/
def Cr (P : Program) (r : Option Nat) (n : Nat) (c : Code) (Q : PostT) (m : Nat) (ρ : Env) (ds : List Deferred) (H : HP) : Prop :=
  ∀ g w a, Rep n ρ a → a.defers = ds → St g w H → Code.roundsIn (fen r) 0 P c (toQ n g Q) m a w
theorem Cw.rounds (m : Nat) {c : Code} (h : Cr P r n c Q m ρ ds H) : Cw P r n (.loop c) Q ρ ds H := fun g w a hr hd hs => wpIn_loop_rounds m (h g w a hr hd hs)
theorem Cr.step {m : Nat} {c : Code} (h : Cw P r n c (thenQ (Cr P r n c Q m) Q) ρ ds H) : Cr P r n c Q (m + 1) ρ ds H := by
  intro g w a hr hd hs
  rw [roundsIn_succ]
  refine wpIn_mono (h g w a hr hd hs) ?_
  rintro e a w ⟨ρ', H', h1, h2, h3⟩
  cases e with
  | normal => exact h3 g w a h1 rfl h2
  | exit id => exact ⟨ρ', H', h1, h2, h3⟩
  | goto l => exact ⟨ρ', H', h1, h2, h3⟩
  | ret => exact ⟨ρ', H', h1, h2, h3⟩
  | panic c => exact ⟨ρ', H', h1, h2, h3⟩
  | outgrown => exact ⟨ρ', H', h1, h2, h3⟩

/-- A comparison that is not decided: both ways. -/
theorem Ow.sp {op : Op} {p : Prop} {ip : Decidable p} (hd : dOk n d = true) (hpu : Pu P n ρ H op t (.bool (decide p)))
    (ht : p → Ow P r n all rest Q (putE d (.bool true) ρ) ds H) (hf : ¬ p → Ow P r n all rest Q (putE d (.bool false) ρ) ds H) : Ow P r n all (⟨d, op, t, pos, aft, none⟩ :: rest) Q ρ ds H := by
  refine Ow.pu hd hpu ?_
  by_cases hp : p
  · rw [decide_eq_true hp]; exact ht hp
  · rw [decide_eq_false hp]; exact hf hp
theorem Dw.sp {op : Op} {gd : Option (Nat × Bool)} {p : Prop} {ip : Decidable p} {i : Nat} (hi : all[i]? = some ⟨d, op, t, pos, aft, gd⟩) (hd : dOk n d = true) (hg : Gy all ρ gd)
    (hpu : Pu P n ρ B op t (.bool (decide p))) (ht : p → Dw P r n all B tl jt Q ds ord (putE d (.bool true) ρ) X) (hf : ¬ p → Dw P r n all B tl jt Q ds ord (putE d (.bool false) ρ) X) : Dw P r n all B tl jt Q ds ((i, false) :: ord) ρ X := by
  refine Dw.q hi hd hg hpu ?_
  by_cases hp : p
  · rw [decide_eq_true hp]; exact ht hp
  · rw [decide_eq_false hp]; exact hf hp
/-- A guard on a bool that is not decided. -/
theorem Ow.guard_s {op : Op} {j : Nat} {b c : Bool} {oj : Oper} {dj : Nat} (hd : dOk n d = true) (hj : all[j]? = some oj) (hdj : oj.dst = some dj) (hb : lk ρ dj = some (.bool c))
    (hy : c = b → Ow P r n all (⟨d, op, t, pos, aft, none⟩ :: rest) Q ρ ds H) (hn : c = (!b) → Ow P r n all rest Q (putE d undef ρ) ds H) : Ow P r n all (⟨d, op, t, pos, aft, some (j, b)⟩ :: rest) Q ρ ds H := by
  by_cases h : c = b
  · exact Ow.guard_yes hj hdj (by rw [hb, h]) (hy h)
  · have h' : c = !b := by cases c <;> cases b <;> simp_all
    exact Ow.guard_no hd hj hdj (by rw [hb, h']) (hn h')
/-- A guard on what was passed over itself. -/
theorem Ow.guard_u {op : Op} {j : Nat} {b : Bool} {oj : Oper} {dj : Nat} (hd : dOk n d = true) (hj : all[j]? = some oj) (hdj : oj.dst = some dj) (hb : lk ρ dj = some undef)
    (h : Ow P r n all rest Q (putE d undef ρ) ds H) : Ow P r n all (⟨d, op, t, pos, aft, some (j, b)⟩ :: rest) Q ρ ds H := by
  intro g w a hr hds hs
  have hy : yielded all.toArray a.tmps j = none := by
    have := hr.2 dj _ hb
    simp [yielded, hj, hdj, this, undef]
  simp only [wpListIn, Region.wanted, hy]
  rw [show ((none : Option Bool) == some b) = false from rfl]
  exact ⟨fun _ _ => trivial, h g w _ (hr.putE hd _) (by cases d <;> exact hds) hs⟩
/-- What is picked by a bool that is not decided. -/
theorem Ow.pick_s {p : Bool} (hd : dOk n d = true) (hx : ev ρ x = some (.bool p)) (hy : ev ρ y = some v) (hz : ev ρ z = some u)
    (ht : p = true → Ow P r n all rest Q (putE d v ρ) ds H) (hf : p = false → Ow P r n all rest Q (putE d u ρ) ds H) : Ow P r n all (⟨d, .pick x y z, t, pos, aft, none⟩ :: rest) Q ρ ds H := by
  cases p
  · exact Ow.pu hd (Pu.pick_f hx hz) (hf rfl)
  · exact Ow.pu hd (Pu.pick_t hx hy) (ht rfl)
/-- Calls, the contract last. -/
theorem Ow.callE {β : Type u} {val : β → Value} {post : β → HP} {f : FuncId} {xs : List Operand} {vs : List Value} {Pre F : HP}
    (hxs : Evs ρ xs vs) (hp : Pk H Pre F) (hd : dOk n d = true) (hf : Fn P f vs Pre β val post)
    (h : ∀ b, Ow P r n all rest Q (putE d (val b) ρ) ds (post b * F)) :
    Ow P r n all (⟨d, .call { callee := .value (.func f), args := xs.toArray, argTypes := ts }, t, pos, aft, none⟩ :: rest) Q ρ ds H := Ow.call hf hd hxs (.of_eq hp) h
theorem Ow.callE0 {β : Type u} {val : β → Value} {post : β → HP} {f : FuncId} {xs : List Operand} {vs : List Value}
    (hxs : Evs ρ xs vs) (hd : dOk n d = true) (hf : Fn P f vs emp β val post)
    (h : ∀ b, Ow P r n all rest Q (putE d (val b) ρ) ds (post b * H)) :
    Ow P r n all (⟨d, .call { callee := .value (.func f), args := xs.toArray, argTypes := ts }, t, pos, aft, none⟩ :: rest) Q ρ ds H := Ow.call hf hd hxs (.of_eq (emp_star H).symm) h
theorem Cw.condE {c : Operand} {x y : Code} {b : Bool} (hc : ev ρ c = some (.bool b)) (ht : b = true → Cw P r n x Q ρ ds H) (hf : b = false → Cw P r n y Q ρ ds H) : Cw P r n (.cond c x y) Q ρ ds H := Cw.cond hc ht hf
/-- The way out, with the value told by an equation. -/
theorem retQ_v {fn : Func} {β : Type u} {val : β → Value} {post : β → HP} {F : HP} (w : β) {i : Nat} (h : fn.results = #[.tmp i]) (hi : lk ρ i = some v) (hv : v = val w) (hH : Ent H (post w * F)) : retQ P fn val post F .ret ρ [] H :=
  ⟨.inr rfl, w, hv ▸ res1 h hi, hH⟩
theorem retQ_v2 {fn : Func} {β : Type u} {val : β → Value} {post : β → HP} {F : HP} (w : β) {i j : Nat} (h : fn.results = #[.tmp i, .tmp j]) (hi : lk ρ i = some v) (hj : lk ρ j = some u) (hv : .tuple #[v, u] = val w) (hH : Ent H (post w * F)) : retQ P fn val post F .ret ρ [] H :=
  ⟨.inr rfl, w, hv ▸ res2 h hi hj, hH⟩
theorem retQ_v3 {fn : Func} {β : Type u} {val : β → Value} {post : β → HP} {F : HP} (w : β) {i j l : Nat} (h : fn.results = #[.tmp i, .tmp j, .tmp l]) (hi : lk ρ i = some v) (hj : lk ρ j = some u) (hl : lk ρ l = some v2) (hv : .tuple #[v, u, v2] = val w) (hH : Ent H (post w * F)) : retQ P fn val post F .ret ρ [] H :=
  ⟨.inr rfl, w, hv ▸ res3 h hi hj hl, hH⟩
theorem Ent.liftp {p : Prop} {C : HP} (hp : p) (h : Ent A (B * C)) : Ent A (Sl.lift p * B * C) := Ent.trans h (Ent.trans (Ent.lift (p := p) hp) (Ent.of_eq (star_assoc _ _ _).symm))
theorem Ow.liftA {p : Prop} {l : List Oper} {C : HP} (h : p → Ow P r n all l Q ρ ds (A * C)) : Ow P r n all l Q ρ ds (Sl.lift p * A * C) := Ow.heq (star_assoc _ _ _) (Ow.lift h)
theorem Cw.liftA {p : Prop} {l : Code} {C : HP} (h : p → Cw P r n l Q ρ ds (A * C)) : Cw P r n l Q ρ ds (Sl.lift p * A * C) := Cw.heq (star_assoc _ _ _) (Cw.lift h)
theorem retQ_c {fn : Func} {β : Type u} {val : β → Value} {post : β → HP} {F : HP} (w : β) {i : Nat} (T : TyA P t false) (h : fn.results = #[.cell i t]) {bb oo : Nat} (hi : lk ρ i = some (.pointer (some ⟨bb, oo, none⟩))) (hp : Pk H (cl bb cs) R) (ho : cs[oo]? = some v) (hv : v = val w) (hH : Ent H (post w * F)) : retQ P fn val post F .ret ρ [] H :=
  ⟨.inr rfl, w, hv ▸ resc h hi hp (rd_cl ho), hH⟩
theorem rescN {fn : Func} {i : Nat} [T : TyA P t true] [S : TyS P t kk bb zc] (h : fn.results = #[.cell i t]) {b o : Nat} {vs : List Value} (hi : lk ρ i = some (.pointer (some ⟨b, o, none⟩))) (hp : Pk H (cl b cs) R) (ho : (cs.drop o).take kk = vs) (hk : vs.length = kk) : Res P fn ρ H (.agg vs.toArray) := fun _ _ _ _ hrp hs => by
  have h1 := hrp.2 _ _ hi
  have hl := run_loadCells (P := P) (w := by assumption) (a := ⟨b, o, none⟩) (vs := vs) 0 #[] (fun j v hj => by
    rw [Nat.zero_add, addr_add]
    refine hs.cell hp (rd_cl ?_)
    rw [← ho, List.getElem?_take] at hj
    split at hj
    · simpa [List.getElem?_drop] using hj
    · cases hj)
  rw [hk] at hl
  simp [results, h, h1, asAddr, loadVar, run_agg, run_size, loadCells, hl]
theorem retQ_cN {fn : Func} {β : Type u} {val : β → Value} {post : β → HP} {F : HP} (w : β) {i : Nat} [T : TyA P t true] [S : TyS P t kk bb zc] (h : fn.results = #[.cell i t]) {b o : Nat} {vs : List Value} (hi : lk ρ i = some (.pointer (some ⟨b, o, none⟩))) (hp : Pk H (cl b cs) R) (ho : (cs.drop o).take kk = vs) (hk : vs.length = kk)
    (hv : .agg vs.toArray = val w) (hH : Ent H (post w * F)) : retQ P fn val post F .ret ρ [] H := ⟨.inr rfl, w, hv ▸ rescN h hi hp ho hk, hH⟩
/-- .. of a function value that bears captured values. -/
theorem Ow.callvE {β : Type u} {val : β → Value} {post : β → HP} {f : FuncId} {xs : List Operand} {vs caps args : List Value} {Pre F : HP}
    (hx : ev ρ x = some (.func (.func f) #[] caps.toArray)) (hxs : Evs ρ xs vs) (ha : vs ++ caps = args) (hp : Pk H Pre F) (hd : dOk n d = true) (hf : Fn P f args Pre β val post)
    (h : ∀ b, Ow P r n all rest Q (putE d (val b) ρ) ds (post b * F)) :
    Ow P r n all (⟨d, .call { callee := .value x, args := xs.toArray, argTypes := ts }, t, pos, aft, none⟩ :: rest) Q ρ ds H := by subst ha; exact Ow.callv hf hd hx hxs (.of_eq hp) h
/-- .. that answers a comparison: both ways. -/
theorem Ow.callSp {p : Prop} {ip : Decidable p} {post : HP} {f : FuncId} {xs : List Operand} {vs : List Value} {Pre F : HP}
    (hxs : Evs ρ xs vs) (hp : Pk H Pre F) (hd : dOk n d = true) (hf : Fn P f vs Pre Unit (fun _ => .bool (decide p)) (fun _ => post))
    (ht : p → Ow P r n all rest Q (putE d (.bool true) ρ) ds (post * F)) (hn : ¬ p → Ow P r n all rest Q (putE d (.bool false) ρ) ds (post * F)) :
    Ow P r n all (⟨d, .call { callee := .value (.func f), args := xs.toArray, argTypes := ts }, t, pos, aft, none⟩ :: rest) Q ρ ds H := Ow.callE hxs hp hd hf (fun _ => by
      by_cases h : p
      · rw [decide_eq_true h]; exact ht h
      · rw [decide_eq_false h]; exact hn h)
theorem Ow.callvSp {p : Prop} {ip : Decidable p} {post : HP} {f : FuncId} {xs : List Operand} {vs caps args : List Value} {Pre F : HP}
    (hx : ev ρ x = some (.func (.func f) #[] caps.toArray)) (hxs : Evs ρ xs vs) (ha : vs ++ caps = args) (hp : Pk H Pre F) (hd : dOk n d = true) (hf : Fn P f args Pre Unit (fun _ => .bool (decide p)) (fun _ => post))
    (ht : p → Ow P r n all rest Q (putE d (.bool true) ρ) ds (post * F)) (hn : ¬ p → Ow P r n all rest Q (putE d (.bool false) ρ) ds (post * F)) :
    Ow P r n all (⟨d, .call { callee := .value x, args := xs.toArray, argTypes := ts }, t, pos, aft, none⟩ :: rest) Q ρ ds H := Ow.callvE hx hxs ha hp hd hf (fun _ => by
      by_cases h : p
      · rw [decide_eq_true h]; exact ht h
      · rw [decide_eq_false h]; exact hn h)
theorem Ow.callSp0 {p : Prop} {ip : Decidable p} {f : FuncId} {xs : List Operand} {vs : List Value}
    (hxs : Evs ρ xs vs) (hd : dOk n d = true) (hf : Fn P f vs emp Unit (fun _ => .bool (decide p)) (fun _ => emp))
    (ht : p → Ow P r n all rest Q (putE d (.bool true) ρ) ds H) (hn : ¬ p → Ow P r n all rest Q (putE d (.bool false) ρ) ds H) :
    Ow P r n all (⟨d, .call { callee := .value (.func f), args := xs.toArray, argTypes := ts }, t, pos, aft, none⟩ :: rest) Q ρ ds H := Ow.callE0 hxs hd hf (fun _ => by
      rw [emp_star]
      by_cases h : p
      · rw [decide_eq_true h]; exact ht h
      · rw [decide_eq_false h]; exact hn h)
/-- A region that draws its order, whatever it reads held: its loud operations leave all as it was, or lay new blocks. -/
theorem Cw.drawL {id : Nat} (ord : List (Nat × Bool)) (hm : P.follows .mixedOrders = true) (hok : (tame all.toArray && ordOk all.toArray false 0 ord (Array.replicate all.length false) && (!false || (lastOk .any all.toArray 0 && Nat.blt 0 all.length)) && Nat.beq ord.length all.length) = true)
    (h : Dw P r n all H false 0 Q ds ord ρ emp) : Cw P r n (.region id all.toArray true) Q ρ ds H := Cw.drawQ ord hm hok h
theorem Cw.draw1 {id : Nat} (B : HP) (tl : Bool) (jt : Nat) (ord : List (Nat × Bool)) (hp : Pk H B X) (hm : P.follows .mixedOrders = true) (hok : (tame all.toArray && ordOk all.toArray tl jt ord (Array.replicate all.length false) && (!tl || (lastOk .any all.toArray jt && Nat.blt jt all.length)) && Nat.beq ord.length all.length) = true)
    (h : Dw P r n all B tl jt Q ds ord ρ X) : Cw P r n (.region id all.toArray true) Q ρ ds H := Cw.draw B X tl jt ord (.of_eq hp) hm hok h
theorem Cw.draw2 {id : Nat} {R1 : HP} (B1 B2 : HP) (tl : Bool) (jt : Nat) (ord : List (Nat × Bool)) (hp : Pk H B1 R1) (hp2 : Pk R1 B2 X) (hm : P.follows .mixedOrders = true) (hok : (tame all.toArray && ordOk all.toArray tl jt ord (Array.replicate all.length false) && (!tl || (lastOk .any all.toArray jt && Nat.blt jt all.length)) && Nat.beq ord.length all.length) = true)
    (h : Dw P r n all (B1 * B2) tl jt Q ds ord ρ X) : Cw P r n (.region id all.toArray true) Q ρ ds H := Cw.draw (B1 * B2) X tl jt ord (.of_eq (by unfold Pk at *; rw [hp, hp2, star_assoc])) hm hok h
theorem Cw.draw3 {id : Nat} {R1 R2 : HP} (B1 B2 B3 : HP) (tl : Bool) (jt : Nat) (ord : List (Nat × Bool)) (hp : Pk H B1 R1) (hp2 : Pk R1 B2 R2) (hp3 : Pk R2 B3 X) (hm : P.follows .mixedOrders = true) (hok : (tame all.toArray && ordOk all.toArray tl jt ord (Array.replicate all.length false) && (!tl || (lastOk .any all.toArray jt && Nat.blt jt all.length)) && Nat.beq ord.length all.length) = true)
    (h : Dw P r n all (B1 * (B2 * B3)) tl jt Q ds ord ρ X) : Cw P r n (.region id all.toArray true) Q ρ ds H := Cw.draw (B1 * (B2 * B3)) X tl jt ord (.of_eq (by unfold Pk at *; rw [hp, hp2, hp3, star_assoc, star_assoc])) hm hok h
theorem Dw.nil2 {B1 B2 : HP} (h : Q .normal ρ ds (B1 * (B2 * X))) (htl : tl = false) : Dw P r n all (B1 * B2) tl jt Q ds [] ρ X := Dw.nil (by rw [star_assoc]; exact h) htl
theorem Dw.nil3 {B1 B2 B3 : HP} (h : Q .normal ρ ds (B1 * (B2 * (B3 * X)))) (htl : tl = false) : Dw P r n all (B1 * (B2 * B3)) tl jt Q ds [] ρ X := Dw.nil (by rw [star_assoc, star_assoc]; exact h) htl
theorem Dw.lE {i : Nat} {op : Op} {gd : Option (Nat × Bool)} (hi : all[i]? = some ⟨d, op, t, pos, aft, gd⟩) (hg : Gy all ρ gd)
    (h : Ow P r n all [⟨d, op, t, pos, aft, none⟩] (loudQ P r n all B tl jt Q ds ord) ρ ds B) : Dw P r n all B tl jt Q ds ((i, true) :: ord) ρ emp := Dw.l hi hg (Ow.heq (star_emp B) h)
theorem loudQ.goE (e : H = B) (h : Dw P r n all B tl jt Q ds ord ρ emp) : loudQ P r n all B tl jt Q ds ord .normal ρ ds H := ⟨rfl, rfl, .inl ⟨emp, by rw [e, star_emp], h⟩⟩
/-- The environment without the slots ks, each slot once. -/
def er : List Nat → Env → Env
  | _, [] => []
  | ks, (k, v) :: l => bif ks.elem k then er ks l else (k, v) :: er (k :: ks) l
theorem er_sub (ρ : Env) : ∀ (ks : List Nat) (l : Env), (∀ j, ks.elem j = false → lk ρ j = lk l j) → Sub ρ (er ks l)
  | ks, [], _ => trivial
  | ks, (k, v) :: l, h => by
    simp only [er]
    cases hk : ks.elem k with
    | true =>
      exact er_sub ρ ks l (fun j hj => by
        rw [h j hj]
        simp only [lk]
        have : Nat.beq k j = false := by
          cases e : Nat.beq k j with
          | false => rfl
          | true => have := Nat.eq_of_beq_eq_true e; subst this; rw [hk] at hj; cases hj
        rw [this]; rfl)
    | false =>
      refine ⟨?_, er_sub ρ (k :: ks) l (fun j hj => ?_)⟩
      · rw [h k hk]; simp only [lk]; rw [show Nat.beq k k = true from Nat.beq_refl k]; rfl
      · simp only [List.elem_cons] at hj
        have h1 : ks.elem j = false := by
          cases hjk : j == k with
          | true => rw [hjk] at hj; cases hj
          | false => rw [hjk] at hj; exact hj
        rw [h j h1]
        simp only [lk]
        have : Nat.beq k j = false := by
          cases e : Nat.beq k j with
          | false => rfl
          | true => have := Nat.eq_of_beq_eq_true e; subst this; simp at hj
        rw [this]; rfl
theorem Sub.append {ρ : Env} : ∀ {l m : Env}, Sub ρ l → Sub ρ m → Sub ρ (l ++ m)
  | [], _, _, h => h
  | (_, _) :: _, _, h, h' => ⟨h.1, h.2.append h'⟩
theorem er_nil {ks : List Nat} : er ks [] = [] := rfl
theorem er_keep {ks : List Nat} {k : Nat} {l l' : Env} (h : ks.elem k = false) (hl : er (k :: ks) l = l') : er ks ((k, v) :: l) = (k, v) :: l' := by
  simp only [er]; rw [h, hl]; rfl
theorem er_drop {ks : List Nat} {k : Nat} {l l' : Env} (h : ks.elem k = true) (hl : er ks l = l') : er ks ((k, v) :: l) = l' := by
  simp only [er]; rw [h, hl]; rfl
/-- The environment, laid out anew. -/
theorem Cw.env {c : Code} {ρ0 : Env} (ks : List Nat) (hN : er ks ρ = ρ0) (h : Cw P r n c Q ρ0 ds H) : Cw P r n c Q ρ ds H := Cw.sub (hN ▸ er_sub ρ ks ρ (fun _ _ => rfl)) h
/-- A loop: the slots ks change (as ρI says, or anyhow), the others stay. -/
theorem Cw.loopF {σ : Type u} {c : Code} {ρ0 : Env} (ks : List Nat) (hN : er ks ρ = ρ0) (I : σ → Prop) (ρI : σ → Env) (HI : σ → HP) (μ : σ → Nat) (s₀ : σ) (hI : I s₀) (h0 : Sub ρ (ρI s₀)) (hH : Ent H (HI s₀))
    (round : ∀ s, I s → Cw P r n c (thenQ (fun ρ' ds' H' => ds' = ds ∧ ∃ s', I s' ∧ μ s' < μ s ∧ Sub ρ' (ρI s' ++ ρ0) ∧ Ent H' (HI s')) Q) (ρI s ++ ρ0) ds (HI s)) :
    Cw P r n (.loop c) Q ρ ds H := by
  subst hN
  exact Cw.loopI I (fun s => ρI s ++ er ks ρ) HI μ s₀ hI (h0.append (er_sub ρ ks ρ (fun _ _ => rfl))) hH round
/-- .. the heap as it is. -/
theorem Cw.loopS {σ : Type u} {c : Code} {ρ0 : Env} (ks : List Nat) (hN : er ks ρ = ρ0) (I : σ → Prop) (ρI : σ → Env) (μ : σ → Nat) (s₀ : σ) (hI : I s₀) (h0 : Sub ρ (ρI s₀))
    (round : ∀ s, I s → Cw P r n c (thenQ (fun ρ' ds' H' => ds' = ds ∧ ∃ s', I s' ∧ μ s' < μ s ∧ Sub ρ' (ρI s' ++ ρ0) ∧ Ent H' H) Q) (ρI s ++ ρ0) ds H) :
    Cw P r n (.loop c) Q ρ ds H := Cw.loopF ks hN I ρI (fun _ => H) μ s₀ hI h0 (.refl _) round
/-- What stands between two parts, the slots ks changed. -/
theorem Cw.cutF {σ : Type u} {c y : Code} {ρ0 : Env} (ks : List Nat) (hN : er ks ρ = ρ0) (I : σ → Prop) (ρM : σ → Env) (HM : σ → HP)
    (h1 : Cw P r n c (thenQ (fun ρ' ds' H' => ∃ s, I s ∧ ds' = ds ∧ Sub ρ' (ρM s ++ ρ0) ∧ Ent H' (HM s)) Q) ρ ds H) (h2 : ∀ s, I s → Cw P r n y Q (ρM s ++ ρ0) ds (HM s)) : Cw P r n (.seq c y) Q ρ ds H :=
  Cw.cut I (fun s => ρM s ++ ρ0) (fun _ => ds) HM h1 h2
/-- .. where the first part stands ahead of the rest already. -/
theorem Cw.midT {σ : Type u} {c y : Code} {ρ0 : Env} (ks : List Nat) (hN : er ks ρ = ρ0) (I : σ → Prop) (ρM : σ → Env) (HM : σ → HP)
    (h1 : Cw P r n c (thenQ (fun ρ' ds' H' => ∃ s, I s ∧ ds' = ds ∧ Sub ρ' (ρM s ++ ρ0) ∧ Ent H' (HM s)) Q) ρ ds H) (h2 : ∀ s, I s → Cw P r n y Q (ρM s ++ ρ0) ds (HM s)) :
    Cw P r n c (thenQ (fun ρ ds H => Cw P r n y Q ρ ds H) Q) ρ ds H :=
  h1.mono fun e ρ' ds' H' h => by
    cases e with
    | normal =>
      obtain ⟨s, hI, rfl, hsub, hent⟩ := h
      exact Cw.ent hent (Cw.sub hsub (h2 s hI))
    | exit id => exact h
    | goto l => exact h
    | ret => exact h
    | panic c => exact h
    | outgrown => exact h
theorem Cw.midF {σ : Type u} {c y : Code} {id : Nat} {ρ0 : Env} (ks : List Nat) (hN : er ks ρ = ρ0) (I : σ → Prop) (ρM : σ → Env) (HM : σ → HP)
    (h1 : Cw P r n c (blockQ id (thenQ (fun ρ' ds' H' => ∃ s, I s ∧ ds' = ds ∧ Sub ρ' (ρM s ++ ρ0) ∧ Ent H' (HM s)) Q)) ρ ds H) (h2 : ∀ s, I s → Cw P r n y Q (ρM s ++ ρ0) ds (HM s)) :
    Cw P r n c (blockQ id (thenQ (fun ρ ds H => Cw P r n y Q ρ ds H) Q)) ρ ds H := Cw.midB I (fun s => ρM s ++ ρ0) (fun _ => ds) HM h1 h2
/-- A contract that says which bool. -/
theorem bool_sp {p : Bool} {G : Prop} (ht : p = true → G) (hf : p = false → G) : G := by cases p; exact hf rfl; exact ht rfl

theorem Pu.neB_same [T : TyU P t .bool] {p : Bool} (hx : ev ρ x = some (.bool p)) (hy : ev ρ y = some (.bool p)) : Pu P n ρ H (.binOp .neq t x y t') t'' (.bool false) := by
  have := Pu.neB (P := P) (n := n) (H := H) (t := t) (t' := t') (t'' := t'') hx hy
  rwa [show (!(p == p)) = false by cases p <;> rfl] at this
theorem Pu.eqB_same [T : TyU P t .bool] {p : Bool} (hx : ev ρ x = some (.bool p)) (hy : ev ρ y = some (.bool p)) : Pu P n ρ H (.binOp .eql t x y t') t'' (.bool true) := by
  have := Pu.eqB (P := P) (n := n) (H := H) (t := t) (t' := t') (t'' := t'') hx hy
  rwa [show (p == p) = true by cases p <;> rfl] at this
/-! strings -/
theorem beq_list (l m : List UInt8) : (l == m) = decide (l = m) := by
  by_cases h : l = m
  · subst h; simp
  · rw [show (l == m) = false from beq_eq_false_iff_ne.2 h]; simp [h]
theorem toList_data (b : ByteArray) : b.toList = b.data.toList := Go.Lib.toList_data b
theorem Pu.eqS {p q : ByteArray} (hx : ev ρ x = some (.string p)) (hy : ev ρ y = some (.string q)) :
    Pu P n ρ H (.binOp .eql t x y t') t'' (.bool (decide (p.data.toList = q.data.toList))) := by
  have h : (p.toList == q.toList) = decide (p.data.toList = q.data.toList) := by rw [toList_data, toList_data]; exact beq_list _ _
  rw [← h]
  exact Pu.bin hx hy (fun w => by simp [eqGuard]) (fun w => by simp [Go.binOp, Op.stringOp])
theorem Pu.neS {p q : ByteArray} (hx : ev ρ x = some (.string p)) (hy : ev ρ y = some (.string q)) :
    Pu P n ρ H (.binOp .neq t x y t') t'' (.bool (decide (p.data.toList ≠ q.data.toList))) := by
  have h : (!(p.toList == q.toList)) = decide (p.data.toList ≠ q.data.toList) := by rw [toList_data, toList_data]; rw [beq_list]; simp
  rw [← h]
  exact Pu.bin hx hy (fun w => by simp [eqGuard]) (fun w => by simp [Go.binOp, Op.stringOp])
theorem Pu.eqS_t {p q : ByteArray} (hx : ev ρ x = some (.string p)) (hy : ev ρ y = some (.string q)) (h : p.data.toList = q.data.toList) :
    Pu P n ρ H (.binOp .eql t x y t') t'' (.bool true) := by have := Pu.eqS (P := P) (n := n) (H := H) (t := t) (t' := t') (t'' := t'') hx hy; rwa [decide_eq_true h] at this
theorem Pu.eqS_f {p q : ByteArray} (hx : ev ρ x = some (.string p)) (hy : ev ρ y = some (.string q)) (h : ¬ p.data.toList = q.data.toList) :
    Pu P n ρ H (.binOp .eql t x y t') t'' (.bool false) := by have := Pu.eqS (P := P) (n := n) (H := H) (t := t) (t' := t') (t'' := t'') hx hy; rwa [decide_eq_false h] at this
theorem Pu.neS_t {p q : ByteArray} (hx : ev ρ x = some (.string p)) (hy : ev ρ y = some (.string q)) (h : ¬ p.data.toList = q.data.toList) :
    Pu P n ρ H (.binOp .neq t x y t') t'' (.bool true) := by have := Pu.neS (P := P) (n := n) (H := H) (t := t) (t' := t') (t'' := t'') hx hy; rwa [decide_eq_true h] at this
theorem Pu.neS_f {p q : ByteArray} (hx : ev ρ x = some (.string p)) (hy : ev ρ y = some (.string q)) (h : p.data.toList = q.data.toList) :
    Pu P n ρ H (.binOp .neq t x y t') t'' (.bool false) := by have := Pu.neS (P := P) (n := n) (H := H) (t := t) (t' := t') (t'' := t'') hx hy; rwa [decide_eq_false (by simpa using h)] at this
/-! which kind of goal, which kind of operation: the same again (for the walks' texts: a quick look) -/
theorem Ow.is {l : List Oper} (h : Ow P r n all l Q ρ ds H) : Ow P r n all l Q ρ ds H := h
theorem Cw.is {c : Code} (h : Cw P r n c Q ρ ds H) : Cw P r n c Q ρ ds H := h
theorem Dw.is (h : Dw P r n all B tl jt Q ds ord ρ X) : Dw P r n all B tl jt Q ds ord ρ X := h
theorem Ow.kLoad (h : Ow P r n all (⟨d, .load t x, t', pos, aft, none⟩ :: rest) Q ρ ds H) : Ow P r n all (⟨d, .load t x, t', pos, aft, none⟩ :: rest) Q ρ ds H := h
theorem Ow.kStore (h : Ow P r n all (⟨d, .store t x y, t', pos, aft, none⟩ :: rest) Q ρ ds H) : Ow P r n all (⟨d, .store t x y, t', pos, aft, none⟩ :: rest) Q ρ ds H := h
theorem Ow.kBin {op : BinOp} (h : Ow P r n all (⟨d, .binOp op t x y t', t'', pos, aft, none⟩ :: rest) Q ρ ds H) : Ow P r n all (⟨d, .binOp op t x y t', t'', pos, aft, none⟩ :: rest) Q ρ ds H := h
theorem Pu.kLoad (h : Pu P n ρ H (.load t x) t' v) : Pu P n ρ H (.load t x) t' v := h
theorem Pu.kIdx (h : Pu P n ρ H (.indexAddr T x y) t v) : Pu P n ρ H (.indexAddr T x y) t v := h
theorem Pu.kConv (h : Pu P n ρ H (.convert t t' x) t'' v) : Pu P n ρ H (.convert t t' x) t'' v := h
theorem Pu.kUn {op : UnOp} (h : Pu P n ρ H (.unOp op t x) t'' v) : Pu P n ρ H (.unOp op t x) t'' v := h
theorem Pu.kPick (h : Pu P n ρ H (.pick x y z) t v) : Pu P n ρ H (.pick x y z) t v := h
theorem Pu.kBuild {ps : Array (Nat × Operand)} (h : Pu P n ρ H (.build T ps) t v) : Pu P n ρ H (.build T ps) t v := h
theorem Pu.kBuiltin {bi : Builtin} {xs : Array Operand} (h : Pu P n ρ H (.call { callee := .builtin bi, args := xs, argTypes := ts }) t v) : Pu P n ρ H (.call { callee := .builtin bi, args := xs, argTypes := ts }) t v := h
theorem Pu.kBin {op : BinOp} (h : Pu P n ρ H (.binOp op t x y t') t'' v) : Pu P n ρ H (.binOp op t x y t') t'' v := h
theorem Pu.b_lss (h : Pu P n ρ H (.binOp .lss t x y t') t'' v) : Pu P n ρ H (.binOp .lss t x y t') t'' v := h
theorem Pu.b_leq (h : Pu P n ρ H (.binOp .leq t x y t') t'' v) : Pu P n ρ H (.binOp .leq t x y t') t'' v := h
theorem Pu.b_gtr (h : Pu P n ρ H (.binOp .gtr t x y t') t'' v) : Pu P n ρ H (.binOp .gtr t x y t') t'' v := h
theorem Pu.b_geq (h : Pu P n ρ H (.binOp .geq t x y t') t'' v) : Pu P n ρ H (.binOp .geq t x y t') t'' v := h
theorem Pu.b_eql (h : Pu P n ρ H (.binOp .eql t x y t') t'' v) : Pu P n ρ H (.binOp .eql t x y t') t'' v := h
theorem Pu.b_neq (h : Pu P n ρ H (.binOp .neq t x y t') t'' v) : Pu P n ρ H (.binOp .neq t x y t') t'' v := h
theorem Pu.b_add (h : Pu P n ρ H (.binOp .add t x y t') t'' v) : Pu P n ρ H (.binOp .add t x y t') t'' v := h
theorem Pu.b_sub (h : Pu P n ρ H (.binOp .sub t x y t') t'' v) : Pu P n ρ H (.binOp .sub t x y t') t'' v := h
theorem Pu.b_mul (h : Pu P n ρ H (.binOp .mul t x y t') t'' v) : Pu P n ρ H (.binOp .mul t x y t') t'' v := h
theorem Pu.b_quo (h : Pu P n ρ H (.binOp .quo t x y t') t'' v) : Pu P n ρ H (.binOp .quo t x y t') t'' v := h
theorem Pu.b_rem (h : Pu P n ρ H (.binOp .rem t x y t') t'' v) : Pu P n ρ H (.binOp .rem t x y t') t'' v := h
theorem Pu.b_and (h : Pu P n ρ H (.binOp .and t x y t') t'' v) : Pu P n ρ H (.binOp .and t x y t') t'' v := h
theorem Pu.b_or (h : Pu P n ρ H (.binOp .or t x y t') t'' v) : Pu P n ρ H (.binOp .or t x y t') t'' v := h
theorem Pu.b_xor (h : Pu P n ρ H (.binOp .xor t x y t') t'' v) : Pu P n ρ H (.binOp .xor t x y t') t'' v := h
theorem Pu.b_shl (h : Pu P n ρ H (.binOp .shl t x y t') t'' v) : Pu P n ρ H (.binOp .shl t x y t') t'' v := h
theorem Pu.b_shr (h : Pu P n ρ H (.binOp .shr t x y t') t'' v) : Pu P n ρ H (.binOp .shr t x y t') t'' v := h
theorem Pu.b_andNot (h : Pu P n ρ H (.binOp .andNot t x y t') t'' v) : Pu P n ρ H (.binOp .andNot t x y t') t'' v := h
theorem Cw.kBlock {c : Code} {id : Nat} (h : Cw P r n (.block id c) Q ρ ds H) : Cw P r n (.block id c) Q ρ ds H := h
theorem Ent.is {B : HP} (h : Ent A B) : Ent A B := h
theorem loudQ.is (h : loudQ P r n all B tl jt Q ds ord .normal ρ ds H) : loudQ P r n all B tl jt Q ds ord .normal ρ ds H := h
theorem Ow.b_lss (h : Ow P r n all (⟨d, .binOp .lss t x y t', t'', pos, aft, none⟩ :: rest) Q ρ ds H) : Ow P r n all (⟨d, .binOp .lss t x y t', t'', pos, aft, none⟩ :: rest) Q ρ ds H := h
theorem Ow.b_leq (h : Ow P r n all (⟨d, .binOp .leq t x y t', t'', pos, aft, none⟩ :: rest) Q ρ ds H) : Ow P r n all (⟨d, .binOp .leq t x y t', t'', pos, aft, none⟩ :: rest) Q ρ ds H := h
theorem Ow.b_gtr (h : Ow P r n all (⟨d, .binOp .gtr t x y t', t'', pos, aft, none⟩ :: rest) Q ρ ds H) : Ow P r n all (⟨d, .binOp .gtr t x y t', t'', pos, aft, none⟩ :: rest) Q ρ ds H := h
theorem Ow.b_geq (h : Ow P r n all (⟨d, .binOp .geq t x y t', t'', pos, aft, none⟩ :: rest) Q ρ ds H) : Ow P r n all (⟨d, .binOp .geq t x y t', t'', pos, aft, none⟩ :: rest) Q ρ ds H := h
theorem Ow.b_eql (h : Ow P r n all (⟨d, .binOp .eql t x y t', t'', pos, aft, none⟩ :: rest) Q ρ ds H) : Ow P r n all (⟨d, .binOp .eql t x y t', t'', pos, aft, none⟩ :: rest) Q ρ ds H := h
theorem Ow.b_neq (h : Ow P r n all (⟨d, .binOp .neq t x y t', t'', pos, aft, none⟩ :: rest) Q ρ ds H) : Ow P r n all (⟨d, .binOp .neq t x y t', t'', pos, aft, none⟩ :: rest) Q ρ ds H := h
theorem Ow.b_add (h : Ow P r n all (⟨d, .binOp .add t x y t', t'', pos, aft, none⟩ :: rest) Q ρ ds H) : Ow P r n all (⟨d, .binOp .add t x y t', t'', pos, aft, none⟩ :: rest) Q ρ ds H := h
theorem Ow.b_sub (h : Ow P r n all (⟨d, .binOp .sub t x y t', t'', pos, aft, none⟩ :: rest) Q ρ ds H) : Ow P r n all (⟨d, .binOp .sub t x y t', t'', pos, aft, none⟩ :: rest) Q ρ ds H := h
theorem Ow.b_mul (h : Ow P r n all (⟨d, .binOp .mul t x y t', t'', pos, aft, none⟩ :: rest) Q ρ ds H) : Ow P r n all (⟨d, .binOp .mul t x y t', t'', pos, aft, none⟩ :: rest) Q ρ ds H := h
theorem Ow.b_quo (h : Ow P r n all (⟨d, .binOp .quo t x y t', t'', pos, aft, none⟩ :: rest) Q ρ ds H) : Ow P r n all (⟨d, .binOp .quo t x y t', t'', pos, aft, none⟩ :: rest) Q ρ ds H := h
theorem Ow.b_rem (h : Ow P r n all (⟨d, .binOp .rem t x y t', t'', pos, aft, none⟩ :: rest) Q ρ ds H) : Ow P r n all (⟨d, .binOp .rem t x y t', t'', pos, aft, none⟩ :: rest) Q ρ ds H := h
theorem Ow.b_and (h : Ow P r n all (⟨d, .binOp .and t x y t', t'', pos, aft, none⟩ :: rest) Q ρ ds H) : Ow P r n all (⟨d, .binOp .and t x y t', t'', pos, aft, none⟩ :: rest) Q ρ ds H := h
theorem Ow.b_or (h : Ow P r n all (⟨d, .binOp .or t x y t', t'', pos, aft, none⟩ :: rest) Q ρ ds H) : Ow P r n all (⟨d, .binOp .or t x y t', t'', pos, aft, none⟩ :: rest) Q ρ ds H := h
theorem Ow.b_xor (h : Ow P r n all (⟨d, .binOp .xor t x y t', t'', pos, aft, none⟩ :: rest) Q ρ ds H) : Ow P r n all (⟨d, .binOp .xor t x y t', t'', pos, aft, none⟩ :: rest) Q ρ ds H := h
theorem Ow.b_shl (h : Ow P r n all (⟨d, .binOp .shl t x y t', t'', pos, aft, none⟩ :: rest) Q ρ ds H) : Ow P r n all (⟨d, .binOp .shl t x y t', t'', pos, aft, none⟩ :: rest) Q ρ ds H := h
theorem Ow.b_shr (h : Ow P r n all (⟨d, .binOp .shr t x y t', t'', pos, aft, none⟩ :: rest) Q ρ ds H) : Ow P r n all (⟨d, .binOp .shr t x y t', t'', pos, aft, none⟩ :: rest) Q ρ ds H := h
theorem Ow.b_andNot (h : Ow P r n all (⟨d, .binOp .andNot t x y t', t'', pos, aft, none⟩ :: rest) Q ρ ds H) : Ow P r n all (⟨d, .binOp .andNot t x y t', t'', pos, aft, none⟩ :: rest) Q ρ ds H := h
theorem Ow.kGuard {op : Op} {q : Nat × Bool} (h : Ow P r n all (⟨d, op, t, pos, aft, some q⟩ :: rest) Q ρ ds H) : Ow P r n all (⟨d, op, t, pos, aft, some q⟩ :: rest) Q ρ ds H := h
theorem Ow.kCall {ce : Callee} {xs : Array Operand} (h : Ow P r n all (⟨d, .call { callee := ce, args := xs, argTypes := ts }, t, pos, aft, none⟩ :: rest) Q ρ ds H) : Ow P r n all (⟨d, .call { callee := ce, args := xs, argTypes := ts }, t, pos, aft, none⟩ :: rest) Q ρ ds H := h
theorem Ow.kBuiltin {bi : Builtin} {xs : Array Operand} (h : Ow P r n all (⟨d, .call { callee := .builtin bi, args := xs, argTypes := ts }, t, pos, aft, none⟩ :: rest) Q ρ ds H) : Ow P r n all (⟨d, .call { callee := .builtin bi, args := xs, argTypes := ts }, t, pos, aft, none⟩ :: rest) Q ρ ds H := h
theorem Ow.kBuild {ps : Array (Nat × Operand)} (h : Ow P r n all (⟨d, .build T ps, t, pos, aft, none⟩ :: rest) Q ρ ds H) : Ow P r n all (⟨d, .build T ps, t, pos, aft, none⟩ :: rest) Q ρ ds H := h
theorem Ow.kBuildS {ps : Array (Nat × Operand)} (h : Ow P r n all (⟨d, .buildSlice T m ps, t, pos, aft, none⟩ :: rest) Q ρ ds H) : Ow P r n all (⟨d, .buildSlice T m ps, t, pos, aft, none⟩ :: rest) Q ρ ds H := h
theorem Ow.kIdx (h : Ow P r n all (⟨d, .indexAddr T x y, t, pos, aft, none⟩ :: rest) Q ρ ds H) : Ow P r n all (⟨d, .indexAddr T x y, t, pos, aft, none⟩ :: rest) Q ρ ds H := h
theorem Ow.kConv (h : Ow P r n all (⟨d, .convert t t' x, t'', pos, aft, none⟩ :: rest) Q ρ ds H) : Ow P r n all (⟨d, .convert t t' x, t'', pos, aft, none⟩ :: rest) Q ρ ds H := h
theorem Ow.kUn {op : UnOp} (h : Ow P r n all (⟨d, .unOp op t x, t'', pos, aft, none⟩ :: rest) Q ρ ds H) : Ow P r n all (⟨d, .unOp op t x, t'', pos, aft, none⟩ :: rest) Q ρ ds H := h
theorem Ow.kPick (h : Ow P r n all (⟨d, .pick x y z, t, pos, aft, none⟩ :: rest) Q ρ ds H) : Ow P r n all (⟨d, .pick x y z, t, pos, aft, none⟩ :: rest) Q ρ ds H := h

/-! slices at a known place -/
theorem Pu.idx_b [TT : TyU P T (.slice e)] [S : TyS P e s bb zc] (hx : ev ρ x = some (.slice (some ⟨b, o, none⟩) m cap)) (hy : ev ρ y = some (.int k i)) (hi : 0 ≤ i ∧ i < m) :
    Pu P n ρ H (.indexAddr T x y) t (.pointer (some ⟨b, o + i.toNat * s, none⟩)) := by
  have := Pu.idx (P := P) (n := n) (H := H) (t := t) (T := T) hx hy hi
  rwa [addr_add] at this
theorem Pu.idx_bn [TT : TyU P T (.slice e)] [S : TyS P e s bb zc] {j : Nat} (hx : ev ρ x = some (.slice (some ⟨b, o, none⟩) m cap)) (hy : ev ρ y = some (.int k (j : Int))) (hi : j < m) :
    Pu P n ρ H (.indexAddr T x y) t (.pointer (some ⟨b, o + j * s, none⟩)) := Pu.idx_b (i := j) hx hy (by omega)
theorem Pu.idxA_b {len : Nat} [TT : TyU P T (.array len e)] [S : TyS P e s bb zc] (hx : ev ρ x = some (.pointer (some ⟨b, o, none⟩))) (hy : ev ρ y = some (.int k i)) (hi : 0 ≤ i ∧ i < len) :
    Pu P n ρ H (.indexAddr T x y) t (.pointer (some ⟨b, o + i.toNat * s, none⟩)) := by
  have := Pu.idxA (P := P) (n := n) (H := H) (t := t) (T := T) hx hy hi
  rwa [addr_add] at this
/-- What A holds tells the cells at b from o on. -/
def Tb (A : HP) (b o : Nat) (cs : List Value) : Prop := ∀ j u, cs[j]? = some u → RdA A ⟨b, o + j, none⟩ u
theorem Pu.load_tb [TA : TyA P t false] {k1 k2 : Nat} (h : Tb A b o cs) (hp : Pk H A R) (hx : ev ρ x = some (.pointer (some ⟨b, o + k1 + k2, none⟩))) (ho : cs[k1 + k2]? = some u) : Pu P n ρ H (.load t x) t' u :=
  Pu.load hx hp (by have := h _ _ ho; rwa [← Nat.add_assoc] at this)
theorem Pu.load_tb1 [TA : TyA P t false] {k1 : Nat} (h : Tb A b o cs) (hp : Pk H A R) (hx : ev ρ x = some (.pointer (some ⟨b, o + k1, none⟩))) (ho : cs[k1]? = some u) : Pu P n ρ H (.load t x) t' u :=
  Pu.load hx hp (h _ _ ho)
theorem Pu.loadN_tb [T : TyA P t true] [S : TyS P t kk bb zc] {k1 : Nat} {vs : List Value} (h : Tb A b o cs) (hp : Pk H A R) (hx : ev ρ x = some (.pointer (some ⟨b, o + k1, none⟩))) (ho : (cs.drop k1).take kk = vs) (hk : vs.length = kk) :
    Pu P n ρ H (.load t x) t' (.agg vs.toArray) :=
  Pu.loadN hx hp (fun j u hj => by
    rw [addr_add, Nat.add_assoc]
    refine h _ _ ?_
    rw [← ho, List.getElem?_take] at hj
    split at hj
    · simpa [List.getElem?_drop] using hj
    · cases hj) hk
theorem Ow.addnil {l : List Oper} (h : Ow P r n all l Q ρ ds (slk 1 (.slice none 0 0) (([] : List Int).map vi) * H)) : Ow P r n all l Q ρ ds H := Ow.ent (Ent.addnil 1 (Ent.refl _)) h
theorem Cw.addnil {c : Code} (h : Cw P r n c Q ρ ds (slk 1 (.slice none 0 0) (([] : List Int).map vi) * H)) : Cw P r n c Q ρ ds H := Cw.ent (Ent.addnil 1 (Ent.refl _)) h
theorem Pu.shrN {a : Int} (s : Nat) (q : Int) (hx : ev ρ x = some (.int k a)) (hy : ev ρ y = some (.int k' (s : Int))) (hq : (2 : Int) ^ s = q) (hs : s ≤ k.bits) (ha : 0 ≤ a) :
    Pu P n ρ H (.binOp .shr t x y t') t'' (.int k (a / q)) := Pu.shr hx hy (by omega) (by rw [Int.toNat_natCast, Nat.min_eq_left hs, hq, Int.fdiv_eq_ediv_of_nonneg _ (by subst hq; exact Int.pow_nonneg (by decide))])
theorem Pu.andV {a c : Int} (hx : ev ρ x = some (.int k a)) (hy : ev ρ y = some (.int k c)) : Pu P n ρ H (.binOp .and t x y t') t'' (.int k (andI k a c)) := Pu.and hx hy rfl
end
theorem and_u8 (a : Int) (b : Nat) (hb : b < 256) : 0 ≤ andI .u8 a b ∧ andI .u8 a b ≤ b := by
  have h : ((BitVec.ofInt IntKind.u8.bits a &&& BitVec.ofInt IntKind.u8.bits (b : Int)).toNat : Int) ≤ b := by
    rw [BitVec.toNat_and]
    have h1 : (BitVec.ofInt IntKind.u8.bits (b : Int)).toNat ≤ b := by
      simp only [BitVec.toNat_ofInt, IntKind.bits]
      omega
    have := Nat.and_le_right (n := (BitVec.ofInt IntKind.u8.bits a).toNat) (m := (BitVec.ofInt IntKind.u8.bits (b : Int)).toNat)
    omega
  unfold andI
  rw [wrap_u8 (by omega)]
  omega
/-! put together out of more parts -/
section
variable {P : Program} {r : Option Nat} {n : Nat} {Q : PostT} {ρ : Env} {ds : List Deferred} {H R A B X : HP} {all rest : List Oper} {d : Option Nat} {t t' t'' T e : TypeId} {pos : String} {aft : Array Edge} {m : Nat}
theorem Pu.bld9 {i0 i1 i2 i3 i4 i5 i6 i7 i8 : Nat} {x0 x1 x2 x3 x4 x5 x6 x7 x8 : Operand} {v0 v1 v2 v3 v4 v5 v6 v7 v8 : Value} {f : List Value → List Value} [B : TyB P T [i0, i1, i2, i3, i4, i5, i6, i7, i8] f] (h0 : ev ρ x0 = some v0) (h1 : ev ρ x1 = some v1) (h2 : ev ρ x2 = some v2) (h3 : ev ρ x3 = some v3) (h4 : ev ρ x4 = some v4) (h5 : ev ρ x5 = some v5) (h6 : ev ρ x6 = some v6) (h7 : ev ρ x7 = some v7) (h8 : ev ρ x8 = some v8) (hb : ∀ w, (Instr.build T #[(i0, v0), (i1, v1), (i2, v2), (i3, v3), (i4, v4), (i5, v5), (i6, v6), (i7, v7), (i8, v8)]).run P w = .ok (.agg (f [v0, v1, v2, v3, v4, v5, v6, v7, v8]).toArray) w) : Pu P n ρ H (.build T #[(i0, x0), (i1, x1), (i2, x2), (i3, x3), (i4, x4), (i5, x5), (i6, x6), (i7, x7), (i8, x8)]) t (.agg (f [v0, v1, v2, v3, v4, v5, v6, v7, v8]).toArray) :=
  Pu.build (ps := [(i0, x0), (i1, x1), (i2, x2), (i3, x3), (i4, x4), (i5, x5), (i6, x6), (i7, x7), (i8, x8)]) (vs := [v0, v1, v2, v3, v4, v5, v6, v7, v8]) ⟨h0, h1, h2, h3, h4, h5, h6, h7, h8, trivial⟩ hb
theorem Ow.bldS9 {i0 i1 i2 i3 i4 i5 i6 i7 i8 : Nat} {x0 x1 x2 x3 x4 x5 x6 x7 x8 : Operand} {v0 v1 v2 v3 v4 v5 v6 v7 v8 : Value} {f : List Value → List Value} [TT : TyU P T (.slice e)] [B : TyBS P T m e [i0, i1, i2, i3, i4, i5, i6, i7, i8] f] (hd : dOk n d = true) (h0 : ev ρ x0 = some v0) (h1 : ev ρ x1 = some v1) (h2 : ev ρ x2 = some v2) (h3 : ev ρ x3 = some v3) (h4 : ev ρ x4 = some v4) (h5 : ev ρ x5 = some v5) (h6 : ev ρ x6 = some v6) (h7 : ev ρ x7 = some v7) (h8 : ev ρ x8 = some v8) (hb : ∀ w, (Instr.buildSlice T m #[(i0, v0), (i1, v1), (i2, v2), (i3, v3), (i4, v4), (i5, v5), (i6, v6), (i7, v7), (i8, v8)]).run P w = .ok (.slice (some ⟨w.heap.size, 0, none⟩) m m) { w with heap := w.heap.push (.cells (f [v0, v1, v2, v3, v4, v5, v6, v7, v8]).toArray e (0, 0)) })
    (h : ∀ b, Ow P r n all rest Q (putE d (.slice (some ⟨b, 0, none⟩) m m) ρ) ds (cl b (f [v0, v1, v2, v3, v4, v5, v6, v7, v8]) * H)) : Ow P r n all (⟨d, .buildSlice T m #[(i0, x0), (i1, x1), (i2, x2), (i3, x3), (i4, x4), (i5, x5), (i6, x6), (i7, x7), (i8, x8)], t, pos, aft, none⟩ :: rest) Q ρ ds H :=
  Ow.buildSlice (e := e) (ps := [(i0, x0), (i1, x1), (i2, x2), (i3, x3), (i4, x4), (i5, x5), (i6, x6), (i7, x7), (i8, x8)]) (vs := [v0, v1, v2, v3, v4, v5, v6, v7, v8]) hd ⟨h0, h1, h2, h3, h4, h5, h6, h7, h8, trivial⟩ hb h
theorem Pu.bld10 {i0 i1 i2 i3 i4 i5 i6 i7 i8 i9 : Nat} {x0 x1 x2 x3 x4 x5 x6 x7 x8 x9 : Operand} {v0 v1 v2 v3 v4 v5 v6 v7 v8 v9 : Value} {f : List Value → List Value} [B : TyB P T [i0, i1, i2, i3, i4, i5, i6, i7, i8, i9] f] (h0 : ev ρ x0 = some v0) (h1 : ev ρ x1 = some v1) (h2 : ev ρ x2 = some v2) (h3 : ev ρ x3 = some v3) (h4 : ev ρ x4 = some v4) (h5 : ev ρ x5 = some v5) (h6 : ev ρ x6 = some v6) (h7 : ev ρ x7 = some v7) (h8 : ev ρ x8 = some v8) (h9 : ev ρ x9 = some v9) (hb : ∀ w, (Instr.build T #[(i0, v0), (i1, v1), (i2, v2), (i3, v3), (i4, v4), (i5, v5), (i6, v6), (i7, v7), (i8, v8), (i9, v9)]).run P w = .ok (.agg (f [v0, v1, v2, v3, v4, v5, v6, v7, v8, v9]).toArray) w) : Pu P n ρ H (.build T #[(i0, x0), (i1, x1), (i2, x2), (i3, x3), (i4, x4), (i5, x5), (i6, x6), (i7, x7), (i8, x8), (i9, x9)]) t (.agg (f [v0, v1, v2, v3, v4, v5, v6, v7, v8, v9]).toArray) :=
  Pu.build (ps := [(i0, x0), (i1, x1), (i2, x2), (i3, x3), (i4, x4), (i5, x5), (i6, x6), (i7, x7), (i8, x8), (i9, x9)]) (vs := [v0, v1, v2, v3, v4, v5, v6, v7, v8, v9]) ⟨h0, h1, h2, h3, h4, h5, h6, h7, h8, h9, trivial⟩ hb
theorem Ow.bldS10 {i0 i1 i2 i3 i4 i5 i6 i7 i8 i9 : Nat} {x0 x1 x2 x3 x4 x5 x6 x7 x8 x9 : Operand} {v0 v1 v2 v3 v4 v5 v6 v7 v8 v9 : Value} {f : List Value → List Value} [TT : TyU P T (.slice e)] [B : TyBS P T m e [i0, i1, i2, i3, i4, i5, i6, i7, i8, i9] f] (hd : dOk n d = true) (h0 : ev ρ x0 = some v0) (h1 : ev ρ x1 = some v1) (h2 : ev ρ x2 = some v2) (h3 : ev ρ x3 = some v3) (h4 : ev ρ x4 = some v4) (h5 : ev ρ x5 = some v5) (h6 : ev ρ x6 = some v6) (h7 : ev ρ x7 = some v7) (h8 : ev ρ x8 = some v8) (h9 : ev ρ x9 = some v9) (hb : ∀ w, (Instr.buildSlice T m #[(i0, v0), (i1, v1), (i2, v2), (i3, v3), (i4, v4), (i5, v5), (i6, v6), (i7, v7), (i8, v8), (i9, v9)]).run P w = .ok (.slice (some ⟨w.heap.size, 0, none⟩) m m) { w with heap := w.heap.push (.cells (f [v0, v1, v2, v3, v4, v5, v6, v7, v8, v9]).toArray e (0, 0)) })
    (h : ∀ b, Ow P r n all rest Q (putE d (.slice (some ⟨b, 0, none⟩) m m) ρ) ds (cl b (f [v0, v1, v2, v3, v4, v5, v6, v7, v8, v9]) * H)) : Ow P r n all (⟨d, .buildSlice T m #[(i0, x0), (i1, x1), (i2, x2), (i3, x3), (i4, x4), (i5, x5), (i6, x6), (i7, x7), (i8, x8), (i9, x9)], t, pos, aft, none⟩ :: rest) Q ρ ds H :=
  Ow.buildSlice (e := e) (ps := [(i0, x0), (i1, x1), (i2, x2), (i3, x3), (i4, x4), (i5, x5), (i6, x6), (i7, x7), (i8, x8), (i9, x9)]) (vs := [v0, v1, v2, v3, v4, v5, v6, v7, v8, v9]) hd ⟨h0, h1, h2, h3, h4, h5, h6, h7, h8, h9, trivial⟩ hb h
theorem Pu.bld11 {i0 i1 i2 i3 i4 i5 i6 i7 i8 i9 i10 : Nat} {x0 x1 x2 x3 x4 x5 x6 x7 x8 x9 x10 : Operand} {v0 v1 v2 v3 v4 v5 v6 v7 v8 v9 v10 : Value} {f : List Value → List Value} [B : TyB P T [i0, i1, i2, i3, i4, i5, i6, i7, i8, i9, i10] f] (h0 : ev ρ x0 = some v0) (h1 : ev ρ x1 = some v1) (h2 : ev ρ x2 = some v2) (h3 : ev ρ x3 = some v3) (h4 : ev ρ x4 = some v4) (h5 : ev ρ x5 = some v5) (h6 : ev ρ x6 = some v6) (h7 : ev ρ x7 = some v7) (h8 : ev ρ x8 = some v8) (h9 : ev ρ x9 = some v9) (h10 : ev ρ x10 = some v10) (hb : ∀ w, (Instr.build T #[(i0, v0), (i1, v1), (i2, v2), (i3, v3), (i4, v4), (i5, v5), (i6, v6), (i7, v7), (i8, v8), (i9, v9), (i10, v10)]).run P w = .ok (.agg (f [v0, v1, v2, v3, v4, v5, v6, v7, v8, v9, v10]).toArray) w) : Pu P n ρ H (.build T #[(i0, x0), (i1, x1), (i2, x2), (i3, x3), (i4, x4), (i5, x5), (i6, x6), (i7, x7), (i8, x8), (i9, x9), (i10, x10)]) t (.agg (f [v0, v1, v2, v3, v4, v5, v6, v7, v8, v9, v10]).toArray) :=
  Pu.build (ps := [(i0, x0), (i1, x1), (i2, x2), (i3, x3), (i4, x4), (i5, x5), (i6, x6), (i7, x7), (i8, x8), (i9, x9), (i10, x10)]) (vs := [v0, v1, v2, v3, v4, v5, v6, v7, v8, v9, v10]) ⟨h0, h1, h2, h3, h4, h5, h6, h7, h8, h9, h10, trivial⟩ hb
theorem Ow.bldS11 {i0 i1 i2 i3 i4 i5 i6 i7 i8 i9 i10 : Nat} {x0 x1 x2 x3 x4 x5 x6 x7 x8 x9 x10 : Operand} {v0 v1 v2 v3 v4 v5 v6 v7 v8 v9 v10 : Value} {f : List Value → List Value} [TT : TyU P T (.slice e)] [B : TyBS P T m e [i0, i1, i2, i3, i4, i5, i6, i7, i8, i9, i10] f] (hd : dOk n d = true) (h0 : ev ρ x0 = some v0) (h1 : ev ρ x1 = some v1) (h2 : ev ρ x2 = some v2) (h3 : ev ρ x3 = some v3) (h4 : ev ρ x4 = some v4) (h5 : ev ρ x5 = some v5) (h6 : ev ρ x6 = some v6) (h7 : ev ρ x7 = some v7) (h8 : ev ρ x8 = some v8) (h9 : ev ρ x9 = some v9) (h10 : ev ρ x10 = some v10) (hb : ∀ w, (Instr.buildSlice T m #[(i0, v0), (i1, v1), (i2, v2), (i3, v3), (i4, v4), (i5, v5), (i6, v6), (i7, v7), (i8, v8), (i9, v9), (i10, v10)]).run P w = .ok (.slice (some ⟨w.heap.size, 0, none⟩) m m) { w with heap := w.heap.push (.cells (f [v0, v1, v2, v3, v4, v5, v6, v7, v8, v9, v10]).toArray e (0, 0)) })
    (h : ∀ b, Ow P r n all rest Q (putE d (.slice (some ⟨b, 0, none⟩) m m) ρ) ds (cl b (f [v0, v1, v2, v3, v4, v5, v6, v7, v8, v9, v10]) * H)) : Ow P r n all (⟨d, .buildSlice T m #[(i0, x0), (i1, x1), (i2, x2), (i3, x3), (i4, x4), (i5, x5), (i6, x6), (i7, x7), (i8, x8), (i9, x9), (i10, x10)], t, pos, aft, none⟩ :: rest) Q ρ ds H :=
  Ow.buildSlice (e := e) (ps := [(i0, x0), (i1, x1), (i2, x2), (i3, x3), (i4, x4), (i5, x5), (i6, x6), (i7, x7), (i8, x8), (i9, x9), (i10, x10)]) (vs := [v0, v1, v2, v3, v4, v5, v6, v7, v8, v9, v10]) hd ⟨h0, h1, h2, h3, h4, h5, h6, h7, h8, h9, h10, trivial⟩ hb h
theorem Pu.bld12 {i0 i1 i2 i3 i4 i5 i6 i7 i8 i9 i10 i11 : Nat} {x0 x1 x2 x3 x4 x5 x6 x7 x8 x9 x10 x11 : Operand} {v0 v1 v2 v3 v4 v5 v6 v7 v8 v9 v10 v11 : Value} {f : List Value → List Value} [B : TyB P T [i0, i1, i2, i3, i4, i5, i6, i7, i8, i9, i10, i11] f] (h0 : ev ρ x0 = some v0) (h1 : ev ρ x1 = some v1) (h2 : ev ρ x2 = some v2) (h3 : ev ρ x3 = some v3) (h4 : ev ρ x4 = some v4) (h5 : ev ρ x5 = some v5) (h6 : ev ρ x6 = some v6) (h7 : ev ρ x7 = some v7) (h8 : ev ρ x8 = some v8) (h9 : ev ρ x9 = some v9) (h10 : ev ρ x10 = some v10) (h11 : ev ρ x11 = some v11) (hb : ∀ w, (Instr.build T #[(i0, v0), (i1, v1), (i2, v2), (i3, v3), (i4, v4), (i5, v5), (i6, v6), (i7, v7), (i8, v8), (i9, v9), (i10, v10), (i11, v11)]).run P w = .ok (.agg (f [v0, v1, v2, v3, v4, v5, v6, v7, v8, v9, v10, v11]).toArray) w) : Pu P n ρ H (.build T #[(i0, x0), (i1, x1), (i2, x2), (i3, x3), (i4, x4), (i5, x5), (i6, x6), (i7, x7), (i8, x8), (i9, x9), (i10, x10), (i11, x11)]) t (.agg (f [v0, v1, v2, v3, v4, v5, v6, v7, v8, v9, v10, v11]).toArray) :=
  Pu.build (ps := [(i0, x0), (i1, x1), (i2, x2), (i3, x3), (i4, x4), (i5, x5), (i6, x6), (i7, x7), (i8, x8), (i9, x9), (i10, x10), (i11, x11)]) (vs := [v0, v1, v2, v3, v4, v5, v6, v7, v8, v9, v10, v11]) ⟨h0, h1, h2, h3, h4, h5, h6, h7, h8, h9, h10, h11, trivial⟩ hb
theorem Ow.bldS12 {i0 i1 i2 i3 i4 i5 i6 i7 i8 i9 i10 i11 : Nat} {x0 x1 x2 x3 x4 x5 x6 x7 x8 x9 x10 x11 : Operand} {v0 v1 v2 v3 v4 v5 v6 v7 v8 v9 v10 v11 : Value} {f : List Value → List Value} [TT : TyU P T (.slice e)] [B : TyBS P T m e [i0, i1, i2, i3, i4, i5, i6, i7, i8, i9, i10, i11] f] (hd : dOk n d = true) (h0 : ev ρ x0 = some v0) (h1 : ev ρ x1 = some v1) (h2 : ev ρ x2 = some v2) (h3 : ev ρ x3 = some v3) (h4 : ev ρ x4 = some v4) (h5 : ev ρ x5 = some v5) (h6 : ev ρ x6 = some v6) (h7 : ev ρ x7 = some v7) (h8 : ev ρ x8 = some v8) (h9 : ev ρ x9 = some v9) (h10 : ev ρ x10 = some v10) (h11 : ev ρ x11 = some v11) (hb : ∀ w, (Instr.buildSlice T m #[(i0, v0), (i1, v1), (i2, v2), (i3, v3), (i4, v4), (i5, v5), (i6, v6), (i7, v7), (i8, v8), (i9, v9), (i10, v10), (i11, v11)]).run P w = .ok (.slice (some ⟨w.heap.size, 0, none⟩) m m) { w with heap := w.heap.push (.cells (f [v0, v1, v2, v3, v4, v5, v6, v7, v8, v9, v10, v11]).toArray e (0, 0)) })
    (h : ∀ b, Ow P r n all rest Q (putE d (.slice (some ⟨b, 0, none⟩) m m) ρ) ds (cl b (f [v0, v1, v2, v3, v4, v5, v6, v7, v8, v9, v10, v11]) * H)) : Ow P r n all (⟨d, .buildSlice T m #[(i0, x0), (i1, x1), (i2, x2), (i3, x3), (i4, x4), (i5, x5), (i6, x6), (i7, x7), (i8, x8), (i9, x9), (i10, x10), (i11, x11)], t, pos, aft, none⟩ :: rest) Q ρ ds H :=
  Ow.buildSlice (e := e) (ps := [(i0, x0), (i1, x1), (i2, x2), (i3, x3), (i4, x4), (i5, x5), (i6, x6), (i7, x7), (i8, x8), (i9, x9), (i10, x10), (i11, x11)]) (vs := [v0, v1, v2, v3, v4, v5, v6, v7, v8, v9, v10, v11]) hd ⟨h0, h1, h2, h3, h4, h5, h6, h7, h8, h9, h10, h11, trivial⟩ hb h
theorem Pu.bld13 {i0 i1 i2 i3 i4 i5 i6 i7 i8 i9 i10 i11 i12 : Nat} {x0 x1 x2 x3 x4 x5 x6 x7 x8 x9 x10 x11 x12 : Operand} {v0 v1 v2 v3 v4 v5 v6 v7 v8 v9 v10 v11 v12 : Value} {f : List Value → List Value} [B : TyB P T [i0, i1, i2, i3, i4, i5, i6, i7, i8, i9, i10, i11, i12] f] (h0 : ev ρ x0 = some v0) (h1 : ev ρ x1 = some v1) (h2 : ev ρ x2 = some v2) (h3 : ev ρ x3 = some v3) (h4 : ev ρ x4 = some v4) (h5 : ev ρ x5 = some v5) (h6 : ev ρ x6 = some v6) (h7 : ev ρ x7 = some v7) (h8 : ev ρ x8 = some v8) (h9 : ev ρ x9 = some v9) (h10 : ev ρ x10 = some v10) (h11 : ev ρ x11 = some v11) (h12 : ev ρ x12 = some v12) (hb : ∀ w, (Instr.build T #[(i0, v0), (i1, v1), (i2, v2), (i3, v3), (i4, v4), (i5, v5), (i6, v6), (i7, v7), (i8, v8), (i9, v9), (i10, v10), (i11, v11), (i12, v12)]).run P w = .ok (.agg (f [v0, v1, v2, v3, v4, v5, v6, v7, v8, v9, v10, v11, v12]).toArray) w) : Pu P n ρ H (.build T #[(i0, x0), (i1, x1), (i2, x2), (i3, x3), (i4, x4), (i5, x5), (i6, x6), (i7, x7), (i8, x8), (i9, x9), (i10, x10), (i11, x11), (i12, x12)]) t (.agg (f [v0, v1, v2, v3, v4, v5, v6, v7, v8, v9, v10, v11, v12]).toArray) :=
  Pu.build (ps := [(i0, x0), (i1, x1), (i2, x2), (i3, x3), (i4, x4), (i5, x5), (i6, x6), (i7, x7), (i8, x8), (i9, x9), (i10, x10), (i11, x11), (i12, x12)]) (vs := [v0, v1, v2, v3, v4, v5, v6, v7, v8, v9, v10, v11, v12]) ⟨h0, h1, h2, h3, h4, h5, h6, h7, h8, h9, h10, h11, h12, trivial⟩ hb
theorem Ow.bldS13 {i0 i1 i2 i3 i4 i5 i6 i7 i8 i9 i10 i11 i12 : Nat} {x0 x1 x2 x3 x4 x5 x6 x7 x8 x9 x10 x11 x12 : Operand} {v0 v1 v2 v3 v4 v5 v6 v7 v8 v9 v10 v11 v12 : Value} {f : List Value → List Value} [TT : TyU P T (.slice e)] [B : TyBS P T m e [i0, i1, i2, i3, i4, i5, i6, i7, i8, i9, i10, i11, i12] f] (hd : dOk n d = true) (h0 : ev ρ x0 = some v0) (h1 : ev ρ x1 = some v1) (h2 : ev ρ x2 = some v2) (h3 : ev ρ x3 = some v3) (h4 : ev ρ x4 = some v4) (h5 : ev ρ x5 = some v5) (h6 : ev ρ x6 = some v6) (h7 : ev ρ x7 = some v7) (h8 : ev ρ x8 = some v8) (h9 : ev ρ x9 = some v9) (h10 : ev ρ x10 = some v10) (h11 : ev ρ x11 = some v11) (h12 : ev ρ x12 = some v12) (hb : ∀ w, (Instr.buildSlice T m #[(i0, v0), (i1, v1), (i2, v2), (i3, v3), (i4, v4), (i5, v5), (i6, v6), (i7, v7), (i8, v8), (i9, v9), (i10, v10), (i11, v11), (i12, v12)]).run P w = .ok (.slice (some ⟨w.heap.size, 0, none⟩) m m) { w with heap := w.heap.push (.cells (f [v0, v1, v2, v3, v4, v5, v6, v7, v8, v9, v10, v11, v12]).toArray e (0, 0)) })
    (h : ∀ b, Ow P r n all rest Q (putE d (.slice (some ⟨b, 0, none⟩) m m) ρ) ds (cl b (f [v0, v1, v2, v3, v4, v5, v6, v7, v8, v9, v10, v11, v12]) * H)) : Ow P r n all (⟨d, .buildSlice T m #[(i0, x0), (i1, x1), (i2, x2), (i3, x3), (i4, x4), (i5, x5), (i6, x6), (i7, x7), (i8, x8), (i9, x9), (i10, x10), (i11, x11), (i12, x12)], t, pos, aft, none⟩ :: rest) Q ρ ds H :=
  Ow.buildSlice (e := e) (ps := [(i0, x0), (i1, x1), (i2, x2), (i3, x3), (i4, x4), (i5, x5), (i6, x6), (i7, x7), (i8, x8), (i9, x9), (i10, x10), (i11, x11), (i12, x12)]) (vs := [v0, v1, v2, v3, v4, v5, v6, v7, v8, v9, v10, v11, v12]) hd ⟨h0, h1, h2, h3, h4, h5, h6, h7, h8, h9, h10, h11, h12, trivial⟩ hb h
end
end Go.Sl
