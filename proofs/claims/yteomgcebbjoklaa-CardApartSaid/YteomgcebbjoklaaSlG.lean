/-
  Sl, seventh part: the rules in the form in which the walks' texts call them. Any program.
-/
import Derived.Test.YteomgcebbjoklaaSlF
namespace Go.Sl
open Go
set_option linter.unusedVariables false
universe u
variable {td td' : TypeDesc} {kk bb : Nat} {zc : List Value}
section
variable {P : Program} {r : Option Nat} {n : Nat} {Q : PostT} {ρ : Env} {ds : List Deferred} {H R A : HP} {all rest : List Oper} {d : Option Nat} {t t' T e : TypeId} {pos : String} {aft : Array Edge} {v v2 u : Value} {x y z : Operand}
  {k k' : IntKind} {s m cap n2 b o : Nat} {i : Int} {cs cs2 : List Value} {ts : Array TypeId}

theorem Pu.fld {s f off : Nat} [T : Fld P s f off] (hx : ev ρ x = some (.pointer (some ⟨b, o, none⟩))) : Pu P n ρ H (.fieldAddr s x f) t (.pointer (some ⟨b, o + off, none⟩)) := by
  have := Pu.fieldAddr (P := P) (n := n) (H := H) (t := t) (s := s) (f := f) hx
  rwa [addr_add] at this
theorem Pu.load_cl [T : TyA P t false] (hx : ev ρ x = some (.pointer (some ⟨b, o, none⟩))) (hp : Pk H (cl b cs) R) (ho : cs[o]? = some v) : Pu P n ρ H (.load t x) t' v := Pu.load hx hp (rd_cl ho)
theorem Pu.load_slk [T : TyA P t false] {j : Nat} (hx : ev ρ x = some (.pointer (some ((sbase v).add j)))) (hp : Pk H (slk s v cs) R) (ho : cs[j]? = some u) : Pu P n ρ H (.load t x) t' u := Pu.load hx hp (rd_slk ho)
theorem Pu.loadN_cl [T : TyA P t true] [S : TyS P t kk bb zc] {vs : List Value} (hx : ev ρ x = some (.pointer (some ⟨b, o, none⟩))) (hp : Pk H (cl b cs) R) (ho : (cs.drop o).take kk = vs) (hk : vs.length = kk) :
    Pu P n ρ H (.load t x) t' (.agg vs.toArray) :=
  Pu.loadN hx hp (fun j u hj => by
    rw [addr_add]
    refine rd_cl ?_
    rw [← ho, List.getElem?_take] at hj
    split at hj
    · simpa [List.getElem?_drop] using hj
    · cases hj) hk
theorem Ow.store_cl [S : TyS P t 1 bb zc] (hd : dOk n d = true) (hx : ev ρ x = some (.pointer (some ⟨b, o, none⟩))) (hy : ev ρ y = some v) (ho : v.oneCell' = true) (hp : Pk H (cl b cs) R) (hw : Nat.blt o cs.length = true)
    (h : Ow P r n all rest Q (putE d undef ρ) ds (cl b (cs.set o v) * R)) : Ow P r n all (⟨d, .store t x y, t', pos, aft, none⟩ :: rest) Q ρ ds H := Ow.store hd hx hy ho hp (wr_cl (Nat.le_of_ble_eq_true hw)) h
theorem Ow.store_cl' [S : TyS P t 1 bb zc] (hd : dOk n d = true) (hx : ev ρ x = some (.pointer (some ⟨b, o, none⟩))) (hy : ev ρ y = some v) (ho : v.oneCell' = true) (hp : Pk H (cl b cs) R) (hw : o < cs.length)
    (h : Ow P r n all rest Q (putE d undef ρ) ds (cl b (cs.set o v) * R)) : Ow P r n all (⟨d, .store t x y, t', pos, aft, none⟩ :: rest) Q ρ ds H := Ow.store hd hx hy ho hp (wr_cl hw) h
theorem Ow.store_slk [S : TyS P t 1 bb zc] {j : Nat} (hd : dOk n d = true) (hx : ev ρ x = some (.pointer (some ((sbase v).add j)))) (hy : ev ρ y = some u) (ho : u.oneCell' = true) (hp : Pk H (slk s v cs) R) (hw : j < cs.length)
    (h : Ow P r n all rest Q (putE d undef ρ) ds (slk s v (cs.set j u) * R)) : Ow P r n all (⟨d, .store t x y, t', pos, aft, none⟩ :: rest) Q ρ ds H := Ow.store hd hx hy ho hp (wr_slk hw) h

theorem Ow.call1 {β : Type u} {val : β → Value} {post : β → HP} {f : FuncId} {xs : List Operand} {vs : List Value} {Pre F : HP}
    (hf : Fn P f vs Pre β val post) (hd : dOk n d = true) (hxs : Evs ρ xs vs) (hp : Pk H Pre F)
    (h : ∀ b, Ow P r n all rest Q (putE d (val b) ρ) ds (post b * F)) :
    Ow P r n all (⟨d, .call { callee := .value (.func f), args := xs.toArray, argTypes := ts }, t, pos, aft, none⟩ :: rest) Q ρ ds H := Ow.call hf hd hxs (.of_eq hp) h
theorem Ow.call2 {β : Type u} {val : β → Value} {post : β → HP} {f : FuncId} {xs : List Operand} {vs : List Value} {A1 A2 R1 F : HP}
    (hf : Fn P f vs (A1 * A2) β val post) (hd : dOk n d = true) (hxs : Evs ρ xs vs) (hp1 : Pk H A1 R1) (hp2 : Pk R1 A2 F)
    (h : ∀ b, Ow P r n all rest Q (putE d (val b) ρ) ds (post b * F)) :
    Ow P r n all (⟨d, .call { callee := .value (.func f), args := xs.toArray, argTypes := ts }, t, pos, aft, none⟩ :: rest) Q ρ ds H :=
  Ow.call hf hd hxs (.of_eq (by unfold Pk at *; rw [hp1, hp2, star_assoc])) h
theorem Ow.call0 {β : Type u} {val : β → Value} {post : β → HP} {f : FuncId} {xs : List Operand} {vs : List Value}
    (hf : Fn P f vs emp β val post) (hd : dOk n d = true) (hxs : Evs ρ xs vs)
    (h : ∀ b, Ow P r n all rest Q (putE d (val b) ρ) ds (post b * H)) :
    Ow P r n all (⟨d, .call { callee := .value (.func f), args := xs.toArray, argTypes := ts }, t, pos, aft, none⟩ :: rest) Q ρ ds H := Ow.call hf hd hxs (.of_eq (emp_star H).symm) h
theorem Ent.pk {R' : HP} (hp : Pk H A R) (h : Ent R R') : Ent H (A * R') := by unfold Pk at hp; rw [hp]; exact h.right
theorem Ent.fin (hp : Pk H A R) : Ent H A := by unfold Pk at hp; rw [hp]; exact .drop _ _
theorem Pu.len_slm {α : Type u} {l : List α} {f : α → Value} [TT : TyU P T (.slice e)] (hx : ev ρ x = some v) (hp : Pk H (slk 1 v (l.map f)) R) : Pu P n ρ H (.call { callee := .builtin .len, args := #[x], argTypes := #[T] }) t (.int .i64 l.length) := by
  have := Pu.len_sl (P := P) (n := n) (t := t) (T := T) hx hp
  rwa [List.length_map] at this
theorem Ow.drop1 {l : List Oper} (h : Ow P r n all l Q ρ ds R) : Ow P r n all l Q ρ ds (A * R) := Ow.ent (.drop_left _ _) h
theorem Ow.unemp {l : List Oper} (h : Ow P r n all l Q ρ ds R) : Ow P r n all l Q ρ ds (emp * R) := Ow.heq (emp_star R) h
theorem Ow.assoc {B C : HP} {l : List Oper} (h : Ow P r n all l Q ρ ds (A * (B * C))) : Ow P r n all l Q ρ ds (A * B * C) := Ow.heq (star_assoc A B C) h
theorem Ow.pkd {l : List Oper} (hp : Pk H A R) (h : Ow P r n all l Q ρ ds (A * R)) : Ow P r n all l Q ρ ds H := Ow.heq hp h
theorem Cw.pkd {c : Code} (hp : Pk H A R) (h : Cw P r n c Q ρ ds (A * R)) : Cw P r n c Q ρ ds H := Cw.heq hp h
theorem Cw.assoc {B C : HP} {c : Code} (h : Cw P r n c Q ρ ds (A * (B * C))) : Cw P r n c Q ρ ds (A * B * C) := Cw.heq (star_assoc A B C) h
/-- Open an abstract word that stands first. -/
theorem Ow.opn {α : Sort u} {B : α → HP} {l : List Oper} (e : A = Sl.ex B) (h : ∀ x, Ow P r n all l Q ρ ds (B x * R)) : Ow P r n all l Q ρ ds (A * R) := by rw [e]; exact Ow.exs h
theorem Cw.opn {α : Sort u} {B : α → HP} {c : Code} (e : A = Sl.ex B) (h : ∀ x, Cw P r n c Q ρ ds (B x * R)) : Cw P r n c Q ρ ds (A * R) := by rw [e]; exact Cw.exs h
theorem Cw.unemp {c : Code} (h : Cw P r n c Q ρ ds R) : Cw P r n c Q ρ ds (emp * R) := Cw.heq (emp_star R) h
theorem thenQ_n {K : Env → List Deferred → HP → Prop} (h : K ρ ds H) : thenQ K Q .normal ρ ds H := h
theorem thenQ_r {K : Env → List Deferred → HP → Prop} (h : Q .ret ρ ds H) : thenQ K Q .ret ρ ds H := h
theorem thenQ_e {K : Env → List Deferred → HP → Prop} {id : Nat} (h : Q (.exit id) ρ ds H) : thenQ K Q (.exit id) ρ ds H := h
theorem blockQ_n {id : Nat} (h : Q .normal ρ ds H) : blockQ id Q .normal ρ ds H := h
theorem blockQ_r {id : Nat} (h : Q .ret ρ ds H) : blockQ id Q .ret ρ ds H := h
theorem blockQ_e {id : Nat} (h : Q .normal ρ ds H) : blockQ id Q (.exit id) ρ ds H := by
  show (bif Nat.beq id id then Q .normal else Q (.exit id)) ρ ds H
  rw [show Nat.beq id id = true from Nat.beq_refl id]; exact h
theorem blockQ_o {id id' : Nat} (hne : Nat.beq id' id = false) (h : Q (.exit id') ρ ds H) : blockQ id Q (.exit id') ρ ds H := by
  show (bif Nat.beq id' id then Q .normal else Q (.exit id')) ρ ds H
  rw [hne]; exact h

theorem retQ_0 {fn : Func} {β : Type u} {val : β → Value} {post : β → HP} {F : HP} {ex : Exit} (he : ex = .normal ∨ ex = .ret) (w : β) (hres : Res P fn ρ H (val w)) (hH : Ent H (post w * F)) : retQ P fn val post F ex ρ [] H := ⟨he, w, hres, hH⟩
theorem retQ_r {fn : Func} {β : Type u} {val : β → Value} {post : β → HP} {F : HP} (w : β) (hres : Res P fn ρ H (val w)) (hH : Ent H (post w * F)) : retQ P fn val post F .ret ρ [] H := ⟨.inr rfl, w, hres, hH⟩
theorem retQ_n {fn : Func} {β : Type u} {val : β → Value} {post : β → HP} {F : HP} (w : β) (hres : Res P fn ρ H (val w)) (hH : Ent H (post w * F)) : retQ P fn val post F .normal ρ [] H := ⟨.inl rfl, w, hres, hH⟩
end
theorem Fn.weak {P : Program} {f : FuncId} {args : List Value} {Pre Pre' : HP} {β β' : Type u} {val : β → Value} {post : β → HP} {val' : β' → Value} {post' : β' → HP}
    (h : Fn P f args Pre β val post) (hpre : Ent Pre' Pre) (c : β → β') (hv : ∀ b, val b = val' (c b)) (hpost : ∀ b, Ent (post b) (post' (c b))) : Fn P f args Pre' β' val' post' :=
  ⟨h.enters, fun g F w hs => (h.calls g F w (hs.mono hpre.left)).mono fun e w' ⟨b, he, hs'⟩ => ⟨c b, by rw [he, hv], hs'.mono (hpost b).left⟩⟩
/-- Premises out of the heap's word, ahead of a contract. -/
theorem Fn.pre_ex {P : Program} {f : FuncId} {args : List Value} {α : Sort u} {Pre : α → HP} {β : Type u} {val : β → Value} {post : β → HP}
    (hen : ∀ (args : Array Value) (w : World), (callFunc f args).run P w = .ok (.enter f args) w) (h : ∀ x, Fn P f args (Pre x) β val post) : Fn P f args (Sl.ex Pre) β val post :=
  ⟨hen, fun g F w hs => by rw [ex_star] at hs; obtain ⟨x, hx⟩ := St.ex.1 hs; exact (h x).calls g F w hx⟩
abbrev vi (n : Int) : Value := .int .i64 n
end Go.Sl
