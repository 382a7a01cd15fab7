/- Slices of structs appended to each other; a region in which two loud operations may come in either order. -/
import Derived.Test.YteomgcebbjoklaaSl1
import Derived.Test.YteomgcebbjoklaaSlY
import Derived.Test.YteomgcebbjoklaaSlL
namespace Go.Sl
open Go
set_option linter.unusedVariables false
set_option linter.unusedSimpArgs false
universe u
section
variable {P : Program} {r : Option Nat} {n : Nat} {Q : PostT} {ρ : Env} {ds : List Deferred} {H A R : HP} {t t' t'' T e : TypeId} {x y : Operand} {all rest : List Oper} {d : Option Nat} {pos : String} {aft : Array Edge} {v v2 : Value} {s bb kk m cap n2 : Nat} {zc cs : List Value} {k k' : IntKind} {i : Int} {α : Type} {a : Option Addr} {ts : Array TypeId}
theorem rdSl_ro (h : Ro A a m s cs) (hs0 : 0 < s) (hn : a = none → cap = 0) (hl : m ≤ cap) : RdSl A s (.slice a m cap) m cs := ⟨h.1, fun g w R hs => by
  cases a with
  | none =>
    have := hn rfl
    left
    have hm : m = 0 := by omega
    subst hm this
    exact ⟨rfl, rfl⟩
  | some ad =>
    right
    refine ⟨ad, cap, rfl, fun j u hj => ?_⟩
    have := (h.2 j u hj).2
    exact hs.cell pk0 this⟩
theorem Ow.append_stl {f : α → List Value} [TT : TyU P T (.slice e)] [S : TyS P e s bb zc] [F : Fl f s] {L M : List α} (hd : dOk n d = true) (hx : ev ρ x = some v) (hy : ev ρ y = some v2) (hp : Pk H (slk s v (L.flatMap f)) R) (hq : RdSl R s v2 M.length (M.flatMap f)) (hz : zc.length = s)
    (hbytes : (L.length + M.length) * bb ≤ 140737488355328 ∧ L.length + M.length ≤ 9223372036854775807)
    (h : ∀ v' : SV, Ow P r n all rest Q (putE d v'.v ρ) ds (slk s v'.v ((L ++ M).flatMap f) * R)) :
    Ow P r n all (⟨d, .call { callee := .builtin .append, args := #[x, y], argTypes := #[T, T] }, t, pos, aft, none⟩ :: rest) Q ρ ds H :=
  Ow.append (m := L.length) hd hx hy hp hq (fun u hu => by
    obtain ⟨z, _, hz⟩ := List.mem_flatMap.1 hu
    exact List.all_eq_true.1 (F.o z) u hz) (flat_len L) F.p hz hbytes (fun v' => by rw [← List.flatMap_append]; exact h v')
theorem Ow.addnilS {L : List Oper} (s : Nat) (f : α → List Value) (h : Ow P r n all L Q ρ ds (slk s (.slice none 0 0) (([] : List α).flatMap f) * H)) : Ow P r n all L Q ρ ds H := Ow.ent (Ent.addnil s (Ent.refl _)) h
end
/-- Orders of a region in which two loud operations may come in either order. -/
inductive Od
  | seq (l : List (Nat × Bool))
  | q (i : Nat) (T : Od)
  | b (i j : Nat) (T T' : Od)
def Od.len : Od → Nat
  | .seq l => l.length
  | .q _ T => T.len + 1
  | .b _ _ T _ => T.len + 1
def odOk (ops : Array Oper) : Od → Array Bool → Bool
  | .seq l, listed => ordOk ops false 0 l listed
  | .q i T, listed => (Region.ready .any ops listed).contains i && Region.free .any ops listed i && odOk ops T (listed.setIfInBounds i true)
  | .b i j T T', listed => (Region.ready .any ops listed == [i, j]) && (Nat.beq T.len T'.len) && (odOk ops T (listed.setIfInBounds i true) && odOk ops T' (listed.setIfInBounds j true))
section
variable {P : Program} {r : Option Nat} {n : Nat} {Q : PostT} {ρ : Env} {ds : List Deferred} {H R A B X : HP} {all : List Oper} {d d' : Option Nat} {t t' : TypeId} {pos pos' : String} {aft aft' : Array Edge} {v : Value} {jt i j : Nat} {ord : List (Nat × Bool)} {T T' : Od}
def Dt (P : Program) (r : Option Nat) (n : Nat) (all : List Oper) (B : HP) (Q : PostT) (ds : List Deferred) (T : Od) (ρ : Env) (X : HP) : Prop :=
  tame all.toArray = true → ∀ g a listed, odOk all.toArray T listed = true → Shut .any all.toArray listed → left all.toArray listed ≤ T.len →
    Rep n ρ a → a.defers = ds → hAny (fen r) P .any all.toArray g B false (fun a H => ∃ ρ, Rep n ρ a ∧ a.defers = ds ∧ Q .normal ρ ds H) T.len listed a (B * X)
theorem Dt.seq (h : Dw P r n all B false 0 Q ds ord ρ X) : Dt P r n all B Q ds (.seq ord) ρ X := fun ht g a listed hok hsh hle hr hd =>
  h (fun h => by cases h) (.inr rfl) ht g a listed hok hsh (.inr (.inr rfl)) hle hr hd
theorem Dt.q {op : Op} {gd : Option (Nat × Bool)} (hi : all[i]? = some ⟨d, op, t, pos, aft, gd⟩) (hd : dOk n d = true) (hg : Gy all ρ gd)
    (hpu : Pu P n ρ B op t v) (h : Dt P r n all B Q ds T (putE d v ρ) X) : Dt P r n all B Q ds (.q i T) ρ X := by
  intro ht g a listed hok hsh hle hr hds
  simp only [odOk, Bool.and_eq_true] at hok
  obtain ⟨⟨hrd, hfr⟩, hok'⟩ := hok
  have hrd' : i ∈ Region.ready .any all.toArray listed := by simpa using hrd
  have hi' : all.toArray[i]? = some ⟨d, op, t, pos, aft, gd⟩ := by simpa using hi
  have hlt := (Array.getElem?_eq_some_iff.1 hi').1
  have hw := wanted_gy (d := d) (op := op) (t := t) (pos := pos) (aft := aft) hg hr
  have hlp := left_put (ops := all.toArray) hlt (mem_ready.1 hrd').1
  refine hAny_first ht (fun _ => trivial) (tl := false) (jt := 0) (fun h => by cases h) hi' (.inr rfl) (.inr rfl) T.len listed a (B * X) hsh (.inr rfl) (.drop _ _) (by simpa [Od.len] using hle) (Region.free_spec hi' hfr) hrd' (.inl ⟨hw, fun w hs => hpu.2 _ _ _ _ g w a hr hs⟩) ?_
  exact h ht g _ _ hok' (hsh.put hrd') (by simp only [Od.len] at hle; omega) (hr.putE hd v) (by cases d <;> exact hds)
/-- A loud one, which the way goes on from as T says. -/
def loudT (P : Program) (r : Option Nat) (n : Nat) (all : List Oper) (B : HP) (Q : PostT) (ds : List Deferred) (T : Od) : PostT := fun e ρ ds' H => e = .normal ∧ ds' = ds ∧ ∃ X, H = B * X ∧ Dt P r n all B Q ds T ρ X
theorem loudT.go (hp : Pk H B X) (h : Dt P r n all B Q ds T ρ X) : loudT P r n all B Q ds T .normal ρ ds H := ⟨rfl, rfl, X, hp, h⟩
theorem loudT_step {op : Op} {gd : Option (Nat × Bool)} {g : Gh} {a : Act} {listed : Array Bool} (ht : tame all.toArray = true) (hi : all[i]? = some ⟨d, op, t, pos, aft, gd⟩) (hg : Gy all ρ gd)
    (h : Ow P r n all [⟨d, op, t, pos, aft, none⟩] (loudT P r n all B Q ds T) ρ ds (B * X)) (hok : odOk all.toArray T (listed.setIfInBounds i true) = true) (hsh : Shut .any all.toArray listed) (hmem : i ∈ Region.ready .any all.toArray listed)
    (hle : left all.toArray listed ≤ T.len + 1) (hr : Rep n ρ a) (hds : a.defers = ds) :
    hStep (fen r) P all.toArray g B i (hAny (fen r) P .any all.toArray g B false (fun a H => ∃ ρ, Rep n ρ a ∧ a.defers = ds ∧ Q .normal ρ ds H) T.len (listed.setIfInBounds i true)) a (B * X) := by
  have hi' : all.toArray[i]? = some ⟨d, op, t, pos, aft, gd⟩ := by simpa using hi
  have hlt := (Array.getElem?_eq_some_iff.1 hi').1
  have hlp := left_put (ops := all.toArray) hlt (mem_ready.1 hmem).1
  have hw := wanted_gy (d := d) (op := op) (t := t) (pos := pos) (aft := aft) hg hr
  unfold hStep
  simp only [hi', hw, if_true]
  refine .inr fun w hs => ?_
  have h1 := h g w a hr hds hs
  simp only [wpListIn, Region.wanted, if_true] at h1
  have hno : ∀ e a w, e ≠ .normal → ¬ toQ n g (loudT P r n all B Q ds T) e a w := fun e a w hne ⟨_, _, _, _, h5⟩ => hne h5.1
  have h2 : Oper.wpIn (fen r) 0 P ⟨d, op, t, pos, aft, gd⟩ a w (toQ n g (loudT P r n all B Q ds T) .normal) (toQ n g (loudT P r n all B Q ds T)) := h1
  have h3 : Oper.wpIn (fen r) 0 P ⟨d, op, t, pos, aft, gd⟩ a w (toQ n g (loudT P r n all B Q ds T) .normal) noQ := by
    unfold Oper.wpIn at *
    refine ⟨h2.1, ?_⟩
    have h2 := h2.2
    generalize ((⟨d, op, t, pos, aft, gd⟩ : Oper).semAt (fen r).round a.eval).run P w = x at *
    cases x with
    | ok x w' =>
      cases x <;> simp only [Oper.uponIn] at h2 ⊢ <;>
        first
          | exact h2
          | exact ⟨h2.1, CallsIn.mono h2.2 (fun e w'' he => by cases e <;> first | exact he | exact (hno _ _ _ (by simp) he).elim | (obtain ⟨_, _, hf⟩ := he; exact (hno _ _ _ (by simp) hf).elim))⟩
          | exact ⟨h2.1, RoundIn.mono h2.2 (fun e w'' he => by cases e <;> first | exact he | exact (hno _ _ _ (by simp) he).elim | (obtain ⟨_, _, hf⟩ := he; exact (hno _ _ _ (by simp) hf).elim))⟩
    | halt x w' => cases x <;> simp only [Oper.uponIn] at h2 ⊢ <;> first | exact h2 | exact (hno _ _ _ (by simp) h2).elim
  refine Oper.wpIn_mono ?_ h3
  rintro a' w' ⟨ρ', H', h4, h5, _, h6, X', rfl, h8⟩
  exact ⟨B * X', h5, h8 ht g a' _ hok (hsh.put hmem) (by omega) h4 h6⟩
theorem Dt.b {op op' : Op} {gd gd' : Option (Nat × Bool)} (hi : all[i]? = some ⟨d, op, t, pos, aft, gd⟩) (hj : all[j]? = some ⟨d', op', t', pos', aft', gd'⟩) (hg : Gy all ρ gd) (hg' : Gy all ρ gd')
    (h : Ow P r n all [⟨d, op, t, pos, aft, none⟩] (loudT P r n all B Q ds T) ρ ds (B * X))
    (h' : Ow P r n all [⟨d', op', t', pos', aft', none⟩] (loudT P r n all B Q ds T') ρ ds (B * X)) : Dt P r n all B Q ds (.b i j T T') ρ X := by
  intro ht g a listed hok hsh hle hr hds
  simp only [odOk, Bool.and_eq_true] at hok
  obtain ⟨⟨hrd, hln⟩, hok1, hok2⟩ := hok
  have hln := Nat.eq_of_beq_eq_true hln
  have hrd' : Region.ready .any all.toArray listed = [i, j] := by simpa using hrd
  change hAny (fen r) P .any all.toArray g B false _ (T.len + 1) listed a (B * X)
  refine And.intro (Ent.drop _ _) (And.intro (fun h0 => by rw [hrd'] at h0; cases h0) (fun k hk => ?_))
  have hmem : k ∈ Region.ready .any all.toArray listed := hk
  rw [hrd'] at hk
  have hk2 : k = i ∨ k = j := by simpa using hk
  rcases hk2 with rfl | rfl
  · exact loudT_step ht hi hg h hok1 hsh hmem hle hr hds
  · rw [hln]; exact loudT_step ht hj hg' h' hok2 hsh hmem (by rw [← hln]; exact hle) hr hds
theorem Cw.drawT {id : Nat} (B : HP) (T : Od) (hH : Pk H B X) (hm : P.follows .mixedOrders = true) (hok : (tame all.toArray && odOk all.toArray T (Array.replicate all.length false) && Nat.beq T.len all.length) = true)
    (h : Dt P r n all B Q ds T ρ X) : Cw P r n (.region id all.toArray true) Q ρ ds H := by
  simp only [Bool.and_eq_true] at hok
  obtain ⟨⟨h1, h2⟩, h4⟩ := hok
  have h4 := Nat.eq_of_beq_eq_true h4
  intro g w a hr hd hs
  refine wpIn_region_any hm ?_
  have hh := h h1 g a _ h2
    (fun k ok hk hl e he hb => by
      rcases Nat.lt_or_ge k all.length with h' | h'
      · simp [h'] at hl
      · simp [Nat.not_lt.2 h'] at hl)
    (by unfold left; rw [h4]; exact Nat.le_trans List.countP_le_length (by simp)) hr hd
  rw [h4] at hh
  exact wpAnyIn_of_hAny (fun _ => trivial) h1 (fun a H w hs ⟨ρ, h5, h6, h7⟩ => ⟨ρ, H, h5, hs, h6 ▸ h7⟩) _ _ _ _ _ (St.drew _ (hs.mono (Ent.of_eq hH))) hh
end
section
open Go.ChangeShapes Go.WideShapes Go.ChangeAt Go.RowKit
variable {H : Type} {enc : TypeId × Value → H} {P : Program} {W : World} {t e : TypeId} {v : Value} {d : DataW H} {p : List MemPlace}
/-- An argument of structs; what nil has, too. -/
theorem ro_slice0 {α : Type} [Inhabited α] {dc : α → List Value} {I : α → Prop} {s : Nat} (ht : P.underlying t = some (.slice e)) (hc : P.cellsOf e = s) (hs : ∀ x, (dc x).length = s)
    (hel : ∀ n cs y, DataW.trod enc P W 0 (fun _ => true) true n e cs = some y → ∃ x, I x ∧ cs = dc x)
    {base : Nat} (hv : Value.okWide P W .any base t v) (h : DataW.Trod enc P W 0 (fun _ => true) true t v d p) :
    ∃ (a : Option Addr) (c : Nat) (l : List α), v = .slice a l.length c ∧ l.length ≤ 9223372036854775807 ∧ Ro (Sl.all W) a l.length s (l.flatMap dc) ∧ (∀ x ∈ l, I x) ∧ Len d l.length ∧ (a = none → c = 0) ∧ l.length ≤ c := by
  obtain ⟨a, c, l, rfl, h1, h2, h3, h4⟩ := ro_slice ht hc hs hel hv h
  obtain ⟨fuel, hf⟩ := h
  refine ⟨a, c, l, rfl, h1, h2, h3, h4, ?_⟩
  rcases DataW.trod_slice ht hf with ⟨hcs, hx⟩ | ⟨a', len', cap', elems, rest, n, _, hcs, hx, hb, hl, hm, hlen, hel', _, _⟩
  · simp [Value.cells] at hcs
    obtain ⟨rfl, hl0, rfl⟩ := hcs
    exact ⟨fun _ => rfl, by simp [hl0]⟩
  · simp [Value.cells] at hcs
    obtain ⟨rfl, rfl, rfl⟩ := hcs
    exact ⟨(fun h => by cases h), hl⟩
end
section
variable {P : Program} {n : Nat} {ρ : Env} {H R : HP} {t t' T e : TypeId} {x y : Operand} {k : IntKind} {b o j m cap s bb : Nat} {zc : List Value}
theorem Pu.idxC [TT : TyU P T (.slice e)] [S : TyS P e s bb zc] (hx : ev ρ x = some (.slice (some ⟨b, o, none⟩) m cap)) (hy : ev ρ y = some (.int k (j : Int))) (hj : j < m) :
    Pu P n ρ H (.indexAddr T x y) t (.pointer (some ⟨b, o + j * s, none⟩)) := by
  have := Pu.idx (P := P) (n := n) (H := H) (t := t) (TT := TT) (S := S) hx hy ⟨by omega, by omega⟩
  rwa [Int.toNat_natCast, addr_add] at this
end
end Go.Sl
