/- Loads of cells that no call turns, in a region that draws its order: a load may stand ahead of a call or behind it; both come to the same. Out of the library's own law on operations that yield in whatever world, by two stand-ins of the load: one that moves the value itself, one that only looks at the load's operand. -/
import Derived.Test.YtiomfncbhbokpaaTLev
import Derived.Deep.RegionWith
namespace Go.Proofs.Ytiomfncbhbokpaa
open Go.RowKit
set_option linter.unusedVariables false

section
variable {I : World → Prop} {P : Program} {ops : Array Oper} {Q : Exit → Act → World → Prop} {md : Region.Mode}

/-- A load that is carried out, and that gives v wherever I holds. -/
structure Loads (I : World → Prop) (P : Program) (ops : Array Oper) (i : Nat) (dst : Option Tmp) (T : TypeId) (x : Operand) (v : Value) (a : Act) : Prop where
  is : ∃ ty pos after g, ops[i]? = some ⟨dst, .load T x, ty, pos, after, g⟩ ∧ Region.wanted ⟨dst, .load T x, ty, pos, after, g⟩ (yielded ops a.tmps) = true ∧ ∀ w, I w → (execOp a.eval ⟨dst, .load T x, ty, pos, after, g⟩).run P w = .ok (.value v) w
  real : a.eval x ≠ undef

theorem Loads.now {i : Nat} {dst : Option Tmp} {T : TypeId} {x : Operand} {v : Value} {a : Act} {w : World} {K : Act → World → Prop} (h : Loads I P ops i dst T x v a) (hI : I w) (hK : K (a.put dst v) w) : wpOp P ops Q i K a w := by
  obtain ⟨ty, pos, after, g, hi, hw, hv⟩ := h.is
  refine wpOp_step hi fun K' hK' => ?_
  rw [if_pos hw]
  unfold Oper.wp
  rw [hv w hI]
  exact hK' _ _ hK
/-- What is apart from a load is apart from a stand-in that looks at no more. -/
theorem apart_const {dst : Option Tmp} {T : TypeId} {x : Operand} {v : Value} {ty : TypeId} {pos : String} {after : Array Edge} {g : Option (Nat × Bool)} {o : Oper} (h : (⟨dst, .load T x, ty, pos, after, g⟩ : Oper).apart ops o = true) : (⟨dst, .move (.const v), ty, pos, after, none⟩ : Oper).apart ops o = true := by
  unfold Oper.apart at *
  rw [Bool.and_eq_true] at *
  refine ⟨h.1, ?_⟩
  cases o.dst <;> simp [Oper.looksAt, Op.operands]
theorem apart_look {dst : Option Tmp} {T : TypeId} {x : Operand} {ty : TypeId} {pos : String} {after : Array Edge} {g : Option (Nat × Bool)} {o : Oper} (h : (⟨dst, .load T x, ty, pos, after, g⟩ : Oper).apart ops o = true) : (⟨none, .move x, ty, pos, after, g⟩ : Oper).apart ops o = true := by
  unfold Oper.apart at *
  rw [Bool.and_eq_true] at *
  exact ⟨rfl, h.2⟩
/-- An operation that goes on from a world and a frame where the load was done goes on without it, and the load may still be done behind. -/
theorem Loads.later {i j : Nat} {oj : Oper} {dst : Option Tmp} {T : TypeId} {x : Operand} {v : Value} {a : Act} {w : World} {K : Act → World → Prop} (h : Loads I P ops i dst T x v a) (hj : ops[j]? = some oj)
    (hap : ((ops[i]?).all fun o => o.apart ops oj) = true) (hs : ∀ cs b, oj.op ≠ .select cs b)
    (hQ : ∀ c a w, Q (.panic c) (a.put dst v) w → Q (.panic c) a w) (hK : wpOp P ops Q j K (a.put dst v) w) : wpOp P ops Q j (fun a' w' => Loads I P ops i dst T x v a' ∧ K (a'.put dst v) w') a w := by
  obtain ⟨ty, pos, after, g, hi, hw, hv⟩ := h.is
  have hap : (⟨dst, .load T x, ty, pos, after, g⟩ : Oper).apart ops oj = true := by rw [hi] at hap; exact hap
  have h1 := wpOp_put (P := P) (Q := Q) (oi := ⟨dst, .move (.const v), ty, pos, after, none⟩) (v := v) hj (apart_const hap) (fun _ _ e => by cases e) hs hQ (.inl ⟨rfl, fun _ => rfl⟩) hK
  have h2 := wpOp_put (P := P) (Q := Q) (oi := ⟨none, .move x, ty, pos, after, g⟩) (v := a.eval x) (a := a) hj (apart_look hap) (fun _ _ e => by cases e) hs (fun _ _ _ q => q) (.inl ⟨hw, fun _ => rfl⟩) h1
  refine wpOp_mono (fun a' w' h3 => ?_) h2
  obtain ⟨hy, -, hk⟩ := h3
  rcases hy with ⟨hw', he⟩ | ⟨-, he⟩
  · have hx : a'.eval x = a.eval x := by
      have := he w'
      injection this with e1 _
      injection e1
    exact ⟨⟨⟨ty, pos, after, g, hi, hw', fun W hW => by rw [← hv W hW]; simp only [execOp, hx]⟩, by rw [hx]; exact h.real⟩, hk⟩
  · exact absurd he h.real

/-- A load and a call: the load first. -/
theorem wpAny_load {i c fuel : Nat} {oc : Oper} {rs : List Nat} {dst : Option Tmp} {T : TypeId} {x : Operand} {v : Value} {listed : Array Bool} {a : Act} {w : World} (hl : Loads I P ops i dst T x v a) (hI : I w) (hc : ops[c]? = some oc)
    (hap : ((ops[i]?).all fun o => o.apart ops oc) = true) (hs : ∀ cs b, oc.op ≠ .select cs b) (hQ : ∀ c a w, Q (.panic c) (a.put dst v) w → Q (.panic c) a w)
    (r0 : Region.ready md ops listed = rs) (hne : rs ≠ []) (hrs : ∀ k ∈ rs, k = c ∨ k = i) (r1 : Region.ready md ops (listed.setIfInBounds c true) = [i]) (r2 : Region.ready md ops (listed.setIfInBounds i true) = [c]) (hci : c ≠ i)
    (H : wpOp P ops Q c (fun a' w' => I w' ∧ wpAny P md ops Q fuel ((listed.setIfInBounds i true).setIfInBounds c true) a' w') (a.put dst v) w) : wpAny P md ops Q (fuel + 2) listed a w := by
  refine wpAny_all r0 hne fun k hk => ?_
  rcases hrs k hk with rfl | rfl
  · refine wpOp_mono (fun a' w' h => ?_) (hl.later hc hap hs hQ H)
    refine wpAny_all r1 (by simp) fun q hq => ?_
    obtain rfl := List.mem_singleton.1 hq
    refine h.1.now h.2.1 ?_
    rw [Array.setIfInBounds_comm _ _ hci]
    exact h.2.2
  · refine hl.now hI (wpAny_all r2 (by simp) fun q hq => ?_)
    obtain rfl := List.mem_singleton.1 hq
    exact wpOp_mono (fun _ _ h => h.2) H
/-- Two loads, the first of which a call waits for: both first. -/
theorem wpAny_loads {i j c fuel : Nat} {oc : Oper} {rs : List Nat} {di dj : Option Tmp} {Ti Tj : TypeId} {x y : Operand} {v u : Value} {listed : Array Bool} {a : Act} {w : World} (hi : Loads I P ops i di Ti x v a) (hj : Loads I P ops j dj Tj y u (a.put di v)) (hj0 : Loads I P ops j dj Tj y u a) (hi0 : Loads I P ops i di Ti x v (a.put dj u)) (hI : I w) (hd : ∀ d, di = some d → dj ≠ some d)
    (hc : ops[c]? = some oc) (hap : ((ops[j]?).all fun o => o.apart ops oc) = true) (hs : ∀ cs b, oc.op ≠ .select cs b) (hQ : ∀ c a w, Q (.panic c) (a.put dj u) w → Q (.panic c) a w)
    (r0 : Region.ready md ops listed = [i, j]) (ri : Region.ready md ops (listed.setIfInBounds i true) = rs) (hne : rs ≠ []) (hrs : ∀ k ∈ rs, k = c ∨ k = j) (rj : Region.ready md ops (listed.setIfInBounds j true) = [i])
    (ric : Region.ready md ops ((listed.setIfInBounds i true).setIfInBounds c true) = [j]) (rij : Region.ready md ops ((listed.setIfInBounds i true).setIfInBounds j true) = [c]) (hcj : c ≠ j) (hij : i ≠ j)
    (H : wpOp P ops Q c (fun a' w' => I w' ∧ wpAny P md ops Q fuel (((listed.setIfInBounds i true).setIfInBounds j true).setIfInBounds c true) a' w') ((a.put di v).put dj u) w) : wpAny P md ops Q (fuel + 3) listed a w := by
  refine wpAny_all r0 (by simp) fun k hk => ?_
  rcases List.mem_cons.1 hk with rfl | hk
  · exact hi.now hI (wpAny_load hj hI hc hap hs hQ ri hne hrs ric rij hcj H)
  · obtain rfl := List.mem_singleton.1 hk
    refine hj0.now hI (wpAny_all rj (by simp) fun q hq => ?_)
    obtain rfl := List.mem_singleton.1 hq
    refine hi0.now hI ?_
    rw [Array.setIfInBounds_comm _ _ (Ne.symm hij), ← Act.put_comm a v u hd]
    refine wpAny_all rij (by simp) fun q hq => ?_
    obtain rfl := List.mem_singleton.1 hq
    exact wpOp_mono (fun _ _ h => h.2) H
end
end Go.Proofs.Ytiomfncbhbokpaa
