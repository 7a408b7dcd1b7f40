/- Plain: a program without a disjunction is not changed by Shift. -/
import Derived.Test.YthdjkenhkedjjaaGreatGSb
namespace Go.Proofs.YthdjkenhkedjjaaGreat
theorem lits_idN {xs : List Int} (h : xs.Pairwise (fun a b => litLt a b = true)) : litsOf xs = xs := lit_ext (lits_sorted xs) h fun x => lits_mem x xs
theorem tot_idN : ∀ {xs ys : List Int},xs.Pairwise (fun a b => litLt a b = true) → ys.length = xs.length → xs.map (totP (xs.zip ys)) = ys
 | [],[],_,_ => rfl
 | [],_ :: _,_,h => by simp at h
 | _ :: _,[],_,h => by simp at h
 | x :: xs,y :: ys,h,hl => by
  rw [List.pairwise_cons] at h
  have ih := tot_idN h.2 (by simpa using hl)
  have hx : x ∉ (xs.zip ys).map Prod.fst := fun hm => by
   rw [List.map_fst_zip (by simp at hl; omega)] at hm
   have := h.1 x hm; rw [litLt_irr] at this; cases this
  have hc : ∀ z,totP ((x :: xs).zip (y :: ys)) z = (if x = z then y else 0) + totP (xs.zip ys) z := fun z => by
   unfold totP; rw [List.zip_cons_cons,List.map_cons,List.sum_cons]
  rw [List.map_cons,hc,if_pos rfl,totP_no hx,Int.add_zero]
  congr 1
  refine Eq.trans (List.map_congr_left fun z hz => ?_) ih
  rw [hc,if_neg (fun e => by subst e; have := h.1 x hz; rw [litLt_irr] at this; cases this)]; omega
theorem nodj_free {p : GProg} (h : ∀ r ∈ p.rules,djB r = false) : freeB p = true := by
 rw [free_dj]
 intro r hr hd
 rw [h r hr] at hd; cases hd
theorem sfL_nodj : ∀ {rs : List GRule} {n : Int},(∀ r ∈ rs,djB r = false) → sfL rs n = rs ∧ sfC rs = 0
 | [],_,_ => ⟨rfl,rfl⟩
 | r :: t,n,h => by
  have h1 := h r (by simp)
  have e1 : sfN r = 0 := by unfold sfN; rw [h1]; rfl
  have e2 : sfRule r (n + 1) = [r] := by unfold sfRule; rw [h1]; rfl
  obtain ⟨i1,i2⟩ := sfL_nodj (rs := t) (n := n + (sfN r : Int)) fun x hx => h x (by simp [hx])
  exact ⟨by unfold sfL; rw [e2,i1]; rfl,by show sfN r + sfC t = 0; omega⟩
theorem norm_self {r : GRule} {n : Int} (h : RuleIs r n) : normR r = r := by
 have hp : ∀ {xs : List Int} {q : Option Int},ordGo n q xs = true → xs.Pairwise (fun a b => litLt a b = true) := fun h => ((ordGo_iff _ _ _).1 h).2.1
 have h1 : litsOf r.head = r.head := lits_idN (by
  have := h.head
  unfold incB ordB at this
  rw [Bool.and_eq_true] at this
  exact hp this.1)
 have hb := hp (show ordGo n none r.body = true from h.body)
 have h2 : litsOf r.body = r.body := lits_idN hb
 unfold normR
 rw [h1,h2]
 cases hs : r.sum with
 | true =>
  rw [if_pos rfl,tot_idN hb (h.wlen hs)]
  cases r; simp_all
 | false =>
  rw [if_neg (by decide)]
  have := (h.plain hs).1
  cases r; simp_all
theorem sfP_nodj {p : GProg} (hi : ProgIs p) (h : ∀ r ∈ p.rules,djB r = false) : sfP p = p := by
 obtain ⟨h1,h2⟩ := sfL_nodj (n := p.n) h
 unfold sfP
 rw [h1,h2]
 unfold extP
 have e : p.rules.map normR = p.rules := by
  conv => rhs; rw [← List.map_id p.rules]
  exact List.map_congr_left fun r hr => norm_self (hi.rules r hr)
 rw [e]
 cases p; simp
end Go.Proofs.YthdjkenhkedjjaaGreat
