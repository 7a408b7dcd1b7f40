/- The law StableSplit: the union as the program has laid it out. -/
import Derived.Test.YtdkjanbfheehoaaGreatLvl
import Derived.Test.YtdkjanbfheehoaaGreatSpq
import Derived.Test.YtdkjanbfheehoaaGreatGE
namespace Go.Proofs.YtdkjanbfheehoaaGreat
open Go.RowKit

theorem both_in {p q : GProg} {EP : GProg} {MR : List GRule} {X9 X11 : World} {g lv mb : Nat} {c0 : Array Value} {x0 x1 x2 x3 B1 B2 : Option Addr} {y0 z0 y1 z1 y2 z2 y3 z3 n1 e1 n2 e2 : Nat}
    (hst : St [g] X9 (fun V => ProgIn V EP x0 y0 z0 x1 y1 z1 x2 y2 z2 x3 y3 z3)) (hk : Kept [g] X9 X11) (hEP : EP = extP (withP p.n p.rules) q.n.toNat MR) (hMR : MR = q.rules.map (mvR (shF p.n))) (hq0 : 0 ≤ q.n)
    (hls : LvS (lv + 1) lv X9 (.slice B1 n1 e1) (.slice B2 n2 e2) (lvlL p q) (lvlW p q)) (h1 : (lvlL p q).length ≤ 100000) (h2 : (lvlW p q).length ≤ 100000) (hg : Blk X9 g 27 c0)
    (hm : Blk X11 mb 38 #[.int .i64 0, .slice B1 n1 e1, .slice B2 n2 e2]) : ProgIn X11 (bothP p q) x0 y0 z0 x1 y1 z1 x2 y2 z2 (some ⟨mb, 0, none⟩) 1 1 := by
  have h := hst X11 hk
  have en : EP.n = (bothP p q).n := by
    rw [hEP]
    show p.n + ((q.n.toNat : Nat) : Int) = p.n + q.n
    omega
  have ea : EP.names = (bothP p q).names := by rw [hEP]; rfl
  have es : EP.shown = (bothP p q).shown := by rw [hEP]; rfl
  have er : EP.rules = (bothP p q).rules := by
    rw [hEP, hMR]
    show p.rules ++ (q.rules.map (mvR (shF p.n))).map normR = p.rules ++ q.rules.map (fun r => normR (mvR (shF p.n) r))
    rw [List.map_map]; rfl
  have hT : ∀ {v : Value} {xs : List Int}, RowO intR 3 [] (lv + 1) X9 v xs → xs.length ≤ 100000 → ∀ A l c, v = .slice A l c → SlIs intR X11 A l c xs := fun {v xs} hr hl A l c e => by
    have hr2 := hr.intStep hk fun k hk => by
      have : k = g := by simpa using hk
      subst this
      exact hr.offBlk hg (by decide)
    obtain ⟨A', c', e', s⟩ := hr2.sl (by omega)
    rw [e] at e'
    injection e' with q1 q2 q3
    subst q1 q2 q3
    exact s
  have s1 := hT hls.r1 h1 _ _ _ rfl
  have s2 := hT hls.r2 h2 _ _ _ rfl
  refine ⟨by rw [← en]; exact h.n, by rw [← ea]; exact h.names, by rw [← es]; exact h.shown, by rw [← er]; exact h.rules, ?_⟩
  refine sl_of_cells hm rfl (by omega) fun i x hx => ?_
  match i, hx with
  | 0, hx =>
    have : x = ⟨0, lvlL p q, lvlW p q⟩ := by simpa [bothP] using hx.symm
    subst this
    refine ⟨[.int .i64 0, .slice B1 n1 e1, .slice B2 n2 e2], ⟨_, _, rfl, (by show I64 0; unfold I64; omega), ⟨_, _, _, rfl, s1⟩, ⟨_, _, _, rfl, s2⟩⟩, fun j u hu => ?_⟩
    match j, hu with
    | 0, hu => exact hu
    | 1, hu => exact hu
    | 2, hu => exact hu
    | j + 3, hu => simp at hu
  | i + 1, hx => simp [bothP] at hx
theorem lvl_len {p q : GProg} (hmn : ∀ i : Nat, ((p.min.take i).flatMap (·.lits)).length ≤ 8000 ∧ ((p.min.take i).flatMap (·.w)).length ≤ 8000) (hmq : ∀ i : Nat, ((q.min.take i).flatMap (·.lits)).length ≤ 8000 ∧ ((q.min.take i).flatMap (·.w)).length ≤ 8000) : (lvlL p q).length ≤ 100000 ∧ (lvlW p q).length ≤ 100000 := by
  have a := hmn p.min.length
  have b := hmq q.min.length
  rw [List.take_length] at a b
  unfold lvlL lvlW
  rw [flat_map, List.length_append, List.length_append, List.length_map]
  omega
end Go.Proofs.YtdkjanbfheehoaaGreat
