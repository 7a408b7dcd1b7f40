/- Mdp -/
import Derived.Test.YthdjkenhkedjjaaGreatG6
import Derived.Test.YthdjkenhkedjjaaGreatG5
namespace Go.Proofs.YthdjkenhkedjjaaGreat
open Go.RowKit
theorem info_str:(Tryz.prog.info? 9).map (fun i=>(i.zero,i.size,i.bytes))=some (some (.string ByteArray.empty),1,16):=by kernel_rfl
theorem make_str (n:Nat)(hn:n≤1048576)(W:World):
  (Instr.makeSlice 22 (.int .i64 (n:Int)) (.int .i64 (n:Int))).run Tryz.prog W=.ok (.slice (some ⟨W.heap.size,0,none⟩) n n) (W.alloc (.cells (valCells n (fun _=>.string ByteArray.empty)) 9)):=by
 have h:=run_make_row' (P:=Tryz.prog) 22 9 (.string ByteArray.empty) 16 Tryz.underlying22 info_str rfl .i64 .i64 n (by omega) (by omega) W
 have e:madeCells #[Value.string ByteArray.empty] n=valCells n (fun _=>.string ByteArray.empty):=by
  unfold madeCells valCells;apply Array.ext
  ·simp
  ·intro i h1 h2;simp[Nat.mod_one]
 rw[h,e]
def wthO (n:Nat)(rA:OA)(rl rc h:Nat):List Obj:=[.cells #[.int .i64 (n:Int),.slice (some ⟨h+1,0,none⟩) n n,.slice none 0 0,.slice rA rl rc,.slice none 0 0] 27,.cells (valCells n (fun _=>.string ByteArray.empty)) 9]
end Go.Proofs.YthdjkenhkedjjaaGreat
namespace Go.Proofs.YthdjkenhkedjjaaGreat
open Go.RowKit
theorem redOne_len2 (m:LI)(r:GRule)(c:Nat)(h:r.head.length≤c):(redOne m r).length≤c+1:=by
 unfold redOne;split
 ·simp
 ·split
  ·rw[List.length_map];have:=List.length_filter_le (fun a=>decide (a∈m)) r.head;omega
  ·simp
theorem reductL_len2 (m:LI)(c:Nat):∀(rs:LG),(∀r∈rs,r.head.length≤c)→(reductL rs m).length≤(c+1)*rs.length
 |[],_=>by simp[reductL]
 |r::t,h=>by
  have h1:=redOne_len2 m r c (h r (by simp));have h2:=reductL_len2 m c t fun x hx=>h x (by simp[hx]);have e:reductL (r::t) m=redOne m r++reductL t m:=by simp[reductL]
  rw[e,List.length_append,List.length_cons,Nat.mul_succ];omega
theorem few_head {p:GProg}(h:fewB p=true):p.rules.length≤16∧∀r∈p.rules,r.head.length≤36:=by
 unfold fewB at h;simp only[Bool.and_eq_true,decide_eq_true_eq,List.all_eq_true]at h
 exact⟨h.1.1.2,fun r hr=>by have:=h.2.2.1 r hr;omega⟩
theorem valid_n {p:GProg}(h:validE p=0):0≤p.n:=(namedB_n (validE_is h).named).1
theorem check_of {p:GProg}{m:LI}(hv:validE p=0)(hm:incB p.n m=true):checkE p m=0:=by
 unfold checkE;rw[hv,hm];rfl
theorem models_ok (p:GProg)(nA:OA)(nl nc:Nat)(sA:OA)(sl sc:Nat)(rA:OA)(rl rc:Nat)(mA:OA)(ml mc:Nat)(xA:OA)(xl xc:Nat)(m:LI)(w:World)(hp:ProgIn w p nA nl nc sA sl sc rA rl rc mA ml mc)(hm:SlIs intR w xA xl xc m)(h:checkE p m=0):
  Calls Tryz.prog 19 #[.agg #[.int .i64 p.n,.slice nA nl nc,.slice sA sl sc,.slice rA rl rc,.slice mA ml mc],.slice xA xl xc] w fun e w'=>e=.returned (.tuple #[.bool (modelB p m),.int .i64 0])∧Below w.heap.size w w':=by
 have:=models_any p nA nl nc sA sl sc rA rl rc mA ml mc xA xl xc m w hp hm
 rw[h,show (decide ((0:Int)=0) && modelB p m)=modelB p m by simp]at this;exact this
