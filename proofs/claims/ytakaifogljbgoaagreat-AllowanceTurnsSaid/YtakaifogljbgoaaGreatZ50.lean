/- Parts of the proof, part 50: MiT, MiM, MiW, TwM, LAtn. -/
import Derived.Test.YtakaifogljbgoaaGreatZ48
import Derived.Test.YtakaifogljbgoaaGreatZ49
import Derived.Test.YtakaifogljbgoaaGreatZ47
set_option linter.all false
namespace Go.F
attribute [local irreducible] IntKind.wrap wpM
section
variable {nx0:Nat}{t:q0z}{h:q0e}{z:Frz}{nx:Nat}
theorem q21 {live:Live}{s1:St}{ids:List (Option Nat)}{vs:List D}{bs:List (Option Blk)}{zs:List Nat}{K:q0e→Frz→Kept→Prop}
 (hn:q4V live ⟨t,h,z,nx⟩=s1) (hi:q1W s1.tmps s1.heap live=ids) (ho:q3H nx0 ids s1.heap s1.tmps live=true)
 (hv:qf2 nx0 ids s1.tmps live=vs) (hb:q7F nx0 ids none (fun i=>q7A nx0 ids (s1.heap i)) ids nx0=bs) (hz:q7F nx0 ids 0 s1.frz ids nx0=zs)
 (hk:K s1.heap s1.frz (vs,bs,zs)) (hnst:q5e live=true:=by rfl):q15 nx0 live t h z nx K:=by
 unfold q15
 rw[hnst]
 simp only
 refine⟨s1.heap,s1.frz,(vs,bs,zs),hk,?_⟩
 unfold qa7
 rw[hn,hi,qtX ho]
 simp only
 unfold qtH
 rw[hi,ho]
 simp only
 rw[qfH,hv,q69 _ _ (Nat.le_refl _),q69 _ _ (Nat.le_refl _),hb,hz]
end
def qB6 (L a:Int):Int:=if 0≤a∧a≤L then IntKind.i64.wrap (L-a)else 0
def qqn (l:List Edge)(n:Ntc):Ntc:=⟨((l.length:Int)-n.edge).tmod l.length,qB6 (if(q16 (eg l n.edge.toNat).line).2=0 then(q16 (eg l n.edge.toNat).line).1 else 0) n.at_⟩
set_option maxHeartbeats 4000000 in
theorem qeZ (n:Ntc)(l:List Edge)(h0:0≤n.edge)(h1:n.edge<l.length)(hl:l.length≤1000):PU qkq [n.enc,edges l]=some (qqn l n).enc:=by
 have hx:=q1D (l:=l) (i:=n.edge.toNat) (by omega)
 have hL:=q44 (eg l n.edge.toNat).line
 unfold qqn
 generalize q16 (eg l n.edge.toNat).line=L at*
 have w1:=ww (x:=(l.length:Int)-n.edge)
 refine q0g (fn:=qaK) rfl (q0a ?_)
 refine gg rfl (q0j n.edge.toNat rfl rfl (by omega) hx rfl ?_)
 refine gg rfl (q02 rfl rfl hL (gg rfl (q01 rfl (fun g=>?_) (fun g=>?_))))
 ·rw[q0w]at g
  rw[if_neg g]
  refine gg rfl (q08 rfl (fun f=>?_) (fun f=>?_))
  ·rw[q0G]at f
   refine gg rfl (q01 rfl (fun f2=>?_) (fun f2=>?_))
   ·rw[q0G]at f2
    refine gg rfl ?_
    rw[List.length_map,w1]
    refine q2K rfl rfl (by omega) ?_
    refine gg rfl (q09 rfl rfl rfl trivial ?_)
    unfold qB6
    rw[if_pos ⟨f,f2⟩];rfl
   rw[q0I]at f2
   refine gg rfl ?_
   rw[List.length_map,w1]
   refine q2K rfl rfl (by omega) ?_
   refine gg rfl (q09 rfl rfl rfl trivial ?_)
   unfold qB6
   rw[if_neg (by omega)];rfl
  rw[q0I]at f
  refine gg rfl (q0i rfl (gg rfl ?_))
  rw[List.length_map,w1]
  refine q2K rfl rfl (by omega) ?_
  refine gg rfl (q09 rfl rfl rfl trivial ?_)
  unfold qB6
  rw[if_neg (by omega)];rfl
 rw[q0B]at g
 rw[if_pos g]
 refine gg rfl (q08 rfl (fun f=>?_) (fun f=>?_))
 ·rw[q0G]at f
  refine gg rfl (q01 rfl (fun f2=>?_) (fun f2=>?_))
  ·rw[q0G]at f2
   refine gg rfl ?_
   rw[List.length_map,w1]
   refine q2K rfl rfl (by omega) ?_
   refine gg rfl (q09 rfl rfl rfl trivial ?_)
   unfold qB6
   rw[if_pos ⟨f,f2⟩];rfl
  rw[q0I]at f2
  refine gg rfl ?_
  rw[List.length_map,w1]
  refine q2K rfl rfl (by omega) ?_
  refine gg rfl (q09 rfl rfl rfl trivial ?_)
  unfold qB6
  rw[if_neg (by omega)];rfl
 rw[q0I]at f
 refine gg rfl (q0i rfl (gg rfl ?_))
 rw[List.length_map,w1]
 refine q2K rfl rfl (by omega) ?_
 refine gg rfl (q09 rfl rfl rfl trivial ?_)
 unfold qB6
 rw[if_neg (by omega)];rfl
end Go.F

namespace Go.F
attribute [local irreducible] IntKind.wrap wpM
def cD (id k:Nat):D:=if k=0 then .lst []else .ref id 0 k
def cB (l:List D)(sz:Nat):Option Blk:=if l=[]then none else some (.row l sz)
def qD (nm:ByteArray)(E:List Edge)(gr:Int)(mt:Bool)(m w k:Nat):D:=.agg [.str nm,edges E,.int .i64 gr,cD 77 k,.ref 7 0 m,cD 64 w,.bool mt]
def OldM (b2:Blk)(qd:D)(cs:List Spot)(ws:List Int)(ns:List Ntc)(h:q0e)(z:Frz):Prop:=
 (∃h0:q0e,h=upd (upd (upd (upd (upd h0 2 (some b2)) 3 (some (.row [qd] 7))) 7 (some (.row (cs.map Spot.enc) 2))) 64 (cB (ws.map q00) 1)) 77 (cB (ns.map Ntc.enc) 2))∧
 ∃z0:Frz,z=upd (upd (upd (upd (upd z0 2 0) 3 0) 7 0) 64 0) 77 0
theorem OldM.of {b2:Blk}{qd:D}{cs:List Spot}{ws:List Int}{ns:List Ntc}{h:q0e}{z:Frz}(h2:h 2=some b2)(h3:h 3=some (.row [qd] 7))(h7:h 7=some (.row (cs.map Spot.enc) 2))(h64:h 64=cB (ws.map q00) 1)(h77:h 77=cB (ns.map Ntc.enc) 2)
 (z2:z 2=0) (z3:z 3=0) (z7:z 7=0) (z64:z 64=0) (z77:z 77=0):OldM b2 qd cs ws ns h z:=by
 refine⟨⟨h,?_⟩,z,?_⟩
 ·rw[q4x h2,q4x h3,q4x h7,q4x h64,q4x h77]
 rw[q4x z2,q4x z3,q4x z7,q4x z64,q4x z77]
theorem q5a {nx0:Nat}(hx:77<nx0)(ids:List (Option Nat))(nm:ByteArray)(E:List Edge)(gr:Int)(mt:Bool)(m w k:Nat):q2B nx0 ids (some (.row [qD nm E gr mt m w k] 7))=true:=by
 have one:∀(id k:Nat),id≤77→q6I nx0 ids (cD id k)=true:=by
  intro id k hid
  unfold cD
  split
  ·rfl
  show(match Nat.blt id nx0,placeOf ids id nx0 with|true,_=>true|false,some _=>true|false,none=>false)=true
  rw[show Nat.blt id nx0=true from Nat.ble_eq_true_of_le (by omega)]
 have h7:q6I nx0 ids (.ref 7 0 m)=true:=by
  show(match Nat.blt 7 nx0,placeOf ids 7 nx0 with|true,_=>true|false,some _=>true|false,none=>false)=true
  rw[show Nat.blt 7 nx0=true from Nat.ble_eq_true_of_le (by omega)]
 show([qD nm E gr mt m w k].all (okD nx0 ids))=true
 show((q6I nx0 ids (.str nm)&&(q6I nx0 ids (edges E)&&(q6I nx0 ids (.int .i64 gr)&&(q6I nx0 ids (cD 77 k)&&(q6I nx0 ids (.ref 7 0 m)&&(q6I nx0 ids (cD 64 w)&&(q6I nx0 ids (.bool mt)&&true)))))))&&true)=true
 rw[one 77 k (by omega),one 64 w (by omega),h7]
 rfl
theorem qGY {nx0:Nat}{h:q0e}{id sz:Nat}{l:List D}(hh:h id=cB l sz)(hl:l.all (plain 4)=true):q1h nx0 h id=cB l sz:=by
 unfold q1h
 rw[hh]
 unfold cB
 split
 ·rfl
 rw[q7z (b:=some (.row l sz)) hl];rfl
theorem OldM.old {nx0:Nat}(hx:77<nx0){b2:Blk}{nm:ByteArray}{E:List Edge}{gr:Int}{mt:Bool}{m w k:Nat}{cs:List Spot}{ws:List Int}{ns:List Ntc}{h:q0e}{z:Frz}(p2:q1y (some b2)=true)
 (h2:h 2=some b2) (h3:h 3=some (.row [qD nm E gr mt m w k] 7)) (h7:h 7=some (.row (cs.map Spot.enc) 2)) (h64:h 64=cB (ws.map q00) 1) (h77:h 77=cB (ns.map Ntc.enc) 2)
 (z2:z 2=0) (z3:z 3=0) (z7:z 7=0) (z64:z 64=0) (z77:z 77=0):OldM b2 (qD nm E gr mt m w k) cs ws ns (q1h nx0 h) z:=by
 refine OldM.of (q3p h2 p2) ?_ (q3p h7 (q8s q0r _ _)) (qGY h64 (q05 q4Q _)) (qGY h77 (q05 (fun _=>rfl) _)) z2 z3 z7 z64 z77
 unfold q1h
 rw[h3,q5a hx];rfl
theorem qCC {α:Type}{f:α→D}{nx0:Nat}(hf:∀x,plain 4 (f x)=true)(l:List α)(ids:List (Option Nat)):(l.map f).all (okD nx0 ids)=true:=by
 rw[List.all_map,List.all_eq_true]
 intro x _
 exact qtF (hf x)
theorem qyp {α:Type}{f:α→D}{nx0:Nat}(hf:∀ids x,qxu nx0 ids (f x)=f x)(l:List α)(ids:List (Option Nat)):(l.map f).map (qxu nx0 ids)=l.map f:=by
 rw[List.map_map]
 exact List.map_congr_left fun x _=>hf ids x
end Go.F

namespace Go.F
attribute [local irreducible] IntKind.wrap wpM
theorem q70 {l:List D}{sz:Nat}(h:l≠[]):cB l sz=some (.row l sz):=if_neg h
def wTo (ws:List Int)(k:Nat):List Int:=(List.range ws.length).map fun i=>if i<k then wd ws ((ws.length-i)%ws.length)else wd ws i
theorem qo0 (ws:List Int)(k:Nat):(wTo ws k).length=ws.length:=by simp[wTo]
theorem qqo (ws:List Int):wTo ws 0=ws:=by
 apply List.ext_getElem
 ·simp[wTo]
 intro i h1 h2;simp[wTo,wd,h2]
theorem qqp (ws:List Int)(k:Nat):(wTo ws k).set k (wd ws ((ws.length-k)%ws.length))=wTo ws (k+1):=by
 apply List.ext_getElem
 ·simp[wTo]
 intro i h1 h2
 rw[List.getElem_set]
 simp only[wTo,List.getElem_map,List.getElem_range]
 split
 ·rename_i e;subst e;rw[if_pos (by omega)]
 rename_i e
 by_cases hi:i<k
 ·rw[if_pos hi,if_pos (by omega)]
 rw[if_neg hi,if_neg (by omega)]
theorem qvD (ws:List Int):wTo ws ws.length=wsT ⟨true,0⟩ ws:=by
 unfold wTo wsT q2e
 apply List.map_congr_left
 intro i hi
 rw[if_pos (by simpa using hi),if_pos rfl]
theorem qkA {ws:List Int}(h:0<ws.length)(k:Nat):(wTo ws k).map q00≠[]:=by
 intro e
 have:=congrArg List.length e
 rw[List.length_map,qo0]at this
 simp at this
 rw[this]at h
 exact absurd h (by decide)
set_option maxRecDepth 100000 in
set_option maxHeartbeats 16000000 in
theorem qfF (p:Piece)(b2:Blk)(nm:ByteArray)(E:List Edge)(gr:Int)(mt:Bool)(cs:List Spot)(hp2:q1y (some b2)=true)(hn2:p.edges.length≤1000)(hw:p.widths.length=p.edges.length)(hcs:cs.length=p.corners.length)(hns:p.notches.length≤1000)
 {h:q0e} {z:Frz} {K:D→q0e→Frz→Nat→Prop}
 (hold:OldM b2 (qD nm E gr mt p.corners.length p.widths.length p.notches.length) cs p.widths p.notches h z)
 (hk:∀(h':q0e) (z':Frz) (cs':List Spot) (ns':List Ntc),cs'.length=p.corners.length→ns'.length=p.notches.length→OldM b2 (qD nm E gr mt p.corners.length p.widths.length p.notches.length) cs' (wsT ⟨true,0⟩ p.widths) ns' h' z'→K (.tup []) h' z' 175):
 wpM TT (shr TT 5) 83 [.code k_grade_mirror.code] .normal (enter [p.enc,.ptr 3 0 0]) h z 83 (qdr k_grade_mirror K):=by
 obtain⟨⟨h0,rfl⟩,z0,rfl⟩:=hold
 refine gg rfl ?_
 rw[List.length_map]
 refine q01 rfl (fun g=>?_) (fun g=>?_)
 ·rw[q1I]at g
  have hcl:p.corners.length=p.edges.length:=by rw[List.length_map]at g;omega
  refine gg rfl (q5P (d:=.ref 7 0 p.corners.length) rfl rfl rfl rfl (gg rfl ?_))
  by_cases hn0:p.edges.length=0
  ·have hc0:p.corners.length=0:=by omega
   refine qwB rfl rfl (by show(_&&q8l [.ref 7 0 p.corners.length])=true;rw[hc0];rfl) ?_
   refine gg rfl (q2X (S:=fun i:Nat=>([.ptr 3 0 0,.ptr 84 0 0,q00 p.edges.length,.lst [],q00 p.edges.length,q00 i,.bad],[none,some (.row [p.enc] 7),none,none,none,none,none],[0,0,0,0,0,0,0])) (O:=fun _ ho zo=>OldM b2 (qD nm E gr mt p.corners.length p.widths.length p.notches.length) cs p.widths p.notches ho zo) (C:=fun i=>i≤p.edges.length) (m:=fun i=>p.edges.length-i) 0 (Nat.zero_le _) (by omega) ?_ ?_)
   ·refine q21 (vs:=[.ptr 3 0 0,.ptr 84 0 0,q00 p.edges.length,.lst [],q00 p.edges.length,q00 ((0:Nat):Int),.bad]) (bs:=[none,some (.row [p.enc] 7),none,none,none,none,none]) (zs:=[0,0,0,0,0,0,0]) rfl rfl ?_ ?_ ?_ ?_ ⟨rfl,OldM.old (nx0:=83) (by decide) hp2 rfl rfl rfl rfl rfl rfl rfl rfl rfl rfl⟩
    ·show(q2B 83 _ (some (.row [qD nm E gr mt p.corners.length p.widths.length p.notches.length] 7))&&true)=true
     rw[q5a (by decide)];rfl
    ·rfl
    ·rfl
    rfl
   rintro i hi ho zo hold N hN
   obtain⟨⟨h1,rfl⟩,z1,rfl⟩:=hold
   refine gg rfl (q0i (by show D.bool (ltb _ _)=D.bool false;rw[q07.2 (by omega)]) ?_)
   clear hN
   refine gg rfl (q04 (gg rfl ?_))
   rw[List.length_map]
   refine q01 rfl (fun _=>?_) (fun g2=>?_)
   rotate_left
   ·rw[q1J]at g2
    try rw[List.length_map]at g2
    omega
   refine gg rfl (q2X (S:=fun j:Nat=>([.ptr 3 0 0,.ptr 84 0 0,q00 p.edges.length,q00 p.edges.length,q00 j,.bad],[none,some (.row [p.enc] 7),none,none,none,none],[0,0,0,0,0,0])) (O:=fun j ho zo=>OldM b2 (qD nm E gr mt p.corners.length p.widths.length p.notches.length) cs (wTo p.widths j) p.notches ho zo) (C:=fun j=>j≤p.edges.length) (m:=fun j=>p.edges.length-j) 0 (Nat.zero_le _) (by omega) ?_ ?_)
   ·refine q21 (vs:=[.ptr 3 0 0,.ptr 84 0 0,q00 p.edges.length,q00 p.edges.length,q00 ((0:Nat):Int),.bad]) (bs:=[none,some (.row [p.enc] 7),none,none,none,none]) (zs:=[0,0,0,0,0,0]) rfl rfl ?_ ?_ ?_ ?_ ?_
    ·show(q2B 83 _ (some (.row [qD nm E gr mt p.corners.length p.widths.length p.notches.length] 7))&&true)=true
     rw[q5a (by decide)];rfl
    ·rfl
    ·rfl
    ·rfl
    refine⟨rfl,?_⟩
    rw[qqo]
    exact OldM.old (nx0:=83) (by decide) hp2 rfl rfl rfl rfl rfl rfl rfl rfl rfl rfl
   rintro j hj ho zo hold N hN
   obtain⟨⟨h2,rfl⟩,z2,rfl⟩:=hold
   refine gg rfl (q01 rfl (fun e=>?_) (fun e=>?_))
   ·rw[q06]at e
    have hlt:j<p.edges.length:=by omega
    have w1:=wS (n:=j)
    have w2:IntKind.i64.wrap ((p.edges.length:Int)-j)=((p.edges.length-j:Nat):Int):=by rw[wrap64 (by omega) (by omega)];omega
    have hcb:cB ((wTo p.widths j).map q00) 1=some (.row ((wTo p.widths j).map q00) 1):=q70 (qkA (by omega) _)
    have hm:(p.edges.length-j)%p.edges.length<p.widths.length:=by rw[hw];exact Nat.mod_lt _ (by omega)
    have hx:=qdw hm
    have hst:=qqp p.widths j
    rw[hw]at hst
    rw[hcb]
    refine gg rfl ?_
    obtain⟨w',hw'⟩:∃w',p.widths.length=w'+1:=⟨p.widths.length-1,by omega⟩
    refine q5P (d:=.ref 64 0 (w'+1)) rfl rfl rfl (by rw[hw'];rfl) ?_
    refine gg rfl ?_
    rw[w2]
    refine q5g (p.edges.length-j) p.edges.length rfl rfl rfl rfl (by omega) ?_
    refine gg rfl (q0j ((p.edges.length-j)%p.edges.length) rfl rfl rfl hx rfl (gg rfl (q0J j rfl rfl rfl rfl rfl (by omega) ?_)))
    refine gg rfl (q2t (enc:=q00) (wTo p.widths j) j (wd p.widths ((p.edges.length-j)%p.edges.length)) rfl rfl (Nat.zero_add _) rfl (fun _=>rfl) rfl (Nat.zero_le _) (by rw[qo0];omega) ?_)
    rw[hst]
    refine gg rfl (q04 (hN (j+1) (by omega) (by omega) ?_))
    rw[←w1]
    have hcb2:some (.row ((wTo p.widths (j+1)).map q00) 1)=cB ((wTo p.widths (j+1)).map q00) 1:=(q70 (qkA (by omega) _)).symm
    refine q21 (vs:=[.ptr 3 0 0,.ptr 84 0 0,q00 p.edges.length,q00 p.edges.length,q00 (IntKind.i64.wrap ((j:Int)+1)),.bad]) (bs:=[none,some (.row [p.enc] 7),none,none,none,none]) (zs:=[0,0,0,0,0,0]) rfl rfl ?_ ?_ ?_ ?_ ?_
    ·show(q2B 83 _ (some (.row [qD nm E gr mt p.corners.length p.widths.length p.notches.length] 7))&&true)=true
     rw[q5a (by decide)];rfl
    ·rfl
    ·rfl
    ·rfl
    exact⟨rfl,OldM.old (nx0:=83) (by decide) hp2 rfl rfl rfl hcb2 rfl rfl rfl rfl rfl rfl⟩
   rw[q07]at e
   obtain rfl:j=p.edges.length:=by omega
   clear hN
   rw[show wTo p.widths p.edges.length=wsT ⟨true,0⟩ p.widths from by rw[←hw,qvD]]
   refine gg rfl (q04 (gg rfl ?_))
   rw[List.length_map]
   refine q2X (S:=fun i:Nat=>([.ptr 3 0 0,.ptr 84 0 0,q00 p.edges.length,q51 p.notches,q00 p.notches.length,q00 i,.bad],[none,some (.row [p.enc] 7),none,none,none,none,none],[0,0,0,0,0,0,0])) (O:=fun _ ho zo=>∃n2:List Ntc,n2.length=p.notches.length∧OldM b2 (qD nm E gr mt p.corners.length p.widths.length p.notches.length) cs (wsT ⟨true,0⟩ p.widths) n2 ho zo) (C:=fun i=>i≤p.notches.length) (m:=fun i=>p.notches.length-i) 0 (Nat.zero_le _) (by omega) ?_ ?_
   ·refine q21 (vs:=[.ptr 3 0 0,.ptr 84 0 0,q00 p.edges.length,q51 p.notches,q00 p.notches.length,q00 ((0:Nat):Int),.bad]) (bs:=[none,some (.row [p.enc] 7),none,none,none,none,none]) (zs:=[0,0,0,0,0,0,0]) rfl rfl ?_ ?_ ?_ ?_ ⟨rfl,p.notches,rfl,OldM.old (by decide) hp2 rfl rfl rfl rfl rfl rfl rfl rfl rfl rfl⟩
    ·show(q2B 83 _ (some (.row [qD nm E gr mt p.corners.length p.widths.length p.notches.length] 7))&&true)=true
     rw[q5a (by decide)];rfl
    ·rfl
    ·rfl
    rfl
   rintro i hi ho zo ⟨n2,hn2',hold⟩ N hN
   obtain⟨⟨h3,rfl⟩,z3,rfl⟩:=hold
   refine gg rfl (q01 rfl (fun e=>?_) (fun e=>?_))
   ·rw[q06]at e
    have hlt:i<p.notches.length:=by omega
    have w1:=wS (n:=i)
    have hx:=qhE hlt
    generalize nt p.notches i=nn at hx
    obtain⟨k',hk'⟩:∃k',p.notches.length=k'+1:=⟨p.notches.length-1,by omega⟩
    have hcb:∀l:List Ntc,l.length=p.notches.length→cB (l.map Ntc.enc) 2=some (.row (l.map Ntc.enc) 2):=fun l hl=>q70 (by
     intro e0
     have:=congrArg List.length e0
     rw[List.length_map,hl,hk']at this
     exact absurd this (by simp))
    rw[hcb n2 hn2']
    refine gg rfl (q0j i rfl rfl rfl hx rfl (gg rfl (q08 rfl (fun g1=>?_) (fun g1=>?_))))
    ·rw[q0G]at g1
     refine gg rfl (q01 rfl (fun g2=>?_) (fun g2=>?_))
     ·rw[q06]at g2
      refine gg rfl (q5P (d:=.ref 77 0 (k'+1)) rfl rfl rfl (by rw[hk'];rfl) ?_)
      refine gg rfl (q02 rfl rfl (qeZ nn p.edges g1 g2 hn2) (gg rfl (q0J i rfl rfl rfl rfl rfl (by omega) ?_)))
      refine gg rfl (q2t (enc:=Ntc.enc) n2 i (qqn p.edges nn) rfl rfl (Nat.zero_add _) rfl (fun _=>rfl) rfl (Nat.zero_le _) (by omega) ?_)
      refine gg rfl (q04 (hN (i+1) (by omega) (by omega) ?_))
      rw[←w1]
      refine q21 (vs:=[.ptr 3 0 0,.ptr 84 0 0,q00 p.edges.length,q51 p.notches,q00 p.notches.length,q00 (IntKind.i64.wrap ((i:Int)+1)),.bad]) (bs:=[none,some (.row [p.enc] 7),none,none,none,none,none]) (zs:=[0,0,0,0,0,0,0]) rfl rfl ?_ ?_ ?_ ?_ ⟨rfl,(n2.set i (qqn p.edges nn)),((List.length_set ..).trans hn2'),OldM.old (nx0:=83) (by decide) hp2 rfl rfl rfl rfl (hcb (n2.set i (qqn p.edges nn)) ((List.length_set ..).trans hn2')).symm rfl rfl rfl rfl rfl⟩
      ·show(q2B 83 _ (some (.row [qD nm E gr mt p.corners.length p.widths.length p.notches.length] 7))&&true)=true
       rw[q5a (by decide)];rfl
      ·rfl
      ·rfl
      rfl
     refine gg rfl (q04 (hN (i+1) (by omega) (by omega) ?_))
     rw[←w1]
     refine q21 (vs:=[.ptr 3 0 0,.ptr 84 0 0,q00 p.edges.length,q51 p.notches,q00 p.notches.length,q00 (IntKind.i64.wrap ((i:Int)+1)),.bad]) (bs:=[none,some (.row [p.enc] 7),none,none,none,none,none]) (zs:=[0,0,0,0,0,0,0]) rfl rfl ?_ ?_ ?_ ?_ ⟨rfl,n2,hn2',OldM.old (nx0:=83) (by decide) hp2 rfl rfl rfl rfl (hcb n2 hn2').symm rfl rfl rfl rfl rfl⟩
     ·show(q2B 83 _ (some (.row [qD nm E gr mt p.corners.length p.widths.length p.notches.length] 7))&&true)=true
      rw[q5a (by decide)];rfl
     ·rfl
     ·rfl
     rfl
    rw[q0I]at g1
    refine gg rfl (q0i rfl (gg rfl (q04 (hN (i+1) (by omega) (by omega) ?_))))
    rw[←w1]
    refine q21 (vs:=[.ptr 3 0 0,.ptr 84 0 0,q00 p.edges.length,q51 p.notches,q00 p.notches.length,q00 (IntKind.i64.wrap ((i:Int)+1)),.bad]) (bs:=[none,some (.row [p.enc] 7),none,none,none,none,none]) (zs:=[0,0,0,0,0,0,0]) rfl rfl ?_ ?_ ?_ ?_ ⟨rfl,n2,hn2',OldM.old (nx0:=83) (by decide) hp2 rfl rfl rfl rfl (hcb n2 hn2').symm rfl rfl rfl rfl rfl⟩
    ·show(q2B 83 _ (some (.row [qD nm E gr mt p.corners.length p.widths.length p.notches.length] 7))&&true)=true
     rw[q5a (by decide)];rfl
    ·rfl
    ·rfl
    rfl
   clear hN
   exact gg rfl (q04 (gg rfl (qds rfl rfl (hk _ _ cs n2 hcs hn2' (OldM.of rfl rfl rfl rfl rfl rfl rfl rfl rfl rfl)))))
  have hn:0<p.edges.length:=by omega
  obtain⟨c',hc'⟩:∃c',p.corners.length=c'+1:=⟨p.corners.length-1,by omega⟩
  rw[hc']
  refine q6y (fn:=q5q) rfl rfl (gg rfl (q0i rfl (gg rfl (q1g rfl rfl rfl rfl (by rw[List.length_map];omega) (q1k (n:=2) (fun _=>rfl) _) rfl (Nat.zero_le _) (by simp[q0N];omega) ?_))))
  refine gg rfl (qds rfl rfl (gg rfl ?_))
  rw[←hc']
  refine q2X (S:=fun i:Nat=>([.ptr 3 0 0,.ptr 84 0 0,q00 p.edges.length,.ref 86 0 (0+p.corners.length),q00 p.edges.length,q00 i,.bad],[none,some (.row [p.enc] 7),none,some (.row (cs.map Spot.enc) 2),none,none,none],[0,0,0,0,0,0,0])) (O:=fun _ ho zo=>∃c2:List Spot,c2.length=p.corners.length∧OldM b2 (qD nm E gr mt p.corners.length p.widths.length p.notches.length) c2 p.widths p.notches ho zo) (C:=fun i=>i≤p.edges.length) (m:=fun i=>p.edges.length-i) 0 (Nat.zero_le _) (by omega) ?_ ?_
  ·refine q21 (vs:=[.ptr 3 0 0,.ptr 84 0 0,q00 p.edges.length,.ref 86 0 (0+p.corners.length),q00 p.edges.length,q00 ((0:Nat):Int),.bad]) (bs:=[none,some (.row [p.enc] 7),none,some (.row (cs.map Spot.enc) 2),none,none,none]) (zs:=[0,0,0,0,0,0,0]) rfl rfl ?_ ?_ ?_ ?_ ⟨rfl,cs,hcs,OldM.old (by decide) hp2 rfl rfl rfl rfl rfl rfl rfl rfl rfl rfl⟩
   ·show(q2B 83 _ (some (.row [qD nm E gr mt p.corners.length p.widths.length p.notches.length] 7))&&((cs.map Spot.enc).all (okD 83 _)&&true))=true
    rw[q5a (by decide),qCC q0r];rfl
   ·rfl
   ·exact congrArg (fun r:List D=>([none,some (.row [p.enc] 7),none,some (.row r 2),none,none,none]:List (Option Blk))) (qyp (fun _ _=>rfl) _ _)
   rfl
  rintro i hi ho zo ⟨c2,hc2,hold⟩ N hN
  obtain⟨⟨h1,rfl⟩,z1,rfl⟩:=hold
  refine gg rfl (q01 rfl (fun e=>?_) (fun e=>?_))
  ·rw[q06]at e
   have hlt:i<p.edges.length:=by omega
   have w1:=wS (n:=i)
   have w2:IntKind.i64.wrap ((p.edges.length:Int)-i)=((p.edges.length-i:Nat):Int):=by rw[wrap64 (by omega) (by omega)];omega
   have w3:IntKind.i64.wrap (((p.edges.length-i:Nat):Int)+1)=((p.edges.length-i+1:Nat):Int):=ww
   refine gg rfl (q5P (d:=.ref 7 0 p.corners.length) rfl rfl rfl rfl (gg rfl ?_))
   rw[w2,w3]
   refine q5g (p.edges.length-i+1) p.edges.length rfl rfl rfl rfl (by omega) ?_
   have hj:(p.edges.length-i+1)%p.edges.length<cs.length:=by rw[hcs,hcl];exact Nat.mod_lt _ hn
   generalize (p.edges.length-i+1)%p.edges.length=j at*
   refine gg rfl (q0J j rfl rfl rfl rfl rfl (by omega) ?_)
   refine gg rfl (q2S (enc:=Spot.enc) cs j (pt cs j) rfl (Nat.zero_add _) (fun _=>rfl) rfl (by simp[pt,hj]) ?_)
   refine gg rfl (q0J i rfl rfl rfl rfl rfl (by omega) ?_)
   refine gg rfl (q2t (enc:=Spot.enc) c2 i (pt cs j) rfl rfl (Nat.zero_add _) rfl (fun _=>rfl) rfl (Nat.zero_le _) (by omega) ?_)
   refine gg rfl (q04 (hN (i+1) (by omega) (by omega) ?_))
   rw[←w1]
   refine q21 (vs:=[.ptr 3 0 0,.ptr 84 0 0,q00 p.edges.length,.ref 86 0 (0+p.corners.length),q00 p.edges.length,q00 (IntKind.i64.wrap ((i:Int)+1)),.bad]) (bs:=[none,some (.row [p.enc] 7),none,some (.row (cs.map Spot.enc) 2),none,none,none]) (zs:=[0,0,0,0,0,0,0]) rfl rfl ?_ ?_ ?_ ?_ ⟨rfl,c2.set i (pt cs j),by simp[hc2],OldM.old (by decide) hp2 rfl rfl rfl rfl rfl rfl rfl rfl rfl rfl⟩
   ·show(q2B 83 _ (some (.row [qD nm E gr mt p.corners.length p.widths.length p.notches.length] 7))&&((cs.map Spot.enc).all (okD 83 _)&&true))=true
    rw[q5a (by decide),qCC q0r];rfl
   ·rfl
   ·exact congrArg (fun r:List D=>([none,some (.row [p.enc] 7),none,some (.row r 2),none,none,none]:List (Option Blk))) (qyp (fun _ _=>rfl) _ _)
   rfl
  clear hN
  refine gg rfl (q04 (gg rfl ?_))
  rw[List.length_map]
  refine q01 rfl (fun _=>?_) (fun g2=>?_)
  rotate_left
  ·rw[q1J]at g2
   try rw[List.length_map]at g2
   omega
  refine gg rfl (q2X (S:=fun j:Nat=>([.ptr 3 0 0,.ptr 84 0 0,q00 p.edges.length,q00 p.edges.length,q00 j,.bad],[none,some (.row [p.enc] 7),none,none,none,none],[0,0,0,0,0,0])) (O:=fun j ho zo=>OldM b2 (qD nm E gr mt p.corners.length p.widths.length p.notches.length) c2 (wTo p.widths j) p.notches ho zo) (C:=fun j=>j≤p.edges.length) (m:=fun j=>p.edges.length-j) 0 (Nat.zero_le _) (by omega) ?_ ?_)
  ·refine q21 (vs:=[.ptr 3 0 0,.ptr 84 0 0,q00 p.edges.length,q00 p.edges.length,q00 ((0:Nat):Int),.bad]) (bs:=[none,some (.row [p.enc] 7),none,none,none,none]) (zs:=[0,0,0,0,0,0]) rfl rfl ?_ ?_ ?_ ?_ ?_
   ·show(q2B 83 _ (some (.row [qD nm E gr mt p.corners.length p.widths.length p.notches.length] 7))&&true)=true
    rw[q5a (by decide)];rfl
   ·rfl
   ·rfl
   ·rfl
   refine⟨rfl,?_⟩
   rw[qqo]
   exact OldM.old (nx0:=83) (by decide) hp2 rfl rfl rfl rfl rfl rfl rfl rfl rfl rfl
  rintro j hj ho zo hold N hN
  obtain⟨⟨h2,rfl⟩,z2,rfl⟩:=hold
  refine gg rfl (q01 rfl (fun e=>?_) (fun e=>?_))
  ·rw[q06]at e
   have hlt:j<p.edges.length:=by omega
   have w1:=wS (n:=j)
   have w2:IntKind.i64.wrap ((p.edges.length:Int)-j)=((p.edges.length-j:Nat):Int):=by rw[wrap64 (by omega) (by omega)];omega
   have hcb:cB ((wTo p.widths j).map q00) 1=some (.row ((wTo p.widths j).map q00) 1):=q70 (qkA (by omega) _)
   have hm:(p.edges.length-j)%p.edges.length<p.widths.length:=by rw[hw];exact Nat.mod_lt _ (by omega)
   have hx:=qdw hm
   have hst:=qqp p.widths j
   rw[hw]at hst
   rw[hcb]
   refine gg rfl ?_
   obtain⟨w',hw'⟩:∃w',p.widths.length=w'+1:=⟨p.widths.length-1,by omega⟩
   refine q5P (d:=.ref 64 0 (w'+1)) rfl rfl rfl (by rw[hw'];rfl) ?_
   refine gg rfl ?_
   rw[w2]
   refine q5g (p.edges.length-j) p.edges.length rfl rfl rfl rfl (by omega) ?_
   refine gg rfl (q0j ((p.edges.length-j)%p.edges.length) rfl rfl rfl hx rfl (gg rfl (q0J j rfl rfl rfl rfl rfl (by omega) ?_)))
   refine gg rfl (q2t (enc:=q00) (wTo p.widths j) j (wd p.widths ((p.edges.length-j)%p.edges.length)) rfl rfl (Nat.zero_add _) rfl (fun _=>rfl) rfl (Nat.zero_le _) (by rw[qo0];omega) ?_)
   rw[hst]
   refine gg rfl (q04 (hN (j+1) (by omega) (by omega) ?_))
   rw[←w1]
   have hcb2:some (.row ((wTo p.widths (j+1)).map q00) 1)=cB ((wTo p.widths (j+1)).map q00) 1:=(q70 (qkA (by omega) _)).symm
   refine q21 (vs:=[.ptr 3 0 0,.ptr 84 0 0,q00 p.edges.length,q00 p.edges.length,q00 (IntKind.i64.wrap ((j:Int)+1)),.bad]) (bs:=[none,some (.row [p.enc] 7),none,none,none,none]) (zs:=[0,0,0,0,0,0]) rfl rfl ?_ ?_ ?_ ?_ ?_
   ·show(q2B 83 _ (some (.row [qD nm E gr mt p.corners.length p.widths.length p.notches.length] 7))&&true)=true
    rw[q5a (by decide)];rfl
   ·rfl
   ·rfl
   ·rfl
   exact⟨rfl,OldM.old (nx0:=83) (by decide) hp2 rfl rfl rfl hcb2 rfl rfl rfl rfl rfl rfl⟩
  rw[q07]at e
  obtain rfl:j=p.edges.length:=by omega
  clear hN
  rw[show wTo p.widths p.edges.length=wsT ⟨true,0⟩ p.widths from by rw[←hw,qvD]]
  refine gg rfl (q04 (gg rfl ?_))
  rw[List.length_map]
  refine q2X (S:=fun i:Nat=>([.ptr 3 0 0,.ptr 84 0 0,q00 p.edges.length,q51 p.notches,q00 p.notches.length,q00 i,.bad],[none,some (.row [p.enc] 7),none,none,none,none,none],[0,0,0,0,0,0,0])) (O:=fun _ ho zo=>∃n2:List Ntc,n2.length=p.notches.length∧OldM b2 (qD nm E gr mt p.corners.length p.widths.length p.notches.length) c2 (wsT ⟨true,0⟩ p.widths) n2 ho zo) (C:=fun i=>i≤p.notches.length) (m:=fun i=>p.notches.length-i) 0 (Nat.zero_le _) (by omega) ?_ ?_
  ·refine q21 (vs:=[.ptr 3 0 0,.ptr 84 0 0,q00 p.edges.length,q51 p.notches,q00 p.notches.length,q00 ((0:Nat):Int),.bad]) (bs:=[none,some (.row [p.enc] 7),none,none,none,none,none]) (zs:=[0,0,0,0,0,0,0]) rfl rfl ?_ ?_ ?_ ?_ ⟨rfl,p.notches,rfl,OldM.old (by decide) hp2 rfl rfl rfl rfl rfl rfl rfl rfl rfl rfl⟩
   ·show(q2B 83 _ (some (.row [qD nm E gr mt p.corners.length p.widths.length p.notches.length] 7))&&true)=true
    rw[q5a (by decide)];rfl
   ·rfl
   ·rfl
   rfl
  rintro i hi ho zo ⟨n2,hn2',hold⟩ N hN
  obtain⟨⟨h3,rfl⟩,z3,rfl⟩:=hold
  refine gg rfl (q01 rfl (fun e=>?_) (fun e=>?_))
  ·rw[q06]at e
   have hlt:i<p.notches.length:=by omega
   have w1:=wS (n:=i)
   have hx:=qhE hlt
   generalize nt p.notches i=nn at hx
   obtain⟨k',hk'⟩:∃k',p.notches.length=k'+1:=⟨p.notches.length-1,by omega⟩
   have hcb:∀l:List Ntc,l.length=p.notches.length→cB (l.map Ntc.enc) 2=some (.row (l.map Ntc.enc) 2):=fun l hl=>q70 (by
    intro e0
    have:=congrArg List.length e0
    rw[List.length_map,hl,hk']at this
    exact absurd this (by simp))
   rw[hcb n2 hn2']
   refine gg rfl (q0j i rfl rfl rfl hx rfl (gg rfl (q08 rfl (fun g1=>?_) (fun g1=>?_))))
   ·rw[q0G]at g1
    refine gg rfl (q01 rfl (fun g2=>?_) (fun g2=>?_))
    ·rw[q06]at g2
     refine gg rfl (q5P (d:=.ref 77 0 (k'+1)) rfl rfl rfl (by rw[hk'];rfl) ?_)
     refine gg rfl (q02 rfl rfl (qeZ nn p.edges g1 g2 hn2) (gg rfl (q0J i rfl rfl rfl rfl rfl (by omega) ?_)))
     refine gg rfl (q2t (enc:=Ntc.enc) n2 i (qqn p.edges nn) rfl rfl (Nat.zero_add _) rfl (fun _=>rfl) rfl (Nat.zero_le _) (by omega) ?_)
     refine gg rfl (q04 (hN (i+1) (by omega) (by omega) ?_))
     rw[←w1]
     refine q21 (vs:=[.ptr 3 0 0,.ptr 84 0 0,q00 p.edges.length,q51 p.notches,q00 p.notches.length,q00 (IntKind.i64.wrap ((i:Int)+1)),.bad]) (bs:=[none,some (.row [p.enc] 7),none,none,none,none,none]) (zs:=[0,0,0,0,0,0,0]) rfl rfl ?_ ?_ ?_ ?_ ⟨rfl,(n2.set i (qqn p.edges nn)),((List.length_set ..).trans hn2'),OldM.old (nx0:=83) (by decide) hp2 rfl rfl rfl rfl (hcb (n2.set i (qqn p.edges nn)) ((List.length_set ..).trans hn2')).symm rfl rfl rfl rfl rfl⟩
     ·show(q2B 83 _ (some (.row [qD nm E gr mt p.corners.length p.widths.length p.notches.length] 7))&&true)=true
      rw[q5a (by decide)];rfl
     ·rfl
     ·rfl
     rfl
    refine gg rfl (q04 (hN (i+1) (by omega) (by omega) ?_))
    rw[←w1]
    refine q21 (vs:=[.ptr 3 0 0,.ptr 84 0 0,q00 p.edges.length,q51 p.notches,q00 p.notches.length,q00 (IntKind.i64.wrap ((i:Int)+1)),.bad]) (bs:=[none,some (.row [p.enc] 7),none,none,none,none,none]) (zs:=[0,0,0,0,0,0,0]) rfl rfl ?_ ?_ ?_ ?_ ⟨rfl,n2,hn2',OldM.old (nx0:=83) (by decide) hp2 rfl rfl rfl rfl (hcb n2 hn2').symm rfl rfl rfl rfl rfl⟩
    ·show(q2B 83 _ (some (.row [qD nm E gr mt p.corners.length p.widths.length p.notches.length] 7))&&true)=true
     rw[q5a (by decide)];rfl
    ·rfl
    ·rfl
    rfl
   rw[q0I]at g1
   refine gg rfl (q0i rfl (gg rfl (q04 (hN (i+1) (by omega) (by omega) ?_))))
   rw[←w1]
   refine q21 (vs:=[.ptr 3 0 0,.ptr 84 0 0,q00 p.edges.length,q51 p.notches,q00 p.notches.length,q00 (IntKind.i64.wrap ((i:Int)+1)),.bad]) (bs:=[none,some (.row [p.enc] 7),none,none,none,none,none]) (zs:=[0,0,0,0,0,0,0]) rfl rfl ?_ ?_ ?_ ?_ ⟨rfl,n2,hn2',OldM.old (nx0:=83) (by decide) hp2 rfl rfl rfl rfl (hcb n2 hn2').symm rfl rfl rfl rfl rfl⟩
   ·show(q2B 83 _ (some (.row [qD nm E gr mt p.corners.length p.widths.length p.notches.length] 7))&&true)=true
    rw[q5a (by decide)];rfl
   ·rfl
   ·rfl
   rfl
  clear hN
  exact gg rfl (q04 (gg rfl (qds rfl rfl (hk _ _ c2 n2 hc2 hn2' (OldM.of rfl rfl rfl rfl rfl rfl rfl rfl rfl rfl)))))
 refine gg rfl ?_
 rw[List.length_map]
 refine q01 rfl (fun _=>?_) (fun g2=>?_)
 rotate_left
 ·rw[q1J]at g2
  try rw[List.length_map]at g2
  omega
 refine gg rfl (q2X (S:=fun j:Nat=>([.ptr 3 0 0,.ptr 84 0 0,q00 p.edges.length,q00 p.edges.length,q00 j,.bad],[none,some (.row [p.enc] 7),none,none,none,none],[0,0,0,0,0,0])) (O:=fun j ho zo=>OldM b2 (qD nm E gr mt p.corners.length p.widths.length p.notches.length) cs (wTo p.widths j) p.notches ho zo) (C:=fun j=>j≤p.edges.length) (m:=fun j=>p.edges.length-j) 0 (Nat.zero_le _) (by omega) ?_ ?_)
 ·refine q21 (vs:=[.ptr 3 0 0,.ptr 84 0 0,q00 p.edges.length,q00 p.edges.length,q00 ((0:Nat):Int),.bad]) (bs:=[none,some (.row [p.enc] 7),none,none,none,none]) (zs:=[0,0,0,0,0,0]) rfl rfl ?_ ?_ ?_ ?_ ?_
  ·show(q2B 83 _ (some (.row [qD nm E gr mt p.corners.length p.widths.length p.notches.length] 7))&&true)=true
   rw[q5a (by decide)];rfl
  ·rfl
  ·rfl
  ·rfl
  refine⟨rfl,?_⟩
  rw[qqo]
  exact OldM.old (nx0:=83) (by decide) hp2 rfl rfl rfl rfl rfl rfl rfl rfl rfl rfl
 rintro j hj ho zo hold N hN
 obtain⟨⟨h2,rfl⟩,z2,rfl⟩:=hold
 refine gg rfl (q01 rfl (fun e=>?_) (fun e=>?_))
 ·rw[q06]at e
  have hlt:j<p.edges.length:=by omega
  have w1:=wS (n:=j)
  have w2:IntKind.i64.wrap ((p.edges.length:Int)-j)=((p.edges.length-j:Nat):Int):=by rw[wrap64 (by omega) (by omega)];omega
  have hcb:cB ((wTo p.widths j).map q00) 1=some (.row ((wTo p.widths j).map q00) 1):=q70 (qkA (by omega) _)
  have hm:(p.edges.length-j)%p.edges.length<p.widths.length:=by rw[hw];exact Nat.mod_lt _ (by omega)
  have hx:=qdw hm
  have hst:=qqp p.widths j
  rw[hw]at hst
  rw[hcb]
  refine gg rfl ?_
  obtain⟨w',hw'⟩:∃w',p.widths.length=w'+1:=⟨p.widths.length-1,by omega⟩
  refine q5P (d:=.ref 64 0 (w'+1)) rfl rfl rfl (by rw[hw'];rfl) ?_
  refine gg rfl ?_
  rw[w2]
  refine q5g (p.edges.length-j) p.edges.length rfl rfl rfl rfl (by omega) ?_
  refine gg rfl (q0j ((p.edges.length-j)%p.edges.length) rfl rfl rfl hx rfl (gg rfl (q0J j rfl rfl rfl rfl rfl (by omega) ?_)))
  refine gg rfl (q2t (enc:=q00) (wTo p.widths j) j (wd p.widths ((p.edges.length-j)%p.edges.length)) rfl rfl (Nat.zero_add _) rfl (fun _=>rfl) rfl (Nat.zero_le _) (by rw[qo0];omega) ?_)
  rw[hst]
  refine gg rfl (q04 (hN (j+1) (by omega) (by omega) ?_))
  rw[←w1]
  have hcb2:some (.row ((wTo p.widths (j+1)).map q00) 1)=cB ((wTo p.widths (j+1)).map q00) 1:=(q70 (qkA (by omega) _)).symm
  refine q21 (vs:=[.ptr 3 0 0,.ptr 84 0 0,q00 p.edges.length,q00 p.edges.length,q00 (IntKind.i64.wrap ((j:Int)+1)),.bad]) (bs:=[none,some (.row [p.enc] 7),none,none,none,none]) (zs:=[0,0,0,0,0,0]) rfl rfl ?_ ?_ ?_ ?_ ?_
  ·show(q2B 83 _ (some (.row [qD nm E gr mt p.corners.length p.widths.length p.notches.length] 7))&&true)=true
   rw[q5a (by decide)];rfl
  ·rfl
  ·rfl
  ·rfl
  exact⟨rfl,OldM.old (nx0:=83) (by decide) hp2 rfl rfl rfl hcb2 rfl rfl rfl rfl rfl rfl⟩
 rw[q07]at e
 obtain rfl:j=p.edges.length:=by omega
 clear hN
 rw[show wTo p.widths p.edges.length=wsT ⟨true,0⟩ p.widths from by rw[←hw,qvD]]
 refine gg rfl (q04 (gg rfl ?_))
 rw[List.length_map]
 refine q2X (S:=fun i:Nat=>([.ptr 3 0 0,.ptr 84 0 0,q00 p.edges.length,q51 p.notches,q00 p.notches.length,q00 i,.bad],[none,some (.row [p.enc] 7),none,none,none,none,none],[0,0,0,0,0,0,0])) (O:=fun _ ho zo=>∃n2:List Ntc,n2.length=p.notches.length∧OldM b2 (qD nm E gr mt p.corners.length p.widths.length p.notches.length) cs (wsT ⟨true,0⟩ p.widths) n2 ho zo) (C:=fun i=>i≤p.notches.length) (m:=fun i=>p.notches.length-i) 0 (Nat.zero_le _) (by omega) ?_ ?_
 ·refine q21 (vs:=[.ptr 3 0 0,.ptr 84 0 0,q00 p.edges.length,q51 p.notches,q00 p.notches.length,q00 ((0:Nat):Int),.bad]) (bs:=[none,some (.row [p.enc] 7),none,none,none,none,none]) (zs:=[0,0,0,0,0,0,0]) rfl rfl ?_ ?_ ?_ ?_ ⟨rfl,p.notches,rfl,OldM.old (by decide) hp2 rfl rfl rfl rfl rfl rfl rfl rfl rfl rfl⟩
  ·show(q2B 83 _ (some (.row [qD nm E gr mt p.corners.length p.widths.length p.notches.length] 7))&&true)=true
   rw[q5a (by decide)];rfl
  ·rfl
  ·rfl
  rfl
 rintro i hi ho zo ⟨n2,hn2',hold⟩ N hN
 obtain⟨⟨h3,rfl⟩,z3,rfl⟩:=hold
 refine gg rfl (q01 rfl (fun e=>?_) (fun e=>?_))
 ·rw[q06]at e
  have hlt:i<p.notches.length:=by omega
  have w1:=wS (n:=i)
  have hx:=qhE hlt
  generalize nt p.notches i=nn at hx
  obtain⟨k',hk'⟩:∃k',p.notches.length=k'+1:=⟨p.notches.length-1,by omega⟩
  have hcb:∀l:List Ntc,l.length=p.notches.length→cB (l.map Ntc.enc) 2=some (.row (l.map Ntc.enc) 2):=fun l hl=>q70 (by
   intro e0
   have:=congrArg List.length e0
   rw[List.length_map,hl,hk']at this
   exact absurd this (by simp))
  rw[hcb n2 hn2']
  refine gg rfl (q0j i rfl rfl rfl hx rfl (gg rfl (q08 rfl (fun g1=>?_) (fun g1=>?_))))
  ·rw[q0G]at g1
   refine gg rfl (q01 rfl (fun g2=>?_) (fun g2=>?_))
   ·rw[q06]at g2
    refine gg rfl (q5P (d:=.ref 77 0 (k'+1)) rfl rfl rfl (by rw[hk'];rfl) ?_)
    refine gg rfl (q02 rfl rfl (qeZ nn p.edges g1 g2 hn2) (gg rfl (q0J i rfl rfl rfl rfl rfl (by omega) ?_)))
    refine gg rfl (q2t (enc:=Ntc.enc) n2 i (qqn p.edges nn) rfl rfl (Nat.zero_add _) rfl (fun _=>rfl) rfl (Nat.zero_le _) (by omega) ?_)
    refine gg rfl (q04 (hN (i+1) (by omega) (by omega) ?_))
    rw[←w1]
    refine q21 (vs:=[.ptr 3 0 0,.ptr 84 0 0,q00 p.edges.length,q51 p.notches,q00 p.notches.length,q00 (IntKind.i64.wrap ((i:Int)+1)),.bad]) (bs:=[none,some (.row [p.enc] 7),none,none,none,none,none]) (zs:=[0,0,0,0,0,0,0]) rfl rfl ?_ ?_ ?_ ?_ ⟨rfl,(n2.set i (qqn p.edges nn)),((List.length_set ..).trans hn2'),OldM.old (nx0:=83) (by decide) hp2 rfl rfl rfl rfl (hcb (n2.set i (qqn p.edges nn)) ((List.length_set ..).trans hn2')).symm rfl rfl rfl rfl rfl⟩
    ·show(q2B 83 _ (some (.row [qD nm E gr mt p.corners.length p.widths.length p.notches.length] 7))&&true)=true
     rw[q5a (by decide)];rfl
    ·rfl
    ·rfl
    rfl
   refine gg rfl (q04 (hN (i+1) (by omega) (by omega) ?_))
   rw[←w1]
   refine q21 (vs:=[.ptr 3 0 0,.ptr 84 0 0,q00 p.edges.length,q51 p.notches,q00 p.notches.length,q00 (IntKind.i64.wrap ((i:Int)+1)),.bad]) (bs:=[none,some (.row [p.enc] 7),none,none,none,none,none]) (zs:=[0,0,0,0,0,0,0]) rfl rfl ?_ ?_ ?_ ?_ ⟨rfl,n2,hn2',OldM.old (nx0:=83) (by decide) hp2 rfl rfl rfl rfl (hcb n2 hn2').symm rfl rfl rfl rfl rfl⟩
   ·show(q2B 83 _ (some (.row [qD nm E gr mt p.corners.length p.widths.length p.notches.length] 7))&&true)=true
    rw[q5a (by decide)];rfl
   ·rfl
   ·rfl
   rfl
  rw[q0I]at g1
  refine gg rfl (q0i rfl (gg rfl (q04 (hN (i+1) (by omega) (by omega) ?_))))
  rw[←w1]
  refine q21 (vs:=[.ptr 3 0 0,.ptr 84 0 0,q00 p.edges.length,q51 p.notches,q00 p.notches.length,q00 (IntKind.i64.wrap ((i:Int)+1)),.bad]) (bs:=[none,some (.row [p.enc] 7),none,none,none,none,none]) (zs:=[0,0,0,0,0,0,0]) rfl rfl ?_ ?_ ?_ ?_ ⟨rfl,n2,hn2',OldM.old (nx0:=83) (by decide) hp2 rfl rfl rfl rfl (hcb n2 hn2').symm rfl rfl rfl rfl rfl⟩
  ·show(q2B 83 _ (some (.row [qD nm E gr mt p.corners.length p.widths.length p.notches.length] 7))&&true)=true
   rw[q5a (by decide)];rfl
  ·rfl
  ·rfl
  rfl
 clear hN
 exact gg rfl (q04 (gg rfl (qds rfl rfl (hk _ _ cs n2 hcs hn2' (OldM.of rfl rfl rfl rfl rfl rfl rfl rfl rfl rfl)))))
end Go.F

namespace Go.F
theorem someI {f:FuncId}{fn:KFn}{args:List D}{Q:D→Prop}(hf:tab f=some fn)
 (hw:wpM TT (shr TT 6) 0 [.code fn.code] .normal (enter args) empty qgU 0 (qdr fn fun d h _ _=>ws2 h d Q)):∃r,Q r∧PU f args=some r:=by
 simp only[wpM]at hw
 exact qCA hf hw
attribute [local irreducible] IntKind.wrap wpM
def zB:Blk:=.row [.agg [.str ⟨#[]⟩,.nilsl,.int .i64 0,.nilsl,.nilsl,.nilsl,.bool false]] 7
theorem qfU {t:Turn}(h:t.flip=false)(ws:List Int):wsT t ws=ws:=by
 apply List.ext_getElem
 ·simp[wsT]
 intro i h1 h2
 simp[wsT,q2e,h,wd,h2]
theorem qD7 {nm:ByteArray}{E:List Edge}{gr:Int}{mt:Bool}{m w k:Nat}{x y:D}(hx:x=cD 77 k)(hy:y=cD 64 w):some (Blk.row [.agg [.str nm,edges E,.int .i64 gr,x,.ref 7 0 m,y,.bool mt]] 7)=some (.row [qD nm E gr mt m w k] 7):=by subst hx;subst hy;rfl
theorem qo6 {α:Type}(f:α→D)(id:Nat)(x:α)(l:List α):D.ref id 0 (0+((x::l).map f).length)=cD id (x::l).length:=by
 rw[Nat.zero_add,List.length_map];rfl
set_option maxRecDepth 100000 in
set_option maxHeartbeats 16000000 in
theorem ql3 (p:Piece)(t:Turn)(hl:p.edges.length≤1000)(hlen:∀e∈p.edges,e.line.length≤1000)(hc:p.corners.length≤1000)(hw:p.widths.length=p.edges.length)(hn:p.notches.length≤1000):
 ∃d,(∃q:Piece,d=q.enc∧q.edges=q0P t p.edges∧q.widths=wsT t p.widths)∧PU qeL [p.enc,t.enc]=some d:=by
 have hT:=qjX p.edges t hl hlen
 generalize q0P t p.edges=E at*
 have hw1:p.widths.length≤1000:=by omega
 obtain⟨tf,tq⟩:=t
 obtain⟨nm,es,gr,ns0,cs,ws0,mt⟩:=p
 simp only at hl hlen hc hw hn hT hw1⊢
 refine someI (fn:=qe6) rfl (gg rfl (q02 rfl rfl hT (gg rfl ?_)))
 rw[List.length_map]
 refine q48 cs.length rfl rfl rfl (by simp[q0N];omega) ?_
 rw[qC4 ⟨tf,tq⟩]
 refine gg rfl ?_
 rw[List.length_map]
 refine q0l (S:=fun k:Nat=>([.ptr 0 0 0,.ptr 1 0 0,.ptr 2 0 0,.ptr 3 0 0,q0k cs,q00 cs.length,q00 k,.bad],[some (.row [(⟨nm,es,gr,ns0,cs,ws0,mt⟩:Piece).enc] 7),some (.row [(⟨tf,tq⟩:Turn).enc] 2),some zB,some (.row [.agg [.str nm,edges E,.int .i64 gr,q51 ns0,.ref 7 0 cs.length,ints ws0,.bool mt]] 7),none,none,none,some (.row ((q6N ⟨tf,tq⟩ cs k).map Spot.enc) 2)],[0,0,0,0,0,0,0,0])) (C:=fun k=>k≤cs.length) (m:=fun k=>cs.length-k) 0 (Nat.zero_le _) (by omega) ?_ ?_
 ·refine qCO (live0:=[(2,0),(3,0),(4,0),(5,0),(20,0),(21,0),(22,0)]) (x:=5242885) (.ref 29 0 cs.length) rfl rfl rfl rfl ?_ (qzD _ _ _ _) rfl ?_ rfl
  ·rfl
  exact congrArg (fun r:List D=>([some (.row [(⟨nm,es,gr,ns0,cs,ws0,mt⟩:Piece).enc] 7),some (.row [(⟨tf,tq⟩:Turn).enc] 2),some zB,some (.row [.agg [.str nm,edges E,.int .i64 gr,q51 ns0,.ref 7 0 cs.length,ints ws0,.bool mt]] 7),none,none,none,some (.row r 2)]:List (Option Blk))) (quu _ _ _ _)
 intro k hk N hN
 refine gg rfl (q01 rfl (fun e=>?_) (fun e=>?_))
 ·rw[q06]at e
  have hlt:k<cs.length:=by omega
  have w1:=wS (n:=k)
  have hA:=q5E ⟨tf,tq⟩ (pt cs k)
  have hst:=qC5 ⟨tf,tq⟩ cs k
  have hx:=q0U hlt
  refine gg rfl (q0j k rfl rfl rfl hx rfl (gg rfl (q02 rfl rfl hA (gg rfl (q0J k rfl rfl rfl rfl rfl hlt (gg rfl (q2t (enc:=Spot.enc) (q6N ⟨tf,tq⟩ cs k) k (q1a ⟨tf,tq⟩ (pt cs k)) rfl rfl (Nat.zero_add _) rfl (fun _=>rfl) rfl (Nat.zero_le _) (by rw[qFn];exact hlt) ?_)))))))
  rw[hst]
  refine gg rfl (q04 (hN (k+1) hlt (by omega) ?_))
  rw[←w1]
  refine qCO (live0:=[(2,0),(3,0),(4,0),(5,0),(20,0),(21,0),(22,0)]) (x:=5242885) (.ref 7 0 cs.length) rfl rfl rfl rfl ?_ (qzD _ _ _ _) rfl ?_ rfl
  ·rfl
  exact congrArg (fun r:List D=>([some (.row [(⟨nm,es,gr,ns0,cs,ws0,mt⟩:Piece).enc] 7),some (.row [(⟨tf,tq⟩:Turn).enc] 2),some zB,some (.row [.agg [.str nm,edges E,.int .i64 gr,q51 ns0,.ref 7 0 cs.length,ints ws0,.bool mt]] 7),none,none,none,some (.row r 2)]:List (Option Blk))) (quu _ _ _ _)
 rw[q07]at e
 obtain rfl:k=cs.length:=by omega
 clear hN
 rw[qFo]
 refine gg rfl (q04 (gg rfl ?_))
 cases ws0 with
 |nil=>
  refine qwB rfl rfl rfl (gg rfl ?_)
  cases ns0 with
  |nil=>
   refine qwB rfl rfl rfl (gg rfl (q01 rfl (fun hf=>?_) (fun hf=>?_)))
   ·refine gg rfl (q6y (fn:=k_grade_mirror) rfl rfl (qfF ⟨nm,es,gr,[],cs,[],mt⟩ zB nm E gr mt (cs.map (q1a ⟨tf,tq⟩)) rfl hl hw (by simp) hn (OldM.of rfl (qD7 rfl rfl) rfl rfl rfl rfl rfl rfl rfl rfl) fun h' z' cs' ns' g1 g2 hold=>?_))
    have g1:cs'.length=cs.length:=g1
    have g2:ns'.length=([]:List Ntc).length:=g2
    have hold:OldM zB (qD nm E gr mt cs.length ([]:List Int).length ([]:List Ntc).length) cs' (wsT ⟨true,0⟩ []) ns' h' z':=hold
    obtain⟨⟨h0,rfl⟩,z0,rfl⟩:=hold
    obtain rfl:ns'=[]:=List.eq_nil_of_length_eq_zero g2
    refine gg rfl (q5x rfl rfl rfl ⟨q1n (by simp[g1]) (q0L q1u _),trivial⟩ ⟨⟨nm,E,gr,[],cs',wsT ⟨true,0⟩ [],mt⟩,?_,rfl,?_⟩)
    ·rw[q1o (by simp[g1])]
     rfl
    cases tf with
    |true=>rfl
    |false=>exact absurd (show false=true from hf) (by decide)
   refine gg rfl (q5x rfl rfl rfl ⟨q1n (by simp) (q0L q1u _),trivial⟩ ⟨⟨nm,E,gr,[],cs.map (q1a ⟨tf,tq⟩),[],mt⟩,?_,rfl,?_⟩)
   ·rw[q1o (by simp)]
    rfl
   rw[qfU hf]
  |cons n ns=>
   refine q6y (fn:=q8Y) rfl rfl (gg rfl (q0i rfl (gg rfl (qkZ rfl rfl rfl (q1k (n:=2) (fun _=>rfl) _) rfl (Nat.zero_le _) (by simp[q0N]at hn⊢;omega) ?_))))
   refine gg rfl (qds rfl rfl (gg rfl (q01 rfl (fun hf=>?_) (fun hf=>?_))))
   ·refine gg rfl (q6y (fn:=k_grade_mirror) rfl rfl (qfF ⟨nm,es,gr,(n::ns),cs,[],mt⟩ zB nm E gr mt (cs.map (q1a ⟨tf,tq⟩)) rfl hl hw (by simp) hn (OldM.of rfl (qD7 (qo6 Ntc.enc 77 n ns) rfl) rfl rfl rfl rfl rfl rfl rfl rfl) fun h' z' cs' ns' g1 g2 hold=>?_))
    have g1:cs'.length=cs.length:=g1
    have g2:ns'.length=((n::ns):List Ntc).length:=g2
    have hold:OldM zB (qD nm E gr mt cs.length ([]:List Int).length ((n::ns):List Ntc).length) cs' (wsT ⟨true,0⟩ []) ns' h' z':=hold
    obtain⟨⟨h0,rfl⟩,z0,rfl⟩:=hold
    rw[q70 (l:=ns'.map Ntc.enc) (fun e0=>by have h1:=congrArg List.length e0;rw[List.length_map,g2]at h1;exact absurd h1 (by simp))]
    refine gg rfl (q5x rfl rfl rfl ⟨q1n (by simp[g2]) (q0L (fun _=>rfl) _),q1n (by simp[g1]) (q0L q1u _),trivial⟩ ⟨⟨nm,E,gr,ns',cs',wsT ⟨true,0⟩ [],mt⟩,?_,rfl,?_⟩)
    ·rw[q1o (by simp[g2]),q1o (by simp[g1])]
     rfl
    cases tf with
    |true=>rfl
    |false=>exact absurd (show false=true from hf) (by decide)
   refine gg rfl (q5x rfl rfl rfl ⟨q1n (by simp) (q0L (fun _=>rfl) _),q1n (by simp) (q0L q1u _),trivial⟩ ⟨⟨nm,E,gr,(n::ns),cs.map (q1a ⟨tf,tq⟩),[],mt⟩,?_,rfl,?_⟩)
   ·rw[q1o (by simp),q1o (by simp)]
    rfl
   rw[qfU hf]
 |cons w ws=>
  refine q6y (fn:=qbS) rfl rfl (gg rfl (q0i rfl (gg rfl (qkZ rfl rfl rfl (q1k (n:=1) (fun _=>rfl) _) rfl (Nat.zero_le _) (by simp[q0N]at hw1⊢;omega) ?_))))
  refine gg rfl (qds rfl rfl (gg rfl ?_))
  cases ns0 with
  |nil=>
   refine qwB rfl rfl rfl (gg rfl (q01 rfl (fun hf=>?_) (fun hf=>?_)))
   ·refine gg rfl (q6y (fn:=k_grade_mirror) rfl rfl (qfF ⟨nm,es,gr,[],cs,(w::ws),mt⟩ zB nm E gr mt (cs.map (q1a ⟨tf,tq⟩)) rfl hl hw (by simp) hn (OldM.of rfl (qD7 rfl (qo6 q00 64 w ws)) rfl rfl rfl rfl rfl rfl rfl rfl) fun h' z' cs' ns' g1 g2 hold=>?_))
    have g1:cs'.length=cs.length:=g1
    have g2:ns'.length=([]:List Ntc).length:=g2
    have hold:OldM zB (qD nm E gr mt cs.length ((w::ws):List Int).length ([]:List Ntc).length) cs' (wsT ⟨true,0⟩ (w::ws)) ns' h' z':=hold
    obtain⟨⟨h0,rfl⟩,z0,rfl⟩:=hold
    obtain rfl:ns'=[]:=List.eq_nil_of_length_eq_zero g2
    rw[q70 (l:=(wsT ⟨true,0⟩ (w::ws)).map q00) (fun e0=>by have h1:=congrArg List.length e0;rw[List.length_map,q7d]at h1;exact absurd h1 (by simp))]
    refine gg rfl (q5x rfl rfl rfl ⟨q1n (by simp[g1]) (q0L q1u _),q1n (by simp[q7d]) (q0L q7e _),trivial⟩ ⟨⟨nm,E,gr,[],cs',wsT ⟨true,0⟩ (w::ws),mt⟩,?_,rfl,?_⟩)
    ·rw[q1o (by simp[g1]),q1o (by simp[q7d])]
     rfl
    cases tf with
    |true=>rfl
    |false=>exact absurd (show false=true from hf) (by decide)
   refine gg rfl (q5x rfl rfl rfl ⟨q1n (by simp) (q0L q1u _),q1n (by simp) (q0L q7e _),trivial⟩ ⟨⟨nm,E,gr,[],cs.map (q1a ⟨tf,tq⟩),(w::ws),mt⟩,?_,rfl,?_⟩)
   ·rw[q1o (by simp),q1o (by simp)]
    rfl
   rw[qfU hf]
  |cons n ns=>
   refine q6y (fn:=q8Y) rfl rfl (gg rfl (q0i rfl (gg rfl (qkZ rfl rfl rfl (q1k (n:=2) (fun _=>rfl) _) rfl (Nat.zero_le _) (by simp[q0N]at hn⊢;omega) ?_))))
   refine gg rfl (qds rfl rfl (gg rfl (q01 rfl (fun hf=>?_) (fun hf=>?_))))
   ·refine gg rfl (q6y (fn:=k_grade_mirror) rfl rfl (qfF ⟨nm,es,gr,(n::ns),cs,(w::ws),mt⟩ zB nm E gr mt (cs.map (q1a ⟨tf,tq⟩)) rfl hl hw (by simp) hn (OldM.of rfl (qD7 (qo6 Ntc.enc 77 n ns) (qo6 q00 64 w ws)) rfl rfl rfl rfl rfl rfl rfl rfl) fun h' z' cs' ns' g1 g2 hold=>?_))
    have g1:cs'.length=cs.length:=g1
    have g2:ns'.length=((n::ns):List Ntc).length:=g2
    have hold:OldM zB (qD nm E gr mt cs.length ((w::ws):List Int).length ((n::ns):List Ntc).length) cs' (wsT ⟨true,0⟩ (w::ws)) ns' h' z':=hold
    obtain⟨⟨h0,rfl⟩,z0,rfl⟩:=hold
    rw[q70 (l:=ns'.map Ntc.enc) (fun e0=>by have h1:=congrArg List.length e0;rw[List.length_map,g2]at h1;exact absurd h1 (by simp))]
    rw[q70 (l:=(wsT ⟨true,0⟩ (w::ws)).map q00) (fun e0=>by have h1:=congrArg List.length e0;rw[List.length_map,q7d]at h1;exact absurd h1 (by simp))]
    refine gg rfl (q5x rfl rfl rfl ⟨q1n (by simp[g2]) (q0L (fun _=>rfl) _),q1n (by simp[g1]) (q0L q1u _),q1n (by simp[q7d]) (q0L q7e _),trivial⟩ ⟨⟨nm,E,gr,ns',cs',wsT ⟨true,0⟩ (w::ws),mt⟩,?_,rfl,?_⟩)
    ·rw[q1o (by simp[g2]),q1o (by simp[g1]),q1o (by simp[q7d])]
     rfl
    cases tf with
    |true=>rfl
    |false=>exact absurd (show false=true from hf) (by decide)
   refine gg rfl (q5x rfl rfl rfl ⟨q1n (by simp) (q0L (fun _=>rfl) _),q1n (by simp) (q0L q1u _),q1n (by simp) (q0L q7e _),trivial⟩ ⟨⟨nm,E,gr,(n::ns),cs.map (q1a ⟨tf,tq⟩),(w::ws),mt⟩,?_,rfl,?_⟩)
   ·rw[q1o (by simp),q1o (by simp),q1o (by simp)]
    rfl
   rw[qfU hf]
end Go.F

namespace Go.F
attribute [local irreducible] IntKind.wrap wpM
theorem qEg (l:List Edge)(ws:List Int):(q1Q l ws).1.length≤40:=by
 unfold q1Q
 split
 ·unfold q8u
  split
  ·simp
  split
  ·rename_i hq
   split
   ·exact(q17 hq).2.1
   simp
  simp
 simp
theorem qGV (p:List Spot):(q6b p).1.length≤p.length:=by
 unfold q6b
 split
 ·have:=qae p p.length
  simp only[qsi,qyv]
  split<;>simp<;>omega
 simp
set_option maxHeartbeats 4000000 in
theorem qI8 (p:Piece)(t:Turn)(hL:∀e∈p.edges,e.line.length≤reachBytes)(hI:InE p.edges):PU qeK [p.enc,t.enc]=some (.bool true):=by
 obtain⟨sm,hsm,hsmall⟩:=qF7 p.edges p.widths (fun i hi=>by
  rw[q3M hi]
  exact Nat.le_trans (hL _ (List.getElem_mem _)) (by decide))
 have hlen:sm=true→p.widths.length=p.edges.length→p.corners.length≤20→p.notches.length≤20→∃d,(∃q:Piece,d=q.enc∧q.edges=q0P t p.edges∧q.widths=wsT t p.widths)∧PU qeL [p.enc,t.enc]=some d:=by
  intro h1 h2 h3 h4
  obtain⟨h30,h20,h60⟩:=hsmall h1
  refine ql3 p t (by omega) (fun e he=>?_) (by omega) h2 (by omega)
  obtain⟨i,hi,rfl⟩:=List.mem_iff_getElem.1 he
  have:=h60 i hi
  rw[q3M hi]at this
  omega
 have hA:=q8w p.edges p.widths
 have hB:=q8w (q0P t p.edges) (wsT t p.widths)
 have hiff:=qoc (ws:=p.widths) hI t
 have hnorm:=fun a b=>qzQ (l:=p.edges) (ws:=p.widths) (q:=(q1Q p.edges p.widths).1) (b:=(q1Q (q0P t p.edges) (wsT t p.widths)).1) (t:=t) a b
 have hal:=qEg p.edges p.widths
 have hpe:p.enc=.agg [.str p.name,Go.F.edges p.edges,.int .i64 p.grain,q51 p.notches,q0k p.corners,ints p.widths,.bool p.match_]:=rfl
 have hte:t.enc=.agg [.bool t.flip,.int .i64 t.quarter]:=rfl
 generalize q0P t p.edges=E at*
 generalize wsT t p.widths=V at*
 obtain⟨a,ea⟩:∃a,q1Q p.edges p.widths=a:=⟨_,rfl⟩
 obtain⟨b,eb⟩:∃b,q1Q E V=b:=⟨_,rfl⟩
 rw[ea]at hA hiff hal hnorm
 rw[eb]at hB hiff hnorm
 obtain⟨q,e⟩:=a
 obtain⟨r,f⟩:=b
 refine q0g (fn:=q7y) rfl (q0a ?_)
 refine gg rfl (q02 rfl rfl hsm (gg rfl (q08 rfl (fun g=>?_) (fun g0=>?_))))
 ·repeat' (first
   |refine goP 800 rfl rfl ?_
   |refine q0h rfl ?_|refine q0m rfl ?_|refine q08 rfl (fun _=>?_) (fun _=>?_)
   |refine q0d rfl ?_|refine q0i rfl ?_|refine q01 rfl (fun _=>?_) (fun _=>?_)
   |refine q0Q rfl (fun _=>?_) (fun _=>?_)
   |refine q09 rfl rfl rfl trivial ?_
   |refine q02 rfl rfl (q2N) ?_)
  all_goals rfl
 have hs:sm=true:=by simpa using g0
 refine gg rfl (q08 rfl (fun g1=>?_) (fun g1=>?_))
 ·repeat' (first
   |refine goP 800 rfl rfl ?_
   |refine q0h rfl ?_|refine q0m rfl ?_|refine q08 rfl (fun _=>?_) (fun _=>?_)
   |refine q0d rfl ?_|refine q0i rfl ?_|refine q01 rfl (fun _=>?_) (fun _=>?_)
   |refine q0Q rfl (fun _=>?_) (fun _=>?_)
   |refine q09 rfl rfl rfl trivial ?_
   |refine q02 rfl rfl (q2N) ?_)
  all_goals rfl
 rw[q0B,List.length_map,List.length_map]at g1
 refine gg rfl (q08 rfl (fun g2=>?_) (fun g2=>?_))
 ·repeat' (first
   |refine goP 800 rfl rfl ?_
   |refine q0h rfl ?_|refine q0m rfl ?_|refine q08 rfl (fun _=>?_) (fun _=>?_)
   |refine q0d rfl ?_|refine q0i rfl ?_|refine q01 rfl (fun _=>?_) (fun _=>?_)
   |refine q0Q rfl (fun _=>?_) (fun _=>?_)
   |refine q09 rfl rfl rfl trivial ?_
   |refine q02 rfl rfl (q2N) ?_)
  all_goals rfl
 rw[q07,List.length_map]at g2
 refine gg rfl (q01 rfl (fun g3=>?_) (fun g3=>?_))
 ·repeat' (first
   |refine goP 800 rfl rfl ?_
   |refine q0h rfl ?_|refine q0m rfl ?_|refine q08 rfl (fun _=>?_) (fun _=>?_)
   |refine q0d rfl ?_|refine q0i rfl ?_|refine q01 rfl (fun _=>?_) (fun _=>?_)
   |refine q0Q rfl (fun _=>?_) (fun _=>?_)
   |refine q09 rfl rfl rfl trivial ?_
   |refine q02 rfl rfl (q2N) ?_)
  all_goals rfl
 rw[q07,List.length_map]at g3
 obtain⟨_,⟨Q,rfl,rfl,rfl⟩,hT⟩:=hlen hs (by omega) (by omega) (by omega)
 refine gg rfl (q02 rfl rfl hT (gg rfl (q02 rfl rfl hA (gg rfl (q02 rfl rfl hB ?_)))))
 by_cases he:e=0
 ·have hf0:f=0:=hiff.1 he
  subst he
  subst hf0
  obtain⟨n1,n2,n3⟩:=hnorm rfl rfl
  simp only at n1 n2 n3 hal
  have hpl:(q3N t q).length=q.length:=by simp[q3N]
  have s6:=qvG t q (by omega)
  have s7:=qtW (q3N t q)
  have s8:=qtW r
  rw[n1]at s7
  rw[n2]at s7 s8
  have hl:=qGV (q3N t q)
  rw[n1]at hl
  have s9:=q7L (q6b r).1 (q6b r).1 (by omega)
  rw[decide_eq_true rfl]at s9
  have he2:∀{x:Int} {P:Prop},eqb x x=false→P:=fun h=>absurd rfl (q1J.1 h)
  refine gg rfl (q08 rfl (fun h=>absurd rfl (q0w.1 h)) (fun _=>?_))
  refine gg rfl (q01 rfl (fun h=>absurd rfl (q0w.1 h)) (fun _=>?_))
  refine gg rfl (q02 rfl rfl s6 (gg rfl (q02 rfl rfl s7 (gg rfl (q02 rfl rfl s8 (gg rfl (q08 rfl (fun _=>?_) he2)))))))
  refine gg rfl (q08 rfl (fun _=>?_) he2)
  refine gg rfl (q02 rfl rfl s9 (gg rfl (q0h rfl (gg rfl (q08 rfl (fun _=>?_) (fun hf=>?_))))))
  ·exact gg rfl (q0h rfl (gg rfl (q02 rfl rfl q2N (gg rfl (q09 rfl rfl rfl trivial rfl)))))
  have hf:t.flip=false:=hf
  have hr:=n3 hf
  have s10:=q7L r r (by rw[←hr];omega)
  rw[decide_eq_true rfl]at s10
  rw[hr]
  exact gg rfl (q02 rfl rfl s10 (gg rfl (q0h rfl (gg rfl (q02 rfl rfl q2N (gg rfl (q09 rfl rfl rfl trivial rfl)))))))
 have hf0:f≠0:=fun h=>he (hiff.2 h)
 have he1:nqb e 0=true:=q0w.2 he
 have hf1:nqb f 0=true:=q0w.2 hf0
 refine gg rfl (q08 rfl (fun _=>?_) (fun h=>absurd h (by rw[he1];decide)))
 refine gg rfl (q01 rfl (fun _=>?_) (fun h=>absurd h (by decide)))
 refine gg rfl (q08 rfl (fun _=>?_) (fun h=>absurd h (by rw[he1];decide)))
 refine gg rfl (q08 rfl (fun _=>?_) (fun h=>absurd h (by rw[hf1];decide)))
 exact gg rfl (q02 rfl rfl q2N (gg rfl (q09 rfl rfl rfl trivial rfl)))
end Go.F
