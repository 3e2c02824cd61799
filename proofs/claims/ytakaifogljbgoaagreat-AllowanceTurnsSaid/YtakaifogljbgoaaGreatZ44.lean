/- Parts of the proof, part 44: Dec. -/
import Derived.Test.YtakaifogljbgoaaGreatZ43
import Derived.Test.YtakaifogljbgoaaGreatZ41
set_option linter.all false
namespace Go.F
theorem qiR {sh:Sh}{α:Type}{enc:α→D}(h:∀x,HasC sh x→∃a,mkD sh x=enc a){c:List D}(hc:HasC (.sl sh) c):∃l:List α,mkD (.sl sh) c=.lst (l.map enc)∧l.length≤maxLen:=by
 cases hc with
 |sl _ es hl he=>
  have key:∀es:List (List D),(∀x∈es,HasC sh x)→∃l:List α,es.map (mkD sh)=l.map enc∧l.length=es.length:=by
   intro es
   induction es with
   |nil=>intro _;exact⟨[],rfl,rfl⟩
   |cons x es ih=>
    intro hx
    obtain⟨l,h1,h2⟩:=ih fun y hy=>hx y (List.mem_cons_of_mem _ hy)
    obtain⟨a,ha⟩:=h x (hx x (List.mem_cons_self ..))
    exact⟨a::l,by rw[List.map_cons,ha,h1,List.map_cons],by simp[h2]⟩
  obtain⟨l,h1,h2⟩:=key es he
  exact⟨l,by show D.lst (es.map (mkD sh))=_;rw[h1],by omega⟩
theorem q2r {k:IntKind}{x:List D}(h:HasC (.int k) x):∃n:Int,x=[.int k n]∧k.min≤n∧n≤k.max:=by
 cases h with
 |int _ n hn=>exact⟨n,rfl,hn⟩
theorem qpo {x:List D}(h:HasC .bool x):∃b:Bool,x=[.bool b]:=by
 cases h with
 |bool b=>exact⟨b,rfl⟩
theorem qfz {x:List D}(h:HasC .str x):∃s:ByteArray,x=[.str s]∧s.size≤maxLen:=by
 cases h with
 |str s hs=>exact⟨s,rfl,hs⟩
theorem q7f {x:List D}(h:HasC (.st []) x):x=[]:=by
 cases h;rfl
theorem q0X {s:Sh}{ss:List Sh}{x:List D}(h:HasC (.st (s::ss)) x):∃a b,x=a++b∧HasC s a∧HasC (.st ss) b:=by
 cases h with
 |stc _ _ a b ha hb=>exact⟨a,b,rfl,ha,hb⟩
def qeA:Sh:=.st [.int .i64,.int .i64]
def qpp:Sh:=.st [.str,.sl qeA]
def qiS:Sh:=.sl qpp
def qkb:Sh:=.sl (.int .i64)
theorem qpq {x:List D}(h:HasC qeA x):∃s:Spot,mkD qeA x=s.enc∧x=[.int .i64 s.x,.int .i64 s.y]∧(IntKind.i64.min≤s.x∧s.x≤IntKind.i64.max)∧(IntKind.i64.min≤s.y∧s.y≤IntKind.i64.max):=by
 obtain⟨a,b,rfl,ha,hb⟩:=q0X h
 obtain⟨c,d,rfl,hc,hd⟩:=q0X hb
 obtain⟨n,rfl,hn⟩:=q2r ha
 obtain⟨m,rfl,hm⟩:=q2r hc
 obtain rfl:=q7f hd
 exact⟨⟨n,m⟩,rfl,rfl,hn,hm⟩
end Go.F
