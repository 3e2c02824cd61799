/- Parts of the proof, part 46: SDec. -/
import Derived.Test.YtakaifogljbgoaaGreatZ44
import Derived.Test.YtakaifogljbgoaaGreatZ45
set_option linter.all false
namespace Go.F
theorem q5O {sh:Sh}{α:Type}{enc:α→D}(h:∀x,HasC sh x→∃a,mkD sh x=enc a){c:List D}(hc:HasC (.sl sh) c):∃l:List α,c=[.lst (l.map enc)]∧l.length≤maxLen:=by
 obtain⟨l,h1,h2⟩:=qiR h hc
 refine⟨l,?_,h2⟩
 cases hc with
 |sl _ es _ _=>rw[←h1];rfl
def qHD:Sh:=.st [.int .i64,.int .i64]
def qwo:Sh:=.st [.str,qiS,.int .i64,.sl qHD,.sl qeA,qkb,.bool]
def qHE:Sh:=.st [.int .i64,.int .i64,.bool]
def qHF:Sh:=.st [.int .i64,.int .i64,.int .i64,.int .i64,.bool,.int .i64]
def qHG:Sh:=.st [.str,.int .i64,.int .i64,qkb,qkb]
def shSty:Sh:=.st [.str,.sl .str,qkb,.sl qwo,.sl qHE,.sl qHF,.sl qHG]
theorem qjD {x:List D}(h:HasC (.int .i64) x):∃n:Int,mkD (.int .i64) x=q00 n:=by
 obtain⟨n,rfl,_⟩:=q2r h
 exact⟨n,rfl⟩
theorem qHH {x:List D}(h:HasC .str x):∃s:ByteArray,mkD .str x=D.str s:=by
 obtain⟨s,rfl,_⟩:=qfz h
 exact⟨s,rfl⟩
theorem qIX {x:List D}(h:HasC qHD x):∃n:Ntc,mkD qHD x=n.enc:=by
 obtain⟨a,b,rfl,ha,hb⟩:=q0X h
 obtain⟨c,d,rfl,hc,hd⟩:=q0X hb
 obtain⟨n,rfl,_⟩:=q2r ha
 obtain⟨m,rfl,_⟩:=q2r hc
 obtain rfl:=q7f hd
 exact⟨⟨n,m⟩,rfl⟩
theorem qIY {x:List D}(h:HasC qHE x):∃n:Use,mkD qHE x=n.enc:=by
 obtain⟨a,b,rfl,ha,hb⟩:=q0X h
 obtain⟨c,d,rfl,hc,hd⟩:=q0X hb
 obtain⟨e,f,rfl,he,hf⟩:=q0X hd
 obtain⟨n,rfl,_⟩:=q2r ha
 obtain⟨m,rfl,_⟩:=q2r hc
 obtain⟨k,rfl⟩:=qpo he
 obtain rfl:=q7f hf
 exact⟨⟨n,m,k⟩,rfl⟩
theorem qIZ {x:List D}(h:HasC qHF x):∃n:Sew,mkD qHF x=n.enc:=by
 obtain⟨a1,r1,rfl,h1,g1⟩:=q0X h
 obtain⟨a2,r2,rfl,h2,g2⟩:=q0X g1
 obtain⟨a3,r3,rfl,h3,g3⟩:=q0X g2
 obtain⟨a4,r4,rfl,h4,g4⟩:=q0X g3
 obtain⟨a5,r5,rfl,h5,g5⟩:=q0X g4
 obtain⟨a6,r6,rfl,h6,g6⟩:=q0X g5
 obtain⟨n1,rfl,_⟩:=q2r h1
 obtain⟨n2,rfl,_⟩:=q2r h2
 obtain⟨n3,rfl,_⟩:=q2r h3
 obtain⟨n4,rfl,_⟩:=q2r h4
 obtain⟨n5,rfl⟩:=qpo h5
 obtain⟨n6,rfl,_⟩:=q2r h6
 obtain rfl:=q7f g6
 exact⟨⟨n1,n2,n3,n4,n5,n6⟩,rfl⟩
theorem qJ0 {x:List D}(h:HasC qHG x):∃n:Opn,mkD qHG x=n.enc:=by
 obtain⟨a1,r1,rfl,h1,g1⟩:=q0X h
 obtain⟨a2,r2,rfl,h2,g2⟩:=q0X g1
 obtain⟨a3,r3,rfl,h3,g3⟩:=q0X g2
 obtain⟨a4,r4,rfl,h4,g4⟩:=q0X g3
 obtain⟨a5,r5,rfl,h5,g5⟩:=q0X g4
 obtain⟨n1,rfl,_⟩:=qfz h1
 obtain⟨n2,rfl,_⟩:=q2r h2
 obtain⟨n3,rfl,_⟩:=q2r h3
 obtain⟨n4,rfl,_⟩:=q5O (fun _ hx=>qjD hx) h4
 obtain⟨n5,rfl,_⟩:=q5O (fun _ hx=>qjD hx) h5
 obtain rfl:=q7f g5
 exact⟨⟨n1,n2,n3,n4,n5⟩,rfl⟩
theorem qEZ {x:List D}(h:HasC qwo x):∃n:Piece,mkD qwo x=n.enc:=by
 obtain⟨a1,r1,rfl,h1,g1⟩:=q0X h
 obtain⟨a2,r2,rfl,h2,g2⟩:=q0X g1
 obtain⟨a3,r3,rfl,h3,g3⟩:=q0X g2
 obtain⟨a4,r4,rfl,h4,g4⟩:=q0X g3
 obtain⟨a5,r5,rfl,h5,g5⟩:=q0X g4
 obtain⟨a6,r6,rfl,h6,g6⟩:=q0X g5
 obtain⟨a7,r7,rfl,h7,g7⟩:=q0X g6
 obtain⟨n1,rfl,_⟩:=qfz h1
 obtain⟨n2,rfl,_⟩:=q5O (fun _ hx=>qxk hx) h2
 obtain⟨n3,rfl,_⟩:=q2r h3
 obtain⟨n4,rfl,_⟩:=q5O (fun _ hx=>qIX hx) h4
 obtain⟨n5,rfl,_⟩:=q5O (enc:=Spot.enc) (fun _ hx=>by obtain⟨s,e,_⟩:=qpq hx;exact⟨s,e⟩) h5
 obtain⟨n6,rfl,_⟩:=q5O (fun _ hx=>qjD hx) h6
 obtain⟨n7,rfl⟩:=qpo h7
 obtain rfl:=q7f g7
 exact⟨⟨n1,n2,n3,n4,n5,n6,n7⟩,rfl⟩
theorem dec_sty {x:List D}(h:HasC shSty x):∃n:Sty,mkD shSty x=n.enc:=by
 obtain⟨a1,r1,rfl,h1,g1⟩:=q0X h
 obtain⟨a2,r2,rfl,h2,g2⟩:=q0X g1
 obtain⟨a3,r3,rfl,h3,g3⟩:=q0X g2
 obtain⟨a4,r4,rfl,h4,g4⟩:=q0X g3
 obtain⟨a5,r5,rfl,h5,g5⟩:=q0X g4
 obtain⟨a6,r6,rfl,h6,g6⟩:=q0X g5
 obtain⟨a7,r7,rfl,h7,g7⟩:=q0X g6
 obtain⟨n1,rfl,_⟩:=qfz h1
 obtain⟨n2,rfl,_⟩:=q5O (fun _ hx=>qHH hx) h2
 obtain⟨n3,rfl,_⟩:=q5O (fun _ hx=>qjD hx) h3
 obtain⟨n4,rfl,_⟩:=q5O (fun _ hx=>qEZ hx) h4
 obtain⟨n5,rfl,_⟩:=q5O (fun _ hx=>qIY hx) h5
 obtain⟨n6,rfl,_⟩:=q5O (fun _ hx=>qIZ hx) h6
 obtain⟨n7,rfl,_⟩:=q5O (fun _ hx=>qJ0 hx) h7
 obtain rfl:=q7f g7
 exact⟨⟨n1,n2,n3,n4,n5,n6,n7⟩,rfl⟩
theorem dec_u8 {x:List D}(h:HasC (.int .u8) x):∃n:Nat,mkD (.int .u8) x=.int .u8 n∧n<256:=by
 obtain⟨n,rfl,h1,h2⟩:=q2r h
 have h1:0≤n:=h1
 have h2:n≤255:=h2
 obtain⟨m,rfl⟩:∃m:Nat,n=m:=⟨n.toNat,by omega⟩
 exact⟨m,rfl,by omega⟩
end Go.F
