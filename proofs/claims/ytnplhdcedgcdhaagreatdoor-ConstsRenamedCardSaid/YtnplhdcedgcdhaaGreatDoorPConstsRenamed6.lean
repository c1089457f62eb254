/- ConstsRenamed, part 6; made small by a program. -/
import Derived.Test.YtnplhdcedgcdhaaGreatDoorProg
import Derived.Laws.CopyRow
import Derived.Test.YtnplhdcedgcdhaaGreatDoorPConstsRenamed5
namespace Go.Proofs
open Go.Gk Go.RowKit Go.Gm
abbrev Cn:=Int×List Int
abbrev Vn:=Int×Int×List Int
abbrev CnL:=List (Int×Cn)
abbrev VnL:=List (Int×Vn)
def ofC(C:CnL)(id ty:Int):List Int×Int:=match zy C id with
 |none=>([],110)
 |some c=>if c.1≠ty then([],111) else(c.2,0)
def catC(T:TyL)(C:CnL)(pl:List PI)(k:Nat):Nat->List Int×Int
 | 0=>([],0)
 |n+1=>if (catC T C pl k n).2≠0 then catC T C pl k n else
  if (ofC C (agI pl k n) ((tA T (ix pl k).2.1).prt (n:Int)).1).2≠0 then([],(ofC C (agI pl k n) ((tA T (ix pl k).2.1).prt (n:Int)).1).2)
  else((catC T C pl k n).1++(ofC C (agI pl k n) ((tA T (ix pl k).2.1).prt (n:Int)).1).1,0)
def wdsC(T:TyL)(C:CnL)(pl:List PI)(k:Nat):Option (List Int×Int):=
 if (ix pl k).1=1\/(ix pl k).1=46 then some (if (tA T (ix pl k).2.1).size=0 then([],100) else(List.replicate (tA T (ix pl k).2.1).size 0,0))
 else if (ix pl k).1=41\/(ix pl k).1=42 then some (if (tA T (ix pl k).2.1).kind≠2 then([],100) else(if (ix pl k).1=41 then [1] else [0],0))
 else if (ix pl k).1=43 then some (if (tA T (ix pl k).2.1).kind≠3 then([],100) else([agI pl k 0],0))
 else if (ix pl k).1=44 then some (if ¬(4<=(tA T (ix pl k).2.1).kind/\(tA T (ix pl k).2.1).kind<=6) then([],100) else if (ix pl k).2.2.2.length≠(tA T (ix pl k).2.1).cnt then([],111) else catC T C pl k (ix pl k).2.2.2.length)
 else none
def varC(T:TyL)(C:CnL)(pl:List PI)(k:Nat):Vn×Int:=
 if (tA T (ix pl k).2.1).kind≠7 then((0,0,[]),100)
 else if (tA T (ix pl k).2.1).cls≠agI pl k 0\/(1<(ix pl k).2.2.2.length/\(tA T (ix pl k).2.1).cls=1) then((0,0,[]),112)
 else if (ix pl k).2.2.2.length=1 then((agI pl k 0,((tA T (ix pl k).2.1).prt 0).1,List.replicate (tA T ((tA T (ix pl k).2.1).prt 0).1).size 0),0)
 else((agI pl k 0,((tA T (ix pl k).2.1).prt 0).1,(ofC C (agI pl k 1) ((tA T (ix pl k).2.1).prt 0).1).1),(ofC C (agI pl k 1) ((tA T (ix pl k).2.1).prt 0).1).2)
def errC(T:TyL)(C:CnL)(pl:List PI)(k:Nat):Int:=if (ix pl k).1=59 then(varC T C pl k).2 else match wdsC T C pl k with
 |none=>0
 |some p=>p.2
def addC(T:TyL)(s:CnL×VnL)(pl:List PI)(k:Nat):CnL×VnL:=if (ix pl k).1=59 then(s.1,setQ s.2 (ix pl k).2.2.1 (varC T s.1 pl k).1) else match wdsC T s.1 pl k with
 |none=>s
 |some p=>(setQ s.1 (ix pl k).2.2.1 ((ix pl k).2.1,p.1),s.2)
def cnsC(T:TyL)(pl:List PI):Nat->CnL×VnL
 | 0=>([],[])
 |k+1=>if zn (ix pl k)=7 then addC T (cnsC T pl k) pl k else cnsC T pl k
def badC(T:TyL)(pl:List PI)(k:Nat):Int:=if zn (ix pl k)=7 then errC T (cnsC T pl k).1 pl k else 0
abbrev cnL(pl:List PI):CnL:=(cnsC (tyL pl) pl pl.length).1
abbrev vnL(pl:List PI):VnL:=(cnsC (tyL pl) pl pl.length).2
def conE(bd:Int)(pl:List PI):Int×Int:=if (typE bd pl).1≠0 then typE bd pl else
 match (List.range pl.length).find? λk=>badC (tyL pl) pl k !=0 with
 |some k=>(badC (tyL pl) pl k,(k:Int))
 |none=>(0,0)
theorem zn5{bd:Int}{pl:List PI}(h:(typE bd pl).1≠0):conE bd pl=typE bd pl:=if_pos h
theorem zoN{bd:Int}{pl:List PI}(h:(typE bd pl).1=0){k:Nat}(hk:k<pl.length)(he:badC (tyL pl) pl k≠0)(hj:∀j,j<k->badC (tyL pl) pl j=0):conE bd pl=(badC (tyL pl) pl k,(k:Int)):=by
 unfold conE
 rw[if_neg (λq=>q h),List.find?_range_eq_some.2 ⟨by simpa using he,List.mem_range.2 hk,λj hj'=>by simp[hj j hj']⟩]
theorem ziV{bd:Int}{pl:List PI}(h:(typE bd pl).1=0)(hj:∀j,j<pl.length->badC (tyL pl) pl j=0):conE bd pl=(0,0):=by
 unfold conE
 rw[if_neg (λq=>q h),List.find?_eq_none.2 λk hk=>by simp[hj k (List.mem_range.1 hk)]]
structure CnOk (bd:Int) (pl:List PI):Prop where
 ty:TyOk bd pl
 no:∀k,k<pl.length->badC (tyL pl) pl k=0
theorem zly:(match frm 1,frm 41,frm 42,frm 43,frm 44,frm 46 with |some a,some b,some c,some d,some e,some f=>a.2.2.2.2.2.2==7&&b.2.2.2.2.2.2==7&&c.2.2.2.2.2.2==7&&d.2.2.2.2.2.2==7&&e.2.2.2.2.2.2==7&&f.2.2.2.2.2.2==7 |_,_,_,_,_,_=>false)=true:=by decide +kernel
def isC(op:Int):Bool:=op==1||op==41||op==42||op==43||op==44||op==46
theorem Za{op:Int}:isC op=true↔op=1\/op=41\/op=42\/op=43\/op=44\/op=46:=by
 unfold isC
 simp only[Bool.or_eq_true,beq_iff_eq,or_assoc]
section
variable {bd:Int} {pl:List PI} {k:Nat} {T:TyL} {C:CnL}
theorem zjW(h:isC (ix pl k).1=true):zn (ix pl k)=7:=by
 have h1:=zly
 have hv:zdi (ix pl k)=false:=by
  unfold zdi
  rw[Za]at h
  rw[Bool.and_eq_false_iff]
  left
  rw[beq_eq_false_iff_ne]
  omega
 unfold zn
 rw[hv,if_neg (by simp)]
 generalize (ix pl k).1=op at h⊢
 unfold YY
 rw[Za]at h
 rcases h with rfl |rfl |rfl |rfl |rfl |rfl<;>decide +kernel
theorem zpq{p:List Int×Int}(h:wdsC T C pl k=some p):isC (ix pl k).1=true:=by
 rw[Za]
 unfold wdsC at h
 refine Classical.byContradiction λhn=>?_
 rw[if_neg (by omega),if_neg (by omega),if_neg (by omega),if_neg (by omega)]at h
 cases h
theorem Yf(T:TyL)(C:CnL)(h:isC (ix pl k).1=true):∃p,wdsC T C pl k=some p:=by
 cases ho:wdsC T C pl k with
 |some p=>exact⟨p,rfl⟩
 |none=>
  exfalso
  unfold wdsC at ho
  rw[Za]at h
  generalize (ix pl k).1=op at h ho
  rcases h with rfl |rfl |rfl |rfl |rfl |rfl<;>simp at ho
theorem ziJ{T:TyL}{C:CnL}(h:isC (ix pl k).1=false):wdsC T C pl k=none:=by
 cases ho:wdsC T C pl k with
 |none=>rfl
 |some p=>rw[zpq ho]at h;cases h
theorem zmf(hs:(zp bd pl).1=0)(hk:k<pl.length)(h:isC (ix pl k).1=true):(ix pl k).2.2.1≠0:=by
 rw[Za]at h
 rcases h with e |e |e |e |e |e
 ·exact yu hs hk e zp7
 ·exact yu hs hk e zoV
 ·exact yu hs hk e zoW
 ·exact yu hs hk e zcF
 ·exact yu hs hk e zmd
 ·exact yu hs hk e zoX
theorem ZW(h:isC (ix pl k).1=true){p:List Int×Int}(hp:wdsC T (cnsC T pl k).1 pl k=some p):cnsC T pl (k+1)=(setQ (cnsC T pl k).1 (ix pl k).2.2.1 ((ix pl k).2.1,p.1),(cnsC T pl k).2):=by
 show(if zn (ix pl k)=7 then addC T (cnsC T pl k) pl k else cnsC T pl k)=_
 rw[if_pos (zjW h)]
 unfold addC
 rw[if_neg (λe=>by rw[Za]at h;omega),hp]
theorem zbF(h7:zn (ix pl k)=7)(h:(ix pl k).1=59):cnsC T pl (k+1)=((cnsC T pl k).1,setQ (cnsC T pl k).2 (ix pl k).2.2.1 (varC T (cnsC T pl k).1 pl k).1):=by
 show(if zn (ix pl k)=7 then addC T (cnsC T pl k) pl k else cnsC T pl k)=_
 rw[if_pos h7]
 unfold addC
 rw[if_pos h]
theorem YW(h:isC (ix pl k).1=false)(h2:¬(zn (ix pl k)=7/\(ix pl k).1=59)):cnsC T pl (k+1)=cnsC T pl k:=by
 show(if zn (ix pl k)=7 then addC T (cnsC T pl k) pl k else cnsC T pl k)=_
 by_cases h7:zn (ix pl k)=7
 ·rw[if_pos h7]
  unfold addC
  rw[if_neg (λe=>h2 ⟨h7,e⟩),ziJ h]
 ·rw[if_neg h7]
theorem zaO(T:TyL)(pl:List PI)(k:Nat):(isC (ix pl k).1=true)\/(isC (ix pl k).1=false/\zn (ix pl k)=7/\(ix pl k).1=59)\/(isC (ix pl k).1=false/\¬(zn (ix pl k)=7/\(ix pl k).1=59)):=by
 cases h:isC (ix pl k).1 with
 |true=>exact .inl rfl
 |false=>
  by_cases h2:zn (ix pl k)=7/\(ix pl k).1=59
  ·exact .inr (.inl ⟨rfl,h2⟩)
  ·exact .inr (.inr ⟨rfl,h2⟩)
theorem zf0:∀n,(∀id,id∈(cnsC T pl n).1.map (·.1)->∃j,j<n/\(ix pl j).2.2.1=id/\isC (ix pl j).1=true)/\(∀id,id∈(cnsC T pl n).2.map (·.1)->∃j,j<n/\(ix pl j).2.2.1=id/\zn (ix pl j)=7/\(ix pl j).1=59)
 | 0=>⟨λ_ h=>(by cases h),λ_ h=>(by cases h)⟩
 |n+1=>by
  obtain⟨h1,h2⟩:=zf0 n
  have o1:∀id,id∈(cnsC T pl n).1.map (·.1)->∃j,j<n+1/\(ix pl j).2.2.1=id/\isC (ix pl j).1=true:=λid h=>by obtain⟨j,q,r⟩:=h1 id h;exact⟨j,by omega,r⟩
  have o2:∀id,id∈(cnsC T pl n).2.map (·.1)->∃j,j<n+1/\(ix pl j).2.2.1=id/\zn (ix pl j)=7/\(ix pl j).1=59:=λid h=>by obtain⟨j,q,r⟩:=h2 id h;exact⟨j,by omega,r⟩
  rcases zaO T pl n with h | ⟨h,h7,h59⟩ | ⟨h,hn⟩
  ·obtain⟨p,hp⟩:=Yf T (cnsC T pl n).1 h
   rw[ZW h hp]
   refine⟨λid hid=>?_,o2⟩
   dsimp only at hid
   rw[Yd]at hid
   split at hid
   ·exact o1 id hid
   ·rcases List.mem_append.1 hid with hid |hid
    ·exact o1 id hid
    ·exact⟨n,by omega,(List.mem_singleton.1 hid).symm,h⟩
  ·rw[zbF h7 h59]
   refine⟨o1,λid hid=>?_⟩
   dsimp only at hid
   rw[Yd]at hid
   split at hid
   ·exact o2 id hid
   ·rcases List.mem_append.1 hid with hid |hid
    ·exact o2 id hid
    ·exact⟨n,by omega,(List.mem_singleton.1 hid).symm,h7,h59⟩
  ·rw[YW h hn]
   exact⟨o1,o2⟩
theorem zhK{α:Type}:∀(L:List (Int×α)) (k:Int) (v:α),k ∉ L.map (·.1)->setQ L k v=L++[(k,v)]
 | [],_,_,_=>rfl
 |a::r,k,v,hn=>by
  rw[List.map_cons,List.mem_cons,not_or]at hn
  simp only[setQ]
  rw[if_neg hn.1,zhK r k v hn.2]
  rfl
theorem ziU(W:yq bd pl){n:Nat}(hn:n<pl.length)(h:isC (ix pl n).1=true):(ix pl n).2.2.1 ∉ (cnsC T pl n).1.map (·.1):=λhm=>by
 obtain⟨j,h1,h2,_⟩:=(zf0 n).1 _ hm
 exact W.new n hn (zmf W.shape hn h) j h1 (by omega) h2
theorem zmr(W:yq bd pl){n:Nat}(hn:n<pl.length)(h:(ix pl n).1=59):(ix pl n).2.2.1≠0:=yu W.shape hn h zgY
theorem zjE(W:yq bd pl){n:Nat}(hn:n<pl.length)(h:(ix pl n).1=59):(ix pl n).2.2.1 ∉ (cnsC T pl n).2.map (·.1):=λhm=>by
 obtain⟨j,h1,h2,_⟩:=(zf0 n).2 _ hm
 exact W.new n hn (zmr W hn h) j h1 (by omega) h2
theorem ziT(W:yq bd pl):∀n,n<=pl.length->(cnsC T pl n).1.map (·.1)=((List.range n).filter λk=>isC (ix pl k).1).map (λk=>(ix pl k).2.2.1)/\(cnsC T pl n).2.map (·.1)=((List.range n).filter λk=>decide (zn (ix pl k)=7/\(ix pl k).1=59)).map (λk=>(ix pl k).2.2.1)
 | 0,_=>⟨rfl,rfl⟩
 |n+1,hn=>by
  obtain⟨h1,h2⟩:=ziT W n (by omega)
  rw[List.range_succ,List.filter_append,List.filter_append,List.map_append,List.map_append]
  rcases zaO T pl n with h | ⟨h,h7,h59⟩ | ⟨h,hq⟩
  ·obtain⟨p,hp⟩:=Yf T (cnsC T pl n).1 h
   rw[ZW h hp]
   dsimp only
   rw[zhK _ _ _ (ziU W (by omega) h),List.map_append,h1,h2]
   have e1:[n].filter (λk=>isC (ix pl k).1)=[n]:=by rw[List.filter_cons,if_pos h];rfl
   have e2:[n].filter (λk=>decide (zn (ix pl k)=7/\(ix pl k).1=59))=[]:=by
    rw[List.filter_cons,if_neg]
    ·rfl
    ·rw[decide_eq_true_eq]
     rintro⟨_,e⟩
     rw[Za]at h
     omega
   rw[e1,e2]
   simp
  ·rw[zbF h7 h59]
   dsimp only
   rw[zhK _ _ _ (zjE W (by omega) h59),List.map_append,h1,h2]
   have e1:[n].filter (λk=>isC (ix pl k).1)=[]:=by rw[List.filter_cons,if_neg (by rw[h];simp)];rfl
   have e2:[n].filter (λk=>decide (zn (ix pl k)=7/\(ix pl k).1=59))=[n]:=by rw[List.filter_cons,if_pos (decide_eq_true ⟨h7,h59⟩)];rfl
   rw[e1,e2]
   simp
  ·rw[YW h hq,h1,h2]
   have e1:[n].filter (λk=>isC (ix pl k).1)=[]:=by rw[List.filter_cons,if_neg (by rw[h];simp)];rfl
   have e2:[n].filter (λk=>decide (zn (ix pl k)=7/\(ix pl k).1=59))=[]:=by rw[List.filter_cons,if_neg (by rw[decide_eq_true_eq];exact hq)];rfl
   rw[e1,e2]
   simp
end
end Go.Proofs
namespace Go.Proofs
open Go.Gk Go.RowKit Go.Gm
noncomputable def wdP(T:TyL)(pl:List PI)(k:Nat):List Int:=((wdsC T (cnsC T pl k).1 pl k).getD ([],0)).1
noncomputable def vaP(T:TyL)(pl:List PI)(k:Nat):Vn:=(varC T (cnsC T pl k).1 pl k).1
section
variable {bd:Int} {pl:List PI} {k:Nat} {T:TyL} {C:CnL}
theorem zf1(W:yq bd pl)(id:Int):∀n,n<=pl.length->(∀c,zy (cnsC T pl n).1 id=some c↔∃k,k<n/\isC (ix pl k).1=true/\(ix pl k).2.2.1=id/\c=((ix pl k).2.1,wdP T pl k))/\
  (∀v,zy (cnsC T pl n).2 id=some v↔∃k,k<n/\(zn (ix pl k)=7/\(ix pl k).1=59)/\(ix pl k).2.2.1=id/\v=vaP T pl k)
 | 0,_=>⟨λc=>⟨λh=>(by cases h),λ⟨k,h,_⟩=>(by omega)⟩,λc=>⟨λh=>(by cases h),λ⟨k,h,_⟩=>(by omega)⟩⟩
 |n+1,hn=>by
  obtain⟨h1,h2⟩:=zf1 W id n (by omega)
  rcases zaO T pl n with h | ⟨h,h7,h59⟩ | ⟨h,hq⟩
  ·obtain⟨p,hp⟩:=Yf T (cnsC T pl n).1 h
   rw[ZW h hp]
   have hw:wdP T pl n=p.1:=by unfold wdP;rw[hp];rfl
   have hnew:=ziU (T:=T) W (by omega:n<pl.length) h
   constructor
   ·intro c
    dsimp only
    rw[zaP]
    split
    ·rename_i e
     subst e
     constructor
     ·intro q
      cases q
      exact⟨n,by omega,h,rfl,by rw[hw]⟩
     ·rintro⟨k,k1,k2,k3,rfl⟩
      have:k=n:=Classical.byContradiction λhne=>W.new n (by omega) (zmf W.shape (by omega) h) k (by omega) (by omega) k3
      subst this
      rw[hw]
    ·rename_i e
     rw[h1 c]
     constructor
     ·rintro⟨k,k1,k2⟩
      exact⟨k,by omega,k2⟩
     ·rintro⟨k,k1,k2,k3,k4⟩
      refine⟨k,?_,k2,k3,k4⟩
      have:k≠n:=by rintro rfl;exact e k3.symm
      omega
   ·intro v
    dsimp only
    rw[h2 v]
    constructor
    ·rintro⟨k,k1,k2⟩
     exact⟨k,by omega,k2⟩
    ·rintro⟨k,k1,k2,k3⟩
     refine⟨k,?_,k2,k3⟩
     have:k≠n:=by
      rintro rfl
      rw[Za]at h
      omega
     omega
  ·rw[zbF h7 h59]
   constructor
   ·intro c
    dsimp only
    rw[h1 c]
    constructor
    ·rintro⟨k,k1,k2⟩
     exact⟨k,by omega,k2⟩
    ·rintro⟨k,k1,k2,k3⟩
     refine⟨k,?_,k2,k3⟩
     have:k≠n:=by
      rintro rfl
      rw[h]at k2
      cases k2
     omega
   ·intro v
    dsimp only
    rw[zaP]
    split
    ·rename_i e
     subst e
     constructor
     ·intro q
      cases q
      exact⟨n,by omega,⟨h7,h59⟩,rfl,rfl⟩
     ·rintro⟨k,k1,k2,k3,rfl⟩
      have:k=n:=Classical.byContradiction λhne=>W.new n (by omega) (zmr W (by omega) h59) k (by omega) (by omega) k3
      subst this
      rfl
    ·rename_i e
     rw[h2 v]
     constructor
     ·rintro⟨k,k1,k2⟩
      exact⟨k,by omega,k2⟩
     ·rintro⟨k,k1,k2,k3,k4⟩
      refine⟨k,?_,k2,k3,k4⟩
      have:k≠n:=by rintro rfl;exact e k3.symm
      omega
  ·rw[YW h hq]
   constructor
   ·intro c
    rw[h1 c]
    constructor
    ·rintro⟨k,k1,k2⟩
     exact⟨k,by omega,k2⟩
    ·rintro⟨k,k1,k2,k3⟩
     refine⟨k,?_,k2,k3⟩
     have:k≠n:=by
      rintro rfl
      rw[h]at k2
      cases k2
     omega
   ·intro v
    rw[h2 v]
    constructor
    ·rintro⟨k,k1,k2⟩
     exact⟨k,by omega,k2⟩
    ·rintro⟨k,k1,k2,k3⟩
     refine⟨k,?_,k2,k3⟩
     have:k≠n:=by
      rintro rfl
      exact hq k2
     omega
theorem zlO{n:Nat}(h:(catC T C pl k n).2=0):∀j,j<n->∃w,zy C (agI pl k j)=some (((tA T (ix pl k).2.1).prt (j:Int)).1,w):=by
 induction n with
 |zero=>intro j hj;omega
 |succ n ih=>
  intro j hj
  unfold catC at h
  by_cases h1:(catC T C pl k n).2≠0
  ·rw[if_pos h1]at h;exact absurd h h1
  rw[if_neg h1]at h
  by_cases h2:(ofC C (agI pl k n) ((tA T (ix pl k).2.1).prt (n:Int)).1).2≠0
  ·rw[if_pos h2]at h;exact absurd h h2
  by_cases e:j=n
  ·subst e
   have h2:=Classical.not_not.1 h2
   unfold ofC at h2
   cases hl:zy C (agI pl k j) with
   |none=>rw[hl]at h2;cases h2
   |some c=>
    rw[hl]at h2
    have h2:(if c.1≠((tA T (ix pl k).2.1).prt (j:Int)).1 then(([]:List Int),(111:Int)) else(c.2,0)).2=0:=h2
    by_cases h3:c.1≠((tA T (ix pl k).2.1).prt (j:Int)).1
    ·rw[if_pos h3]at h2;cases h2
    ·refine⟨c.2,?_⟩
     rw[<-Classical.not_not.1 h3]
  ·exact ih (Classical.not_not.1 h1) j (by omega)
theorem zoi{id ty:Int}{w:List Int}(h:zy C id=some (ty,w)):ofC C id ty=(w,0):=by
 unfold ofC
 rw[h]
 exact if_neg (λq=>q rfl)
theorem zkS{n:Nat}(h:(catC T C pl k n).2=0):(catC T C pl k n).1=(List.range n).flatMap λj=>((zy C (agI pl k j)).getD (0,[])).2:=by
 induction n with
 |zero=>rfl
 |succ n ih=>
  obtain⟨w,hw⟩:=zlO h n (by omega)
  have ho:=zoi hw
  have h1:(catC T C pl k n).2=0:=by
   refine Classical.byContradiction λq=>?_
   unfold catC at h
   rw[if_pos q]at h
   exact q h
  unfold catC
  rw[if_neg (λq=>q h1),ho,if_neg (λq=>q rfl),ih h1,List.range_succ,List.flatMap_append]
  simp only[List.flatMap_cons,List.flatMap_nil,List.append_nil]
  rw[hw]
  rfl
theorem CnOk.whole(h:CnOk bd pl)(hp:PlOk pl)(h0:0<=bd):yq bd pl:=h.ty.whole hp h0
theorem zn6(hb:badC (tyL pl) pl k=0)(hc:isC (ix pl k).1=true):wdsC (tyL pl) (cnsC (tyL pl) pl k).1 pl k=some (wdP (tyL pl) pl k,0):=by
 unfold badC at hb
 rw[if_pos (zjW hc)]at hb
 unfold errC at hb
 rw[if_neg (λe=>by rw[Za]at hc;omega)]at hb
 obtain⟨p,hp⟩:=Yf (tyL pl) (cnsC (tyL pl) pl k).1 hc
 rw[hp]at hb⊢
 have hb:p.2=0:=hb
 unfold wdP
 rw[hp]
 show some p=some (p.1,0)
 rw[<-hb]
theorem zjS(t:Tp)(h:TpOk T t):t.full.length=t.cnt:=by
 unfold Tp.full Tp.cnt
 by_cases e:t.kind=4\/t.kind=5
 ·obtain⟨h1,h2,h3⟩:=h.many e
  rw[if_pos h1,List.length_replicate,h3]
  rfl
 ·obtain⟨h1,h2⟩:=h.few e
  rw[h1,if_neg (by omega),Nat.zero_add]
theorem znM{t:Tp}(h:TpOk T t){j:Nat}(hj:j<t.cnt):t.prt (j:Int)=(t.full.getD j 0,true):=by
 unfold Tp.prt
 rw[if_neg (by omega)]
 unfold Tp.full
 by_cases e:0<t.times
 ·rw[if_pos e,if_pos e]
  have hk:t.kind=4\/t.kind=5:=Classical.byContradiction λhn=>by have:=(h.few hn).1;omega
  have:t.cnt=t.times:=by unfold Tp.cnt;rw[(h.many hk).2.2];rfl
  rw[zo (by rw[List.length_replicate];omega),List.getElem_replicate]
 ·rw[if_neg e,if_neg e,Int.toNat_natCast]
theorem zl3{α:Type}(l:List α)(d:α):(List.range l.length).map (λj=>l.getD j d)=l:=by
 refine List.ext_getElem (by simp) λi h1 h2=>?_
 rw[List.getElem_map,List.getElem_range]
 exact zo h2
theorem zjd(hT:TbOk T){id:Int}(h:(tA T id).kind≠0):TpOk T (tA T id):=zk5 hT h
theorem zpB(h:TyOk bd pl)(hp:PlOk pl)(h0:0<=bd):∀k,k<pl.length->(∀j,j<=k->badC (tyL pl) pl j=0)->isC (ix pl k).1=true->(wdP (tyL pl) pl k).length=(tA (tyL pl) (ix pl k).2.1).size:=by
 have W:=h.whole hp h0
 have hT:TbOk (tyL pl):=h.tb hp h0 (Nat.le_refl pl.length)
 intro k
 induction k using Nat.strongRecOn with
 |_ k ih=>
  intro hk hno hc
  have hw:=zn6 (hno k (Nat.le_refl k)) hc
  generalize hwd:wdP (tyL pl) pl k=wd at hw⊢
  unfold wdsC at hw
  by_cases e1:(ix pl k).1=1\/(ix pl k).1=46
  ·rw[if_pos e1]at hw
   injection hw with hw
   split at hw
   ·cases hw
   ·cases hw
    exact List.length_replicate
  rw[if_neg e1]at hw
  by_cases e2:(ix pl k).1=41\/(ix pl k).1=42
  ·rw[if_pos e2]at hw
   injection hw with hw
   by_cases e:(tA (tyL pl) (ix pl k).2.1).kind≠2
   ·rw[if_pos e]at hw;cases hw
   rw[if_neg e]at hw
   have e:=Classical.not_not.1 e
   have h1:=((zjd hT (id:=(ix pl k).2.1) (by omega)).one (by omega)).1
   rw[h1]
   cases hw
   split<;>rfl
  rw[if_neg e2]at hw
  by_cases e3:(ix pl k).1=43
  ·rw[if_pos e3]at hw
   injection hw with hw
   by_cases e:(tA (tyL pl) (ix pl k).2.1).kind≠3
   ·rw[if_pos e]at hw;cases hw
   rw[if_neg e]at hw
   have e:=Classical.not_not.1 e
   have h1:=((zjd hT (id:=(ix pl k).2.1) (by omega)).one (by omega)).1
   rw[h1]
   cases hw
   rfl
  rw[if_neg e3]at hw
  by_cases e4:(ix pl k).1=44
  ·rw[if_pos e4]at hw
   injection hw with hw
   by_cases e:¬(4<=(tA (tyL pl) (ix pl k).2.1).kind/\(tA (tyL pl) (ix pl k).2.1).kind<=6)
   ·rw[if_pos e]at hw;cases hw
   rw[if_neg e]at hw
   have e:=Classical.not_not.1 e
   by_cases e5:(ix pl k).2.2.2.length≠(tA (tyL pl) (ix pl k).2.1).cnt
   ·rw[if_pos e5]at hw;cases hw
   rw[if_neg e5]at hw
   have e5:=Classical.not_not.1 e5
   have htp:=zjd hT (id:=(ix pl k).2.1) (by omega)
   generalize ht:tA (tyL pl) (ix pl k).2.1=t at e e5 htp hw⊢
   have hc0:(catC (tyL pl) (cnsC (tyL pl) pl k).1 pl k (ix pl k).2.2.2.length).2=0:=by rw[hw]
   have hcw:=zkS hc0
   rw[hw]at hcw
   have hcw:wd=_:=hcw
   rw[hcw,List.length_flatMap,(htp.sub e).2.2.1,sumT]
   congr 1
   rw[e5,<-zjS t htp]
   conv=>rhs;rw[<-zl3 t.full 0]
   rw[List.map_map]
   refine List.map_congr_left λj hj=>?_
   have hj:=List.mem_range.1 hj
   rw[zjS t htp]at hj
   obtain⟨w',hw'⟩:=zlO hc0 j (by omega)
   rw[hw']
   show w'.length=(tA (tyL pl) (t.full.getD j 0)).size
   obtain⟨k',k1,k2,k3,k4⟩:=((zf1 (T:=tyL pl) W (agI pl k j) k (by omega)).1 _).1 hw'
   injection k4 with k4 k5
   rw[k5,ih k' k1 (by omega) (λj hj=>hno j (by omega)) k2,<-k4,ht,znM htp hj]
  rw[if_neg e4]at hw
  cases hw
theorem zgy(hT:TbOk T)(id:Int):(tA T id).size<=4096:=by
 unfold tA
 cases h:zy T id with
 |none=>exact Nat.zero_le _
 |some t=>exact(hT id t h).max.1
theorem zjD(h:TyOk bd pl)(hp:PlOk pl)(h0:0<=bd){n:Nat}(hn:n<=pl.length)(hno:∀j,j<n->badC (tyL pl) pl j=0){id:Int}{c:Cn}(hc:zy (cnsC (tyL pl) pl n).1 id=some c):c.2.length=(tA (tyL pl) c.1).size:=by
 obtain⟨k,k1,k2,k3,rfl⟩:=((zf1 (h.whole hp h0) id n hn).1 c).1 hc
 exact zpB h hp h0 k (by omega) (λj hj=>hno j (by omega)) k2
theorem zkn{m:Nat}(h:∀id c,zy C id=some c->c.2.length<=m)(id ty:Int):(ofC C id ty).1.length<=m:=by
 unfold ofC
 cases hl:zy C id with
 |none=>exact Nat.zero_le _
 |some c=>
  dsimp only
  split
  ·exact Nat.zero_le _
  ·exact h id c hl
theorem zio{m:Nat}(h:∀id c,zy C id=some c->c.2.length<=m):∀n,(catC T C pl k n).1.length<=n*m
 | 0=>Nat.zero_le _
 |n+1=>by
  have ih:=zio h n
  have e:(n+1)*m=n*m+m:=Nat.succ_mul n m
  unfold catC
  split
  ·omega
  ·split
   ·exact Nat.zero_le _
   ·rw[List.length_append]
    have:=zkn h (agI pl k n) ((tA T (ix pl k).2.1).prt (n:Int)).1
    omega
end
end Go.Proofs
namespace Go.Proofs
open Go.Gk
set_option linter.unusedVariables false
set_option maxRecDepth 100000
def zav:Ann:=(.q (.seq none (.q (.cond (.q .nil) .nil)) (.q (.q .nil))))
def zag(p0:Option Addr)(p1:Int)(R:VWP)(w:World):Prop:=ifB (Option.isNone p0) (R (.tuple #[zu 0,.slice none 0 0,.bool false]) w) (zc p0 λa1=>ldM w (a1.add 2) λx2=>zfG Tryz.prog 77 (.map x2) (zu p1) [(.int .u32),.slice] w λ(x3:(Int×Sl×Unit)) (b4:Bool)=>dj w #[zu 0,.slice none 0 0] 75 (zu x3.1) (x3.2.1.zw) λw3=>ldI w3.drew (zB w) .u32 λx5=>ldS w3.drew ((zB w).add 1) λx6=>df 35 #[x6.zw] w3.drew λx8 w4=>w4.cell? (zB w)=some (zu x5)/\R (.tuple #[zu x5,x8.zw,.bool b4]) w4)
theorem zcg(p0)(p1)(R)(w)(h:zag p0 p1 R w):Calls Tryz.prog 12 #[.pointer p0,.int .u32 p1] w (Ret R):=lwC zav Tryz.func12 (by kernel_rfl) (by kernel_rfl) h
def zb9:Ann:=(.q (.seq none (.q (.cond (.q .nil) .nil)) (.q .nil)))
def zb0(p0:Option Addr)(R:VWP)(w:World):Prop:=ifB (Option.isNone p0) (R (.slice none 0 0) w) (zc p0 λa1=>ldS w (a1.add 1) λx2=>df 35 #[x2.zw] w λx4 w1=>R (x4.zw) w1)
theorem zdn(p0)(R)(w)(h:zb0 p0 R w):Calls Tryz.prog 18 #[.pointer p0] w (Ret R):=lwC zb9 Tryz.func18 (by kernel_rfl) (by kernel_rfl) h
def zfq:Ann:=(.q (.q (.seq none (.q (.cond (.q .nil) .nil)) (.q (.q (.q (.seq none (.q (.one (.loop ⟨[1,3,6,8,9],[(10,(.b (.int .i64)))]⟩ (.seq none (.q .c) (.seq none (.one (.q (.q (.cond (.q .nil) .nil)))) .nil))))) (.q .nil))))))))
def zff(p0:(Int×Int×Sl×Unit))(R:VWP)(w:World):Prop:=Nw (w.alloc (.cells #[zu p0.1,zu p0.2.1,p0.2.2.1.zw] 25)) λw1=>Nw (w1.alloc (.cells #[zi 0,zi 0] 56)) λw2=>dc w2 (zB w) λx1 x2 x3=>dJ 48 #[.agg #[zu x1,zu x2,x3.zw]] w2 λx5 x6 w3=>dj w3 #[zi 0,zi 0] 56 (zi x6.1) (zi x6.2.1) λw6=>ldI w6 (zB w3) .i64 λx7=>ifB (x7 !=0) (dg w6.drew (zB w3) λx8 x9=>di w6.drew (zB w1) (zi x8) (zi x9) λw8=>dg w8 (zB w1) λx10 x11=>R (.tuple #[.pointer none,.agg #[zi x10,zi x11]]) w8) (dc w6 (zB w) λx12 x13 x14=>dk 49 #[.agg #[zu x12,zu x13,x14.zw]] w6 λx16 x17 w9=>Nw (w9.alloc (.cells (List.toArray (List.replicate 20 (zi 0))) 100)) λw10=>Nw (w10.alloc (.cells #[zi 0,zi 0] 56)) λw11=>dh w11 (zB w9) (zi x16.1) (zi x16.2.1) (zi x16.2.2.1) (zi x16.2.2.2.1) (zi x16.2.2.2.2.1) (zi x16.2.2.2.2.2.1) (zi x16.2.2.2.2.2.2.1) (zi x16.2.2.2.2.2.2.2.1) (zi x16.2.2.2.2.2.2.2.2.1) (zi x16.2.2.2.2.2.2.2.2.2.1) (zi x16.2.2.2.2.2.2.2.2.2.2.1) (zi x16.2.2.2.2.2.2.2.2.2.2.2.1) (zi x16.2.2.2.2.2.2.2.2.2.2.2.2.1) (zi x16.2.2.2.2.2.2.2.2.2.2.2.2.2.1) (zi x16.2.2.2.2.2.2.2.2.2.2.2.2.2.2.1) (zi x16.2.2.2.2.2.2.2.2.2.2.2.2.2.2.2.1) (zi x16.2.2.2.2.2.2.2.2.2.2.2.2.2.2.2.2.1) (zi x16.2.2.2.2.2.2.2.2.2.2.2.2.2.2.2.2.2.1) (zi x16.2.2.2.2.2.2.2.2.2.2.2.2.2.2.2.2.2.2.1) (zi x16.2.2.2.2.2.2.2.2.2.2.2.2.2.2.2.2.2.2.2.1) λw31=>di w31 (zB w10) (zi x17.1) (zi x17.2.1) λw33=>Nw (w33.alloc (.map #[] 0)) λw34=>Nw (w34.alloc (.map #[] 0)) λw35=>Nw (w35.alloc (.cells #[.pointer x5,.slice none 0 0,.map (some w33.heap.size),.slice none 0 0,.map (some w34.heap.size)] 80)) λw36=>dl 50 #[.pointer (some (zB w35))] w36 λx19 w37=>(0<=(7:Int)/\(7:Int)<10)/\ldI w37 ((zB w9).add (7*2)) .i64 λx20=>zl (S:=Int×Unit) (λs21 w38 n22=>(0<=(7:Int)/\(7:Int)<10)/\ldI w38 (((zB w9).add (7*2)).add 1) .i64 λx23=>ifB (decide (s21.1<x23)) (ldS w38 ((zB w).add 2) λx24=>(0<=s21.1/\s21.1<(x24.l:Int))/\zc x24.a λa25=>da w38 (a25.add (s21.1.toNat *4)) λx26 x27 x28 x29=>dw 51 #[.pointer (some (zB w35)),.agg #[zh x26,zu x27,zu x28,x29.zw],.map x19] w38 λx31 w39=>ifB (x31 !=0) (di w39 (zB w1) (zi x31) (zi s21.1) λw41=>dg w41 (zB w1) λx32 x33=>R (.tuple #[.pointer none,.agg #[zi x32,zi x33]]) w41) (n22 ((IntKind.i64.wrap (s21.1+(1:Int))),()) w39)) (di w38 (zB w1) (zi 0) (zi 0) λw43=>dg w43 (zB w1) λx34 x35=>R (.tuple #[.pointer (some (zB w35)),.agg #[zi x34,zi x35]]) w43)) (x20,()) w37)
theorem zgh(p0)(R)(w)(h:zff p0 R w):Calls Tryz.prog 27 #[.agg #[.int .u32 p0.1,.int .u32 p0.2.1,.slice p0.2.2.1.a p0.2.2.1.l p0.2.2.1.c]] w (Ret R):=lwC zfq Tryz.func27 (by kernel_rfl) (by kernel_rfl) h
def zdb:Ann:=(.q (.q (.q (.q .nil))))
def YZ(p0:Sl)(R:VWP)(w:World):Prop:=(0<=(p0.l:Int)/\(p0.l:Int)<=(p0.l:Int)/\4*(p0.l:Int)<=281474976710656/\(p0.l:Int)<=9223372036854775807)/\Nw (w.alloc (.cells (madeCells #[zu 0] (p0.l*1)) 22)) λw1=>zpu Tryz.prog #[30,30] (.slice (some (zB w)) p0.l p0.l) (p0.zw) w1 λx1 w2=>R (.slice (some (zB w)) p0.l p0.l) w2
theorem zel(p0)(R)(w)(h:YZ p0 R w):Calls Tryz.prog 35 #[.slice p0.a p0.l p0.c] w (Ret R):=lwC zdb Tryz.func35 (by kernel_rfl) (by kernel_rfl) h
def YO:Ann:=(.q (.q .nil))
def YI(p0:Option Addr)(R:VWP)(w:World):Prop:=Nw (w.alloc (.map #[] 0)) λw1=>updW Tryz.prog 103 (.map (some w.heap.size)) (zh 1) (.func (.func 68) #[.pointer p0] #[]) w1 λw2=>updW Tryz.prog 103 (.map (some w.heap.size)) (zh 46) (.func (.func 68) #[.pointer p0] #[]) w2 λw3=>updW Tryz.prog 103 (.map (some w.heap.size)) (zh 41) (.func (.func 69) #[.pointer p0] #[]) w3 λw4=>updW Tryz.prog 103 (.map (some w.heap.size)) (zh 42) (.func (.func 69) #[.pointer p0] #[]) w4 λw5=>updW Tryz.prog 103 (.map (some w.heap.size)) (zh 43) (.func (.func 70) #[.pointer p0] #[]) w5 λw6=>updW Tryz.prog 103 (.map (some w.heap.size)) (zh 44) (.func (.func 71) #[.pointer p0] #[]) w6 λw7=>R (.map (some w.heap.size)) w7
theorem zbN(p0)(R)(w)(h:YI p0 R w):Calls Tryz.prog 50 #[.pointer p0] w (Ret R):=lwC YO Tryz.func50 (by kernel_rfl) (by kernel_rfl) h
def zbA:Ann:=(.q (.seq none (.q (.cond (.q (.q (.q (.q .nil)))) .nil)) (.q (.seq none (.q (.cond (.q .nil) .nil)) (.q (.q (.q (.q .nil))))))))
def zb1(p0:Option Addr)(p1:(Int×Int×Int×Sl×Unit))(p2:Option Nat)(R:VWP)(w:World):Prop:=Nw (w.alloc (.cells #[zh p1.1,zu p1.2.1,zu p1.2.2.1,p1.2.2.2.1.zw] 52)) λw1=>ldI w1 (zB w) .u16 λx1=>ifB (x1==59) (da w1 (zB w) λx2 x3 x4 x5=>dV 72 #[.pointer p0,.agg #[zh x2,zu x3,zu x4,x5.zw]] w1 λx7 x8 w2=>dU w2 #[zu 0,zu 0,.slice none 0 0] 85 (zu x7.1) (zu x7.2.1) (x7.2.2.1.zw) λw6=>zc p0 λa9=>ldS w6.drew (a9.add 3) λx10=>ldI w6.drew ((zB w).add 2) .u32 λx11=>Nw (w6.drew.alloc (.cells #[zu x11] 22)) λw7=>w7.cell? (a9.add 3)=some (x10.zw)/\zF Tryz.prog 30 (x10.zw) (.slice (some (blk w6.drew.heap.size)) 1 1) w7 λr12 w8=>zc p0 λa13=>Wr w8 (a13.add 3)/\Nw (w8.setCell (a13.add 3) (r12.zw)) λw9=>zc p0 λa14=>ldM w9.drew (a14.add 4) λx15=>ldI w9.drew ((zB w).add 2) .u32 λx16=>dc w9.drew (zB w2) λx17 x18 x19=>updW Tryz.prog 78 (.map x15) (zu x16) (.agg #[zu x17,zu x18,x19.zw]) w9.drew λw10=>R (zi x8) w10) (ldI w1 (zB w) .u16 λx20=>zh9 Tryz.prog 103 (.map p2) (zh x20) BK.raw w1 λ(x21:Value)=>zcG x21 λb22=>ifB b22 (R (zi 0) w1) (da w1 (zB w) λx23 x24 x25 x26=>yL Tryz.prog Tryz.fs x21 [(.agg #[zh x23,zu x24,zu x25,x26.zw])] w1 λv27 w11=>∃x28:Sl,∃x29:Int,v27=(.tuple #[x28.zw,zi x29])/\zc p0 λa30=>ldS w11.drew (a30.add 1) λx31=>ldI w11.drew ((zB w).add 2) .u32 λx32=>Nw (w11.drew.alloc (.cells #[zu x32] 22)) λw12=>w12.cell? (a30.add 1)=some (x31.zw)/\zF Tryz.prog 30 (x31.zw) (.slice (some (blk w11.drew.heap.size)) 1 1) w12 λr33 w13=>zc p0 λa34=>Wr w13 (a34.add 1)/\Nw (w13.setCell (a34.add 1) (r33.zw)) λw14=>zc p0 λa35=>ldM w14.drew (a35.add 2) λx36=>ldI w14.drew ((zB w).add 2) .u32 λx37=>ldI w14.drew ((zB w).add 1) .u32 λx38=>updW Tryz.prog 77 (.map x36) (zu x37) (.agg #[zu x38,x28.zw]) w14.drew λw15=>R (zi x29) w15))
theorem zdo(p0)(p1)(p2)(R)(w)(h:zb1 p0 p1 p2 R w):Calls Tryz.prog 51 #[.pointer p0,.agg #[.int .u16 p1.1,.int .u32 p1.2.1,.int .u32 p1.2.2.1,.slice p1.2.2.2.1.a p1.2.2.2.1.l p1.2.2.2.1.c],.map p2] w (Ret R):=lwC zbA Tryz.func51 (by kernel_rfl) (by kernel_rfl) h
def Y3:Ann:=(.q (.seq none (.q (.cond (.q .nil) .nil)) (.q .nil)))
def Yy(p0:Option Addr)(p1:(Int×Int×Int×Sl×Unit))(R:VWP)(w:World):Prop:=Nw (w.alloc (.cells #[zh p1.1,zu p1.2.1,zu p1.2.2.1,p1.2.2.2.1.zw] 52)) λw1=>zc p0 λa1=>ldP w1.drew a1 λx2=>ldI w1.drew ((zB w).add 1) .u32 λx3=>dL 96 #[.pointer x2,zu x3] w1.drew λx5 w2=>ifB (!x5) (R (.tuple #[.slice none 0 0,zi 100]) w2) (zc p0 λa6=>ldP w2.drew a6 λx7=>ldI w2.drew ((zB w).add 1) .u32 λx8=>dw 97 #[.pointer x7,zu x8] w2.drew λx10 w3=>(0<=x10/\x10<=x10/\4*x10<=281474976710656/\x10<=9223372036854775807)/\Nw (w3.alloc (.cells (madeCells #[zu 0] (x10.toNat *1)) 22)) λw4=>R (.tuple #[.slice (some (zB w3)) x10.toNat x10.toNat,zi 0]) w4)
theorem zbs(p0)(p1)(R)(w)(h:Yy p0 p1 R w):Calls Tryz.prog 68 #[.pointer p0,.agg #[.int .u16 p1.1,.int .u32 p1.2.1,.int .u32 p1.2.2.1,.slice p1.2.2.2.1.a p1.2.2.2.1.l p1.2.2.2.1.c]] w (Ret R):=lwC Y3 Tryz.func68 (by kernel_rfl) (by kernel_rfl) h
def zax:Ann:=(.q (.seq none (.q (.cond (.q .nil) .nil)) (.seq none (.q (.cond (.q .nil) .nil)) (.q .nil))))
def zai(p0:Option Addr)(p1:(Int×Int×Int×Sl×Unit))(R:VWP)(w:World):Prop:=Nw (w.alloc (.cells #[zh p1.1,zu p1.2.1,zu p1.2.2.1,p1.2.2.2.1.zw] 52)) λw1=>ldI w1 ((zB w).add 1) .u32 λx1=>Nw (w1.alloc (.cells #[zb 2] 5)) λw2=>dL 98 #[.pointer p0,zu x1,.slice (some (zB w1)) 1 1] w2 λx3 w3=>ifB (!x3) (R (.tuple #[.slice none 0 0,zi 100]) w3) (ldI w3 (zB w) .u16 λx4=>ifB (x4==41) (Nw (w3.alloc (.cells #[zu 1] 22)) λw4=>R (.tuple #[.slice (some (zB w3)) 1 1,zi 0]) w4) (Nw (w3.alloc (.cells #[zu 0] 22)) λw5=>R (.tuple #[.slice (some (zB w3)) 1 1,zi 0]) w5))
theorem zcj(p0)(p1)(R)(w)(h:zai p0 p1 R w):Calls Tryz.prog 69 #[.pointer p0,.agg #[.int .u16 p1.1,.int .u32 p1.2.1,.int .u32 p1.2.2.1,.slice p1.2.2.2.1.a p1.2.2.2.1.l p1.2.2.2.1.c]] w (Ret R):=lwC zax Tryz.func69 (by kernel_rfl) (by kernel_rfl) h
def YP:Ann:=(.q (.seq none (.q (.cond (.q .nil) .nil)) (.q .nil)))
def YJ(p0:Option Addr)(p1:(Int×Int×Int×Sl×Unit))(R:VWP)(w:World):Prop:=Nw (w.alloc (.cells #[zh p1.1,zu p1.2.1,zu p1.2.2.1,p1.2.2.2.1.zw] 52)) λw1=>ldI w1 ((zB w).add 1) .u32 λx1=>Nw (w1.alloc (.cells #[zb 3] 5)) λw2=>dL 98 #[.pointer p0,zu x1,.slice (some (zB w1)) 1 1] w2 λx3 w3=>ifB (!x3) (R (.tuple #[.slice none 0 0,zi 100]) w3) (ldS w3 ((zB w).add 3) λx4=>(0<=(0:Int)/\0<(x4.l:Int))/\zc x4.a λa5=>ldI w3 ((a5.add (0*3)).add 1) .u32 λx6=>Nw (w3.alloc (.cells #[zu x6] 22)) λw4=>R (.tuple #[.slice (some (zB w3)) 1 1,zi 0]) w4)
theorem zbO(p0)(p1)(R)(w)(h:YJ p0 p1 R w):Calls Tryz.prog 70 #[.pointer p0,.agg #[.int .u16 p1.1,.int .u32 p1.2.1,.int .u32 p1.2.2.1,.slice p1.2.2.2.1.a p1.2.2.2.1.l p1.2.2.2.1.c]] w (Ret R):=lwC YP Tryz.func70 (by kernel_rfl) (by kernel_rfl) h
def ZS:Ann:=(.q (.seq none (.q (.cond (.q .nil) .nil)) (.seq none (.q (.cond (.q .nil) .nil)) (.q (.seq none (.q (.one (.loop ⟨[0,3,31,32],[(6,(.b .slice)),(33,(.b (.int .i64)))]⟩ (.q (.seq none .c (.seq none (.one (.q (.q (.q (.seq none (.q (.cond (.q .nil) .nil)) .nil))))) .nil)))))) (.q .nil))))))
def ZQ(p0:Option Addr)(p1:(Int×Int×Int×Sl×Unit))(R:VWP)(w:World):Prop:=Nw (w.alloc (.cells #[zh p1.1,zu p1.2.1,zu p1.2.2.1,p1.2.2.2.1.zw] 52)) λw1=>ldI w1 ((zB w).add 1) .u32 λx1=>Nw (w1.alloc (.cells #[zb 4,zb 5,zb 6] 5)) λw2=>dL 98 #[.pointer p0,zu x1,.slice (some (zB w1)) 3 3] w2 λx3 w3=>ifB (!x3) (R (.tuple #[.slice none 0 0,zi 100]) w3) (ldS w3.drew ((zB w).add 3) λx4=>zc p0 λa5=>ldP w3.drew a5 λx6=>ldI w3.drew ((zB w).add 1) .u32 λx7=>dw 99 #[.pointer x6,zu x7] w3.drew λx9 w4=>w4.cell? ((zB w).add 3)=some (x4.zw)/\ifB ((x4.l:Int) !=x9) (R (.tuple #[.slice none 0 0,zi 111]) w4) (ldS w4 ((zB w).add 3) λx10=>zl (S:=Sl×Int×Unit) (λs11 w5 n12=>ifB (decide (s11.2.1<(x10.l:Int))) ((0<=s11.2.1/\s11.2.1<(x10.l:Int))/\zc x10.a λa13=>db w5 (a13.add (s11.2.1.toNat *3)) λx14 x15 x16=>Nw (w5.alloc (.cells #[zb 0,zu 0,.string (BM #[])] 48)) λw6=>de w6 (zB w5) (zb x14) (zu x15) (.string x16) λw9=>zc p0 λa17=>ldP w9.drew a17 λx18=>ldI w9.drew ((zB w).add 1) .u32 λx19=>dW 100 #[.pointer x18,zu x19,zi s11.2.1] w9.drew λx21 x22 w10=>ldI w10 ((zB w5).add 1) .u32 λx23=>dA 101 #[.pointer p0,zu x23,zu x21] w10 λx25 x26 w11=>ifB (x26 !=0) (R (.tuple #[.slice none 0 0,zi x26]) w11) (zF Tryz.prog 30 (s11.1.zw) (x25.zw) w11 λr27 w12=>n12 (r27,(IntKind.i64.wrap (s11.2.1+(1:Int))),()) w12)) (R (.tuple #[s11.1.zw,zi 0]) w5)) ((Sl.mk none 0 0),0,()) w4))
theorem zaE(p0)(p1)(R)(w)(h:ZQ p0 p1 R w):Calls Tryz.prog 71 #[.pointer p0,.agg #[.int .u16 p1.1,.int .u32 p1.2.1,.int .u32 p1.2.2.1,.slice p1.2.2.2.1.a p1.2.2.2.1.l p1.2.2.2.1.c]] w (Ret R):=lwC ZS Tryz.func71 (by kernel_rfl) (by kernel_rfl) h
def a_consts_Pool_holds:Ann:=(.q (.q (.seq none (.q (.cond (.q .nil) .nil)) (.q (.q (.seq (some ⟨[0,3,4,8],[]⟩) (.q (.cond (.q .nil) .nil)) (.seq none (.q (.cond (.q (.q .nil)) .nil)) (.q (.q (.q .nil))))))))))
def L_consts_Pool_holds(p0:Option Addr)(p1:(Int×Int×Int×Sl×Unit))(R:VWP)(w:World):Prop:=Nw (w.alloc (.cells #[zh p1.1,zu p1.2.1,zu p1.2.2.1,p1.2.2.2.1.zw] 52)) λw1=>Nw (w1.alloc (.cells #[zu 0,zu 0,.slice none 0 0] 85)) λw2=>zc p0 λa1=>ldP w2.drew a1 λx2=>ldI w2.drew ((zB w).add 1) .u32 λx3=>dW 102 #[.pointer x2,zu x3] w2.drew λx5 x6 w3=>ifB (!x6) (de w3 (zB w1) (zu 0) (zu 0) (.slice none 0 0) λw6=>dc w6 (zB w1) λx7 x8 x9=>R (.tuple #[.agg #[zu x7,zu x8,x9.zw],zi 100]) w6) (ldS w3 ((zB w).add 3) λx10=>(0<=(0:Int)/\0<(x10.l:Int))/\zc x10.a λa11=>ldI w3 ((a11.add (0*3)).add 1) .u32 λx12=>dU w3 #[zu 0,zu 0,.slice none 0 0] 85 (zu x12) (zu 0) (.slice none 0 0) λw10=>zc p0 λa13=>ldP w10.drew a13 λx14=>ldI w10.drew ((zB w).add 1) .u32 λx15=>dW 100 #[.pointer x14,zu x15,zi 0] w10.drew λx17 x18 w11=>Wr w11 ((zB w3).add 1)/\Nw (w11.setCell ((zB w3).add 1) (zu x17)) λw12=>zj (S:=Unit) (λm19=>ldI w12 (zB w3) .u32 λx21=>ifB (x5 !=x21) (de w12 (zB w1) (zu 0) (zu 0) (.slice none 0 0) λw15=>dc w15 (zB w1) λx22 x23 x24=>R (.tuple #[.agg #[zu x22,zu x23,x24.zw],zi 112]) w15) (ldS w12 ((zB w).add 3) λx25=>ifB (decide ((x25.l:Int)>1)) (ifB (x5==1) (de w12 (zB w1) (zu 0) (zu 0) (.slice none 0 0) λw18=>dc w18 (zB w1) λx26 x27 x28=>R (.tuple #[.agg #[zu x26,zu x27,x28.zw],zi 112]) w18) (m19 () w12)) (m19 () w12))) (λs20 w19=>ldS w19 ((zB w).add 3) λx29=>ifB ((x29.l:Int)==1) (zc p0 λa30=>ldP w19.drew a30 λx31=>ldI w19.drew ((zB w3).add 1) .u32 λx32=>dw 97 #[.pointer x31,zu x32] w19.drew λx34 w20=>(0<=x34/\x34<=x34/\4*x34<=281474976710656/\x34<=9223372036854775807)/\Nw (w20.alloc (.cells (madeCells #[zu 0] (x34.toNat *1)) 22)) λw21=>Wr w21 (((zB w3).add 1).add 1)/\Nw (w21.setCell (((zB w3).add 1).add 1) (.slice (some (zB w20)) x34.toNat x34.toNat)) λw22=>dc w22 (zB w3) λx35 x36 x37=>de w22 (zB w1) (zu x35) (zu x36) (x37.zw) λw25=>dc w25 (zB w1) λx38 x39 x40=>R (.tuple #[.agg #[zu x38,zu x39,x40.zw],zi 0]) w25) (ldS w19.drew ((zB w).add 3) λx41=>(0<=(1:Int)/\1<(x41.l:Int))/\zc x41.a λa42=>ldI w19.drew ((a42.add (1*3)).add 1) .u32 λx43=>ldI w19.drew ((zB w3).add 1) .u32 λx44=>dA 101 #[.pointer p0,zu x43,zu x44] w19.drew λx46 x47 w26=>Wr w26 (((zB w3).add 1).add 1)/\Nw (w26.setCell (((zB w3).add 1).add 1) (x46.zw)) λw27=>dc w27 (zB w3) λx48 x49 x50=>de w27 (zB w1) (zu x48) (zu x49) (x50.zw) λw30=>dc w30 (zB w1) λx51 x52 x53=>R (.tuple #[.agg #[zu x51,zu x52,x53.zw],zi x47]) w30)))
theorem zch(p0)(p1)(R)(w)(h:L_consts_Pool_holds p0 p1 R w):Calls Tryz.prog 72 #[.pointer p0,.agg #[.int .u16 p1.1,.int .u32 p1.2.1,.int .u32 p1.2.2.1,.slice p1.2.2.2.1.a p1.2.2.2.1.l p1.2.2.2.1.c]] w (Ret R):=lwC a_consts_Pool_holds Tryz.func72 (by kernel_rfl) (by kernel_rfl) h
def zaw:Ann:=(.q (.q .nil))
def zah(p0:Option Addr)(p1:Int)(p2:Sl)(R:VWP)(w:World):Prop:=zc p0 λa1=>ldP w a1 λx2=>dx 135 #[.pointer x2,zu p1] w λx4 w1=>dL 134 #[p2.zw,zb x4] w1 λx6 w2=>R (.bool x6) w2
theorem zci(p0)(p1)(p2)(R)(w)(h:zah p0 p1 p2 R w):Calls Tryz.prog 98 #[.pointer p0,.int .u32 p1,.slice p2.a p2.l p2.c] w (Ret R):=lwC zaw Tryz.func98 (by kernel_rfl) (by kernel_rfl) h
def zbZ:Ann:=(.q (.q (.seq none (.one (.q (.cond (.q .nil) (.q (.cond (.q .nil) .nil))))) (.q .nil))))
def zbT(p0:Option Addr)(p1:Int)(p2:Int)(R:VWP)(w:World):Prop:=zc p0 λa1=>ldM w (a1.add 2) λx2=>zfG Tryz.prog 77 (.map x2) (zu p1) [(.int .u32),.slice] w λ(x3:(Int×Sl×Unit)) (b4:Bool)=>dj w #[zu 0,.slice none 0 0] 75 (zu x3.1) (x3.2.1.zw) λw3=>ifB (!b4) (R (.tuple #[.slice none 0 0,zi 110]) w3) (ldI w3 (zB w) .u32 λx5=>ifB (x5 !=p2) (R (.tuple #[.slice none 0 0,zi 111]) w3) (ldS w3 ((zB w).add 1) λx6=>R (.tuple #[x6.zw,zi 0]) w3))
theorem zd8(p0)(p1)(p2)(R)(w)(h:zbT p0 p1 p2 R w):Calls Tryz.prog 101 #[.pointer p0,.int .u32 p1,.int .u32 p2] w (Ret R):=lwC zbZ Tryz.func101 (by kernel_rfl) (by kernel_rfl) h
end Go.Proofs
namespace Go.Proofs
open Go.Gk
set_option linter.unusedVariables false
set_option maxRecDepth 100000
def yT:Ann:=(.q (.q .nil))
def yO(p0:Sl)(p1:Int)(R:VWP)(w:World):Prop:=dw 162 #[p0.zw,zb p1] w λx2 w1=>R (.bool (decide (x2≥(0:Int)))) w1
theorem ZN(p0)(p1)(R)(w)(h:yO p0 p1 R w):Calls Tryz.prog 134 #[.slice p0.a p0.l p0.c,.int .u8 p1] w (Ret R):=lwC yT Tryz.func134 (by kernel_rfl) (by kernel_rfl) h
def Zy:Ann:=(.q (.seq none (.q (.one (.loop ⟨[0,1,7],[(8,(.b (.int .i64)))]⟩ (.q (.seq none .c (.seq none (.one (.q (.q (.cond (.q .nil) .nil)))) .nil)))))) (.q .nil)))
def Zx(p0:Sl)(p1:Int)(R:VWP)(w:World):Prop:=zl (S:=Int×Unit) (λs1 w1 n2=>ifB (decide (s1.1<(p0.l:Int))) ((0<=s1.1/\s1.1<(p0.l:Int))/\zc p0.a λa3=>ldI w1 (a3.add s1.1.toNat) .u8 λx4=>ifB (p1==x4) (R (zi s1.1) w1) (n2 ((IntKind.i64.wrap (s1.1+(1:Int))),()) w1)) (R (zi (-1:Int)) w1)) (0,()) w
theorem Yw(p0)(p1)(R)(w)(h:Zx p0 p1 R w):Calls Tryz.prog 162 #[.slice p0.a p0.l p0.c,.int .u8 p1] w (Ret R):=lwC Zy Tryz.func162 (by kernel_rfl) (by kernel_rfl) h
end Go.Proofs
namespace Go.Proofs
open Go.Gk Go.RowKit Go.Gm
abbrev Cv:=Int×Sl×Unit
abbrev Vv:=Int×Int×Sl×Unit
abbrev cvK:List BK:=[(.int .u32),.slice]
abbrev vvK:List BK:=[(.int .u32),(.int .u32),.slice]
def cv0:Cv:=(0,⟨none,0,0⟩,())
def vv0:Vv:=(0,0,⟨none,0,0⟩,())
abbrev vvV(v:Vv):List Value:=[.int .u32 v.1,.int .u32 v.2.1,.slice v.2.2.1.a v.2.2.1.l v.2.2.1.c]
structure WdOk (A:Nat->Prop) (w:World) (s:Sl) (l:List Int):Prop where
 is:IsS (Value.int .u32) w s l
 loc:∀y,s.a=some y->A y.block/\y.block<w.heap.size
section
variable {A A':Nat->Prop} {w w':World} {s:Sl} {l:List Int}
theorem WdOk.keep(h:WdOk A w s l)(hk:∀b,A b->b<w.heap.size->w'.heap[b]? =w.heap[b]?/\A' b)(hs:w.heap.size<=w'.heap.size):WdOk A' w' s l:=
 ⟨h.is.of_block λa ha hlt=>(hk _ (h.loc a ha).1 hlt).1,λy hy=>⟨(hk _ (h.loc y hy).1 (h.loc y hy).2).2,by have:=(h.loc y hy).2;omega⟩⟩
theorem WdOk.below(h:WdOk A w s l)(hb:Below w.heap.size w w'):WdOk A w' s l:=h.keep (λb h1 h2=>⟨hb.block b h2,h1⟩) hb.size
theorem WdOk.mono(h:WdOk A w s l)(hA:∀b,A b->b<w.heap.size->A' b):WdOk A' w s l:=h.keep (λb h1 h2=>⟨rfl,hA b h1 h2⟩) (Nat.le_refl _)
theorem WdOk.nil(A:Nat->Prop)(w:World):WdOk A w ⟨none,0,0⟩ []:=⟨nilS _ w,λy hy=>by cases hy⟩
theorem WdOk.blk{b:Nat}(hB:Blk w b 22 (l.map (Value.int .u32)))(hA:A b)(hl:l.length<=9223372036854775807):WdOk A w ⟨some (Gk.blk b),l.length,l.length⟩ l:=
 ⟨⟨rfl,Nat.le_refl _,hl,λe=>(by cases e),λa ha i hi=>(by cases ha;exact hB.cell (by rw[List.getElem?_map,List.getElem?_eq_getElem hi];rfl))⟩,λy hy=>by cases hy;exact⟨hA,hB.lt⟩⟩
theorem WdOk.own(h:Own w 22 1 s (l.map (Value.int .u32)))(hA:∀y,s.a=some y->A y.block):WdOk A w s l:=
 ⟨h.isS,λy hy=>⟨hA y hy,(h.lt hy).2⟩⟩
end
structure CvOk (A:Nat->Prop) (w:World) (v:Cv) (c:Cn):Prop where
 ty:v.1=c.1
 wd:WdOk A w v.2.1 c.2
structure VvOk (A:Nat->Prop) (w:World) (v:Vv) (c:Vn):Prop where
 cl:v.1=c.1
 ty:v.2.1=c.2.1
 wd:WdOk A w v.2.2.1 c.2.2
def IsCn(w:World)(A:Nat->Prop)(r:Nat)(C:CnL):Prop:=∃V:List (Int×Cv),IsMq w r (aggQ cvK) V/\Al2 (λa c=>a.1=c.1/\CvOk A w a.2 c.2) V C
def IsVn(w:World)(A:Nat->Prop)(r:Nat)(C:VnL):Prop:=∃V:List (Int×Vv),IsMq w r (aggQ vvK) V/\Al2 (λa c=>a.1=c.1/\VvOk A w a.2 c.2) V C
section
variable {A A':Nat->Prop} {w w':World} {r:Nat} {C:CnL} {D:VnL}
theorem IsCn.keep(h:IsCn w A r C)(hr:w'.heap[r]? =w.heap[r]?)(hk:∀b,A b->b<w.heap.size->w'.heap[b]? =w.heap[b]?/\A' b)(hs:w.heap.size<=w'.heap.size):IsCn w' A' r C:=by
 obtain⟨V,h1,h2⟩:=h
 exact⟨V,h1.of_block hr,allR (λa c q=>⟨q.1,q.2.ty,q.2.wd.keep hk hs⟩) h2⟩
theorem IsVn.keep(h:IsVn w A r D)(hr:w'.heap[r]? =w.heap[r]?)(hk:∀b,A b->b<w.heap.size->w'.heap[b]? =w.heap[b]?/\A' b)(hs:w.heap.size<=w'.heap.size):IsVn w' A' r D:=by
 obtain⟨V,h1,h2⟩:=h
 exact⟨V,h1.of_block hr,allR (λa c q=>⟨q.1,q.2.cl,q.2.ty,q.2.wd.keep hk hs⟩) h2⟩
theorem IsCn.lt(h:IsCn w A r C):r<w.heap.size:=by obtain⟨V,h1,_⟩:=h;exact h1.lt
theorem IsVn.lt(h:IsVn w A r D):r<w.heap.size:=by obtain⟨V,h1,_⟩:=h;exact h1.lt
theorem IsCn.below(h:IsCn w A r C)(hb:Below w.heap.size w w'):IsCn w' A r C:=h.keep (hb.block r h.lt) (λb h1 h2=>⟨hb.block b h2,h1⟩) hb.size
theorem IsVn.below(h:IsVn w A r D)(hb:Below w.heap.size w w'):IsVn w' A r D:=h.keep (hb.block r h.lt) (λb h1 h2=>⟨hb.block b h2,h1⟩) hb.size
theorem uCn:Tryz.prog.underlying 77=some (.map 22 75):=by kernel_rfl
theorem uVn:Tryz.prog.underlying 78=some (.map 22 85):=by kernel_rfl
theorem zCn:∃i,Tryz.prog.info? 75=some i/\i.zero=some (aggQ cvK cv0):=by
 have h:(Tryz.prog.info? 75).map (·.zero)=some (some (aggQ cvK cv0)):=by kernel_rfl
 cases hi:Tryz.prog.info? 75 with
 |none=>rw[hi]at h;cases h
 |some i=>rw[hi]at h;exact⟨i,rfl,by injection h⟩
theorem IsCn.looked(h:IsCn w A r C)(id:Int):∃V:List (Int×Cv),IsMq w r (aggQ cvK) V/\(zy V id).isSome=(zy C id).isSome/\CvOk A w ((zy V id).getD cv0) ((zy C id).getD (0,[])):=by
 obtain⟨V,h1,h2⟩:=h
 refine⟨V,h1,?_⟩
 rcases znY h2 (id:=id) with⟨e1,e2⟩ | ⟨v,t,e1,e2,e3⟩
 ·rw[e1,e2]
  exact⟨rfl,rfl,WdOk.nil A w⟩
 ·rw[e1,e2]
  exact⟨rfl,e3⟩
theorem IsCn.lookOk(h:IsCn w A r C){id:Int}{φ:HL cvK->Bool->Prop}(hφ:∀v:Cv,CvOk A w v ((zy C id).getD (0,[]))->φ v (zy C id).isSome):zfG Tryz.prog 77 (.map (some r)) (.int .u32 id) cvK w φ:=by
 obtain⟨V,h1,h2,h3⟩:=h.looked id
 exact zlp (ks:=cvK) (d:=cv0) uCn Tryz.underlying22 zCn h1 (by have h4:=hφ _ h3;rw[<-h2]at h4;exact h4)
end
structure IsPq (w:World) (B pb:Nat) (A:Nat->Prop) (T:TyL) (C:CnL):Prop where
 ex:∃(tb r r2:Nat) (o1 o2:Sl),Blk w pb 80 [.pointer (some (Gk.blk tb)),.slice o1.a o1.l o1.c,.map (some r),.slice o2.a o2.l o2.c,.map (some r2)]/\IsTb w B tb T/\IsCn w A r C
theorem IsPq.below{w w':World}{B pb:Nat}{A:Nat->Prop}{T:TyL}{C:CnL}(h:IsPq w B pb A T C)(hb:Below w.heap.size w w'):IsPq w' B pb A T C:=by
 obtain⟨tb,r,r2,o1,o2,h1,h2,h3⟩:=h
 exact⟨tb,r,r2,o1,o2,h1.below hb,h2.below hb,h3.below hb⟩
theorem IsPq.drew{w:World}{B pb:Nat}{A:Nat->Prop}{T:TyL}{C:CnL}(h:IsPq w B pb A T C):IsPq w.drew B pb A T C:=h.below (Below.refl _ _).drew
section
variable {w:World} {B pb id ty:Nat} {A:Nat->Prop} {T:TyL} {C:CnL} {R:VWP}
theorem zlx{s:Sl}{l:List Int}{n:Int}(h:IsS (Value.int .u8) w s l)(hR:R (.bool (l.contains n)) w) :
  cR 134 #[.slice s.a s.l s.c,.int .u8 n] w R:=by
 refine za.of (ZN s n R w ?_) λ_ _ h=>h
 refine za.of (Yw s n _ w ?_) λ_ _ h=>h
 have hl:=h.len
 refine zl.count l.length h.bound (λk w'=>w'=w/\∀j (hj:j<l.length),j<k->l[j]≠n) ⟨rfl,λj hj hk=>absurd hk (by omega)⟩ ?_
 rintro k _ hk ⟨rfl,hn⟩ next hnext
 refine zg (λhlt=>?_) (λhge=>⟨_,rfl,?_⟩)
 ·have hlt:k<l.length:=by dsimp only at hlt;omega
  refine h.addr hlt λa _ hc=>⟨l[k],by simpa using hc,zm (λe=>⟨_,rfl,?_⟩) (λe=>hnext _ hlt ⟨rfl,λj hj hjk=>?_⟩)⟩
  ·have e0:decide ((k:Int)≥0)=l.contains n:=by
    have:l.contains n=true:=List.contains_iff_mem.2 (e▸List.getElem_mem hlt)
    rw[this]
    simp
   rw[<-e0]at hR
   exact hR
  ·by_cases e':j=k
   ·subst e';exact λh=>e h.symm
   ·exact hn j hj (by omega)
 ·have e0:l.contains n=false:=by
   cases hc:l.contains n with
   |false=>rfl
   |true=>
    obtain⟨j,hj,e⟩:=List.mem_iff_getElem.1 (List.contains_iff_mem.1 hc)
    exact absurd e (hn j hj (by dsimp only at hge;omega))
  rw[e0]at hR
  exact hR
theorem zeR{ty:Int}{s:Sl}{l:List Int}(h:IsPq w B pb A T C)(hs:IsS (Value.int .u8) w s l)(hR:∀w',Below w.heap.size w w'->R (.bool (l.contains (tA T ty).kind)) w') :
  cR 98 #[.pointer (some (blk pb)),.int .u32 ty,.slice s.a s.l s.c] w R:=by
 refine za.of (zci _ ty s R w ?_) λ_ _ h=>h
 obtain⟨tb,r,r2,o1,o2,h1,h2,h3⟩:=h
 refine ze rfl ⟨_,h1.cell0 rfl,zk8 h2 λw1 b1=>⟨_,rfl,zlx (hs.below b1) ⟨_,rfl,hR w1 b1⟩⟩⟩
theorem zmk{id ty:Int}(h:IsPq w B pb A T C)(hR:∀w' s,WdOk A w' s (ofC C id ty).1->Below w.heap.size w w'->R (.tuple #[.slice s.a s.l s.c,.int .i64 (ofC C id ty).2]) w') :
  cR 101 #[.pointer (some (blk pb)),.int .u32 id,.int .u32 ty] w R:=by
 refine za.of (zd8 _ id ty R w ?_) λ_ _ h=>h
 obtain⟨tb,r,r2,o1,o2,h1,h2,h3⟩:=h
 refine ze rfl ⟨_,h1.cell (n:=2) rfl,h3.lookOk λv hv=>?_⟩
 refine box2 rfl λw1 hB1 b1 z1=>?_
 unfold ofC at hR
 cases hl:zy C id with
 |none=>
  rw[hl]at hR
  exact ym rfl (hR w1 ⟨none,0,0⟩ (WdOk.nil A w1) b1)
 |some c=>
  rw[hl]at hR hv
  have hv:CvOk A w v c:=hv
  dsimp only at hR
  refine zC rfl (hB1.rI0 rfl (zz (λe=>?_) (λe=>hB1.rS (n:=1) (x:=v.2.1) rfl ?_)))
  ·rw[if_pos (by rw[hv.ty]at e;exact e)]at hR
   exact hR w1 ⟨none,0,0⟩ (WdOk.nil A w1) b1
  ·rw[if_neg (λq=>q (by rw[hv.ty]at e;exact e))]at hR
   exact hR w1 v.2.1 (hv.wd.below b1) b1
end
end Go.Proofs
namespace Go.Proofs
open Go.Gk Go.RowKit Go.Gm
theorem zf9{α:Type}{f:α->Value}{w:World}{b:Nat}{T:TypeId}{l:List α}(hB:Blk w b T (l.map f))(hl:l.length<=9223372036854775807):IsS f w ⟨some (Gk.blk b),l.length,l.length⟩ l:=
 ⟨rfl,Nat.le_refl _,hl,λe=>(by cases e),λa ha i hi=>(by cases ha;exact hB.cell (by rw[List.getElem?_map,List.getElem?_eq_getElem hi];rfl))⟩
theorem zj5{P:Program}{t e:TypeId}{sz bytes:Nat}(he:YH P t e sz bytes){w:World}{s:Sl}{xs:List Value}(h:Own w e sz s xs){c:Nat}{k:Sl->World->Prop}(hk:k s w):zF P t (.slice s.a s.l s.c) (.slice none 0 c) w k:=by
 obtain⟨hu,i,z,hi,rfl,rfl,hz,hzs⟩:=he
 obtain⟨hx,h2⟩:=h
 rcases h2 with rfl | ⟨b,cs,ha,hB,hc,hcm,hcs,htk⟩
 ·refine⟨⟨none,0,0⟩,w,?_,hk⟩
  simp[Builtin.append_,run_underlying hu,sizeOf,typeInfo,hi,Builtin.lenOf,Builtin.firstCells,Sl.v]
 ·obtain⟨sa,sl,sc⟩:=s
  dsimp only at ha hc
  subst ha
  refine⟨⟨some (blk b),sl,sc⟩,w,?_,hk⟩
  simp[Builtin.append_,run_underlying hu,sizeOf,typeInfo,hi,Builtin.lenOf,Builtin.firstCells,Sl.v,hc,storeCells]
theorem zpy{w:World}{n:Nat}(hn:n<=4294967296){K:World->Prop}(hK:∀w',Blk w' w.heap.size 22 (List.replicate n (.int .u32 0))->Below w.heap.size w w'->K w') :
  (0<=(n:Int)/\(n:Int)<=(n:Int)/\(4:Int)*(n:Int)<=281474976710656/\(n:Int)<=9223372036854775807)/\Nw (w.alloc (.cells (madeCells #[(.int .u32 (0:Int))] ((Int.toNat (n:Int))*1)) 22)) K:=
 ⟨⟨by omega,by omega,by omega,by omega⟩,Nw.gen λw' e=>hK w' (by rw[e];exact Blk.made w _ _ n) (by rw[e];exact(Below.refl _ _).alloc (Nat.le_refl _) _)⟩
def MkR(R:VWP)(w:World)(p:List Int×Int):Prop:=∀w' s,WdOk (λb=>w.heap.size<=b) w' s p.1->Below w.heap.size w w'->R (.tuple #[.slice s.a s.l s.c,.int .i64 p.2]) w'
section
variable {w:World} {B pb k:Nat} {A:Nat->Prop} {T:TyL} {C:CnL} {R:VWP} {pl:List PI} {t:Sl} {bd:Int}
theorem zp0(n:Nat):(List.replicate n (0:Int)).map (Value.int .u32)=List.replicate n (Value.int .u32 0):=List.map_replicate ..
theorem zhZ{x:Ins}(h:IsPq w B pb A T C)(hT:TbOk T)(hR:MkR R w (if (tA T x.2.1).size=0 then([],100) else(List.replicate (tA T x.2.1).size 0,0))) :
  cR 68 #[.pointer (some (blk pb)),inA x] w R:=by
 refine za.of (zbs _ x R w ?_) λ_ _ h=>h
 refine zk λw1 hI1 b1 z1=>?_
 have hI1:Blk w1 w.heap.size 52 (inV x):=hI1
 obtain⟨tb,r,r2,o1,o2,h1,h2,h3⟩:=(h.below b1).drew
 refine ze rfl ⟨_,h1.cell0 rfl,hI1.drew.rI (n:=1) rfl (zjt h2 λw2 b2=>⟨_,rfl,?_⟩)⟩
 have b02:=(b1.drew).on b2
 refine zM (zg (λg=>?_) (λg=>?_))
 ·rw[if_neg (by omega)]at hR
  refine ze rfl ⟨_,(h1.below b2).drew.cell0 rfl,(hI1.drew.below b2).drew.rI (n:=1) rfl (zgN ((h2.below b2).below (Below.refl _ _).drew) λw3 b3=>⟨_,rfl,zpy (by have:=zgy hT x.2.1;omega) λw4 h4 b4=>?_⟩)⟩
  have b24:=(b02.drew).on (b3.on b4)
  have:=hR w4 ⟨some (blk w3.heap.size),(tA T x.2.1).size,(tA T x.2.1).size⟩ (by
   have q:=WdOk.blk (A:=λb=>w.heap.size<=b) (l:=List.replicate (tA T x.2.1).size 0) (b:=w3.heap.size) (w:=w4) (by rw[zp0];exact h4) (by have:=b02.size;have:=b3.size;show w.heap.size<=w3.heap.size;exact Nat.le_trans ‹_› ‹_›) (by rw[List.length_replicate];have:=zgy hT x.2.1;omega)
   rw[List.length_replicate]at q
   exact q) b24
  rw[Int.toNat_natCast]
  exact this
 ·rw[if_pos (by omega)]at hR
  exact hR w2 ⟨none,0,0⟩ (WdOk.nil _ _) b02
theorem one8{w:World}{v:Int}{K:World->Prop}(hK:∀w',IsS (Value.int .u8) w' ⟨some (blk w.heap.size),1,1⟩ [v]->Below w.heap.size w w'->K w'):Nw (w.alloc (.cells #[.int .u8 v] 5)) K:=
 zk λw1 h1 b1 _=>hK w1 (zf9 (l:=[v]) h1 (by simp)) b1
theorem zjA{x:Ins}(h:IsPq w B pb A T C)(hR:MkR R w (if (tA T x.2.1).kind≠2 then([],100) else(if x.1=41 then [1] else [0],0))) :
  cR 69 #[.pointer (some (blk pb)),inA x] w R:=by
 refine za.of (zcj _ x R w ?_) λ_ _ h=>h
 refine zk λw1 hI1 b1 z1=>?_
 have hI1:Blk w1 w.heap.size 52 (inV x):=hI1
 refine hI1.rI (n:=1) (x:=x.2.1) rfl ?_
 refine one8 λw2 hS b2=>?_
 refine zeR (s:=⟨some (blk w1.heap.size),1,1⟩) (h.below (b1.on b2)) hS λw3 b3=>?_
 refine⟨_,rfl,?_⟩
 have b03:=(b1.on b2).on b3
 refine zM (zv (λg=>?_) (λg=>?_))
 ·have g:(tA T x.2.1).kind=2:=by simpa using g
  rw[if_neg (λq=>q g)]at hR
  refine((hI1.below b2).below b3).rI0 rfl (zm (λe=>?_) (λe=>?_))
  all_goals
   refine zk λw4 h4 b4 z4=>?_
  ·have e:x.1=41:=e
   rw[if_pos e]at hR
   exact hR w4 _ (WdOk.blk (l:=[1]) h4 b03.size (by simp)) (b03.on b4)
  ·have e:¬x.1=41:=e
   rw[if_neg e]at hR
   exact hR w4 _ (WdOk.blk (l:=[0]) h4 b03.size (by simp)) (b03.on b4)
 ·have g:¬(tA T x.2.1).kind=2:=by simpa using g
  rw[if_pos g]at hR
  exact hR w3 ⟨none,0,0⟩ (WdOk.nil _ _) b03
theorem ziR{x:Ins}{al:List Ag}(h:IsPq w B pb A T C)(ha:IsAg w x.2.2.2.1 al)(hl:(tA T x.2.1).kind=3->0<al.length)(hR:MkR R w (if (tA T x.2.1).kind≠3 then([],100) else([(al.getD 0 ag0).2.1],0))) :
  cR 70 #[.pointer (some (blk pb)),inA x] w R:=by
 refine za.of (zbO _ x R w ?_) λ_ _ h=>h
 refine zk λw1 hI1 b1 z1=>?_
 have hI1:Blk w1 w.heap.size 52 (inV x):=hI1
 refine hI1.rI (n:=1) (x:=x.2.1) rfl ?_
 refine one8 λw2 hS b2=>?_
 refine zeR (s:=⟨some (blk w1.heap.size),1,1⟩) (h.below (b1.on b2)) hS λw3 b3=>?_
 refine⟨_,rfl,?_⟩
 have b03:=(b1.on b2).on b3
 refine zM (zv (λg=>?_) (λg=>?_))
 ·have g:(tA T x.2.1).kind=3:=by simpa using g
  rw[if_neg (λq=>q g)]at hR
  have hl:=hl g
  refine((hI1.below b2).below b3).rS (n:=3) (x:=x.2.2.2.1) rfl ?_
  have ha3:IsAg w3 x.2.2.2.1 al:=IsC.below zE ha b03
  obtain⟨a,he⟩:=ha3.base hl
  have hc:=ha3.cell a he 0 hl 1 (by decide)
  refine⟨⟨by decide,by have:=ha3.len;omega⟩,ze he ⟨al[0].2.1,by rw[zD];exact hc,zk λw4 h4 b4 z4=>?_⟩⟩
  rw[zo hl]at hR
  exact hR w4 _ (WdOk.blk (l:=[al[0].2.1]) h4 b03.size (by simp)) (b03.on b4)
 ·have g:¬(tA T x.2.1).kind=3:=by simpa using g
  rw[if_pos g]at hR
  exact hR w3 ⟨none,0,0⟩ (WdOk.nil _ _) b03
end
end Go.Proofs
namespace Go.Proofs
open Go.Gk Go.RowKit Go.Gm
theorem Wl.app{w0 w:World}{r s:Sl}{D l:List Int}(h:Wl w0 w r D)(hs:IsS (Value.int .u32) w s l)(hl:D.length+l.length<=4398046511104){k:Sl->World->Prop}(hk:∀r' w',Wl w0 w' r' (D++l)->(∀b T cs,22≠T->Blk w b T cs->Blk w' b T cs)->k r' w') :
  zF Tryz.prog 30 (.slice r.a r.l r.c) (.slice s.a s.l s.c) w k:=by
 obtain⟨sa,sl,sc⟩:=s
 have hl1:sl=l.length:=hs.len
 have hl2:=h.len
 cases sa with
 |none=>
  have hc:sc=0:=hs.nil rfl
  have h2:sl<=sc:=hs.cap
  have h0:sl=0:=by omega
  subst h0
  have hnil:l=[]:=List.eq_nil_of_length_eq_zero hl1.symm
  subst hnil
  exact zj5 eU32 h.own (hk r w (by rw[List.append_nil];exact h) λb T cs _ q=>q)
 |some a=>
  refine Zn eU32 h.own (m:=sl) (news:=l.map (Value.int .u32)) (by rw[List.length_map];omega) (λj u hj=>?_) (λu hu=>by obtain⟨x,_,rfl⟩:=List.mem_map.1 hu;rfl) (by omega) (by omega) λr' w' h1 hl' hg=>?_
  ·have hjl:j<l.length:=by have:=(List.getElem?_eq_some_iff.1 hj).1;rwa[List.length_map]at this
   rw[List.getElem?_map,List.getElem?_eq_getElem hjl]at hj
   cases hj
   exact hs.cell a rfl j hjl
  ·rw[<-List.map_append]at h1
   rcases hg with⟨e1,e2,e3⟩ | ⟨b',h3,h4,h5⟩
   ·subst e2
    refine hk r' w' ⟨h1,λa ha=>(by rw[e1]at ha;cases ha),h.below⟩ λb T cs _ q=>q
   ·have hbb:w0.heap.size<=b':=by
     rcases h4 with h4 |h4
     ·exact h.fr _ h4
     ·have:=h.below.size
      omega
    refine hk r' w' ⟨h1,λa ha=>(by rw[h3]at ha;cases ha;exact hbb),h.below.trans (y9 h5 hbb h.below.size)⟩ λb T cs hne hB=>hB.of_block (h5.block _ hB.lt λe=>?_)
    have e:=Option.some.inj e
    subst e
    rcases h4 with h4 |h4
    ·exact YE h.own hB hne h4
    ·have:=hB.lt
     omega
section
variable {w:World} {B pb k:Nat} {A:Nat->Prop} {T:TyL} {C:CnL} {R:VWP} {pl:List PI} {t:Sl} {bd:Int}
theorem zjC{j:Nat}(h:(catC T C pl k j).2=0)(he:(ofC C (agI pl k j) ((tA T (ix pl k).2.1).prt (j:Int)).1).2≠0):∀n,j<n->catC T C pl k n=([],(ofC C (agI pl k j) ((tA T (ix pl k).2.1).prt (j:Int)).1).2)
 | 0,hn=>by omega
 |n+1,hn=>by
  by_cases e:j=n
  ·subst e
   show(if (catC T C pl k j).2≠0 then _ else if _≠0 then _ else _)=_
   rw[if_neg (λq=>q h),if_pos he]
  ·have ih:=zjC h he n (by omega)
   show(if (catC T C pl k n).2≠0 then catC T C pl k n else if _≠0 then _ else _)=_
   rw[ih,if_pos he]
theorem zmz{j:Nat}(h:(catC T C pl k j).2=0)(he:(ofC C (agI pl k j) ((tA T (ix pl k).2.1).prt (j:Int)).1).2=0):catC T C pl k (j+1)=((catC T C pl k j).1++(ofC C (agI pl k j) ((tA T (ix pl k).2.1).prt (j:Int)).1).1,0):=by
 show(if (catC T C pl k j).2≠0 then _ else if _≠0 then _ else _)=_
 rw[if_neg (λq=>q h),if_neg (λq=>q he)]
set_option maxHeartbeats 1000000 in
theorem zgQ(h:IsPq w B pb A T C)(hT:TbOk T)(hk:k<pl.length)(ht:IsAg w t pl[k].2.2.2)(hn:pl[k].2.2.2.length<=65535)(hL:∀id c,zy C id=some c->c.2.length<=4096)
  (hR:MkR R w (if ¬(4<=(tA T (ix pl k).2.1).kind/\(tA T (ix pl k).2.1).kind<=6) then([],100) else if (ix pl k).2.2.2.length≠(tA T (ix pl k).2.1).cnt then([],111) else catC T C pl k (ix pl k).2.2.2.length)) :
  cR 71 #[.pointer (some (blk pb)),inA (mkIn pl[k] t)] w R:=by
 refine za.of (zaE _ (mkIn pl[k] t) R w ?_) λ_ _ h=>h
 have hix:=yn hk
 refine zk λw1 hI1 b1 z1=>?_
 have hI1:Blk w1 w.heap.size 52 (inV (mkIn pl[k] t)):=hI1
 refine hI1.rI (n:=1) (x:=pl[k].2.1) rfl ?_
 refine zk λw2 hS b2 z2=>?_
 have hS:IsS (Value.int .u8) w2 ⟨some (blk w1.heap.size),3,3⟩ [4,5,6]:=zf9 (l:=[4,5,6]) hS (by simp)
 refine zeR (s:=⟨some (blk w1.heap.size),3,3⟩) (h.below (b1.on b2)) hS λw3 b3=>?_
 refine⟨_,rfl,?_⟩
 have b03:=(b1.on b2).on b3
 have hI3:=(hI1.below b2).below b3
 have eK:([4,5,6]:List Int).contains (tA T pl[k].2.1).kind=decide (4<=(tA T (ix pl k).2.1).kind/\(tA T (ix pl k).2.1).kind<=6):=by
  rw[hix]
  generalize (tA T pl[k].2.1).kind=q
  rw[Bool.eq_iff_iff,List.contains_iff_mem,decide_eq_true_eq]
  simp only[List.mem_cons,List.not_mem_nil,or_false]
  omega
 rw[eK]
 refine zM (zg (λg=>?_) (λg=>?_))
 rotate_left
 ·rw[if_pos g]at hR
  exact hR w3 ⟨none,0,0⟩ (WdOk.nil _ _) b03
 rw[if_neg (λq=>q g)]at hR
 have P3:=(h.below b03).drew
 have P3':=P3
 obtain⟨tb,r,r2,o1,o2,h1,h2,h3⟩:=P3'
 refine hI3.drew.rS (n:=3) (x:=t) rfl (ze rfl ⟨_,h1.cell0 rfl,hI3.drew.rI (n:=1) (x:=pl[k].2.1) rfl (zjs h2 hT λw4 b4=>?_)⟩)
 have b04:=(b03.drew).on b4
 have hI4:=hI3.drew.below b4
 refine⟨_,rfl,hI4.cell (n:=3) rfl,?_⟩
 have ht4:IsAg w4 t pl[k].2.2.2:=IsC.below zE ht b04
 have htl:=ht4.len
 have eL:(ix pl k).2.2.2=pl[k].2.2.2:=by rw[hix]
 rw[eL]at hR
 have eT:(ix pl k).2.1=pl[k].2.1:=by rw[hix]
 refine zz (λg2=>?_) (λg2=>?_)
 ·rw[if_pos (by rw[eT];omega)]at hR
  exact hR w4 ⟨none,0,0⟩ (WdOk.nil _ _) b04
 rw[if_neg (by rw[eT];omega)]at hR
 refine hI4.rS (n:=3) (x:=t) rfl ?_
 refine zl.ghost (λm (st:Sl×Int×Unit) w'=>∃(r:Sl) (j:Nat),st=(r,(j:Int),())/\j<=pl[k].2.2.2.length/\m=pl[k].2.2.2.length-j/\(catC T C pl k j).2=0/\Wl w4 w' r (catC T C pl k j).1/\Blk w' w.heap.size 52 (inV (mkIn pl[k] t))) pl[k].2.2.2.length ⟨⟨none,0,0⟩,0,rfl,Nat.zero_le _,rfl,rfl,Wl.nil w4,hI4⟩ ?_
 rintro _ _ w5 ⟨r,j,rfl,hj,rfl,hj0,hW,hI5⟩ next hnext
 have b05:=b04.on hW.below
 refine zg (λg=>?_) (λg=>?_)
 ·have hjl:j<pl[k].2.2.2.length:=by dsimp only at g;omega
  have eA:agI pl k j=pl[k].2.2.2[j].2.1:=by
   unfold agI
   rw[eL,zo hjl]
  refine zdA (IsC.below zE ht b05) hjl (box3 rfl λw9 h9 b9 z9=>?_)
  obtain⟨tb',r',r2',o1',o2',p1,p2,p3⟩:=((h.below b05).below b9).drew
  have hI9:=hI5.below b9
  refine ze rfl ⟨_,p1.cell0 rfl,hI9.drew.rI (n:=1) (x:=pl[k].2.1) rfl (zgM p2 hT λw10 b10=>?_)⟩
  refine⟨_,_,rfl,(h9.drew.below b10).rI (n:=1) (x:=pl[k].2.2.2[j].2.1) rfl ?_⟩
  have b510:=((b9.drew).on b10)
  refine zmk (h.below (b05.on b510)) λw11 s hs b11=>?_
  rw[<-eT,<-eA]at hs⊢
  refine⟨s,_,rfl,zz (λhe=>?_) (λhe=>?_)⟩
  ·have:=zjC hj0 he _ hjl
   rw[this]at hR
   exact hR w11 ⟨none,0,0⟩ (WdOk.nil _ _) ((b05.on b510).on b11)
  ·have hlen:=zio (T:=T) (pl:=pl) (k:=k) hL j
   have hlen2:=zkn hL (agI pl k j) ((tA T (ix pl k).2.1).prt (j:Int)).1
   have hmul:j*4096<=65535*4096:=Nat.mul_le_mul_right _ (by omega)
   have hsum:(catC T C pl k j).1.length+(ofC C (agI pl k j) ((tA T (ix pl k).2.1).prt (j:Int)).1).1.length<=4398046511104:=by omega
   refine((hW.on b510).on b11).app hs.is hsum λr' w12 hW12 hkeep=>?_
   dsimp only
   rw[zA (by omega)]
   refine hnext (pl[k].2.2.2.length-(j+1)) _ w12 (by omega) ⟨r',j+1,rfl,by omega,rfl,?_⟩
   rw[zmz hj0 he]
   exact⟨rfl,hW12,hkeep _ _ _ (by decide) ((hI9.drew.below b10).below b11)⟩
 ·have hje:j=pl[k].2.2.2.length:=by dsimp only at g;omega
  subst hje
  have:=hR w5 r (WdOk.own hW.own λy hy=>Nat.le_trans b04.size (hW.fr y hy)) b05
  rw[hj0]at this
  exact this
theorem IsPq.low(h:IsPq w B pb A T C):IsPq w B pb (λb=>A b/\b<w.heap.size) T C:=by
 obtain⟨tb,r,r2,o1,o2,h1,h2,h3⟩:=h
 exact⟨tb,r,r2,o1,o2,h1,h2,h3.keep rfl (λb q1 q2=>⟨rfl,q1,q2⟩) (Nat.le_refl _)⟩
def HdR(R:VWP)(w:World)(A:Nat->Prop)(p:Vn×Int):Prop:=∀w' v,VvOk (λb=>A b\/w.heap.size<=b) w' v p.1->Below w.heap.size w w'->R (.tuple #[.agg #[.int .u32 v.1,.int .u32 v.2.1,.slice v.2.2.1.a v.2.2.1.l v.2.2.1.c],.int .i64 p.2]) w'
theorem VvOk.nil(A:Nat->Prop)(w:World):VvOk A w vv0 (0,0,[]):=⟨rfl,rfl,WdOk.nil A w⟩
theorem Vv.load{b:Nat}{Ty:TypeId}{v:Vv}(h:Blk w b Ty (vvV v)){φ:Int->Int->Sl->Prop}(hφ:φ v.1 v.2.1 v.2.2.1):ldI w ((blk b).add 0) .u32 λx1=>ldI w ((blk b).add 1) .u32 λx2=>ldS w ((blk b).add 2) λx3=>φ x1 x2 x3:=
 ⟨_,h.cell (n:=0) rfl,_,h.cell (n:=1) rfl,_,h.cell (n:=2) rfl,hφ⟩
theorem zli(h:IsPq w B pb A T C)(hT:TbOk T)(hk:k<pl.length)(ht:IsAg w t pl[k].2.2.2)(hn:1<=pl[k].2.2.2.length)(hR:HdR R w A (varC T C pl k)) :
  cR 72 #[.pointer (some (blk pb)),inA (mkIn pl[k] t)] w R:=by
 refine za.of (zch _ (mkIn pl[k] t) R w ?_) λ_ _ h=>h
 have hix:=yn hk
 have eL:(ix pl k).2.2.2=pl[k].2.2.2:=by rw[hix]
 have eT:(ix pl k).2.1=pl[k].2.1:=by rw[hix]
 refine zk λw1 hI1 b1 z1=>?_
 have hI1:Blk w1 w.heap.size 52 (inV (mkIn pl[k] t)):=hI1
 refine zk λw2 hO2 b2 z2=>?_
 have hO2:Blk w2 w1.heap.size 85 (vvV vv0):=hO2
 have b02:=b1.on b2
 have h02:=(h.below b02).drew
 have h02':=h02
 obtain⟨tb,r,r2,o1,o2,q1,q2,q3⟩:=h02'
 refine ze rfl ⟨_,q1.cell0 rfl,(hI1.below b2).drew.rI (n:=1) (x:=pl[k].2.1) rfl (zjr q2 λw3 b3=>?_)⟩
 have b03:=(b02.drew).on b3
 have hI3:=(hI1.below b2).drew.below b3
 have hO3:=hO2.drew.below b3
 refine⟨_,_,rfl,?_⟩
 unfold varC at hR
 rw[eL,eT]at hR
 refine zM (zm (λg=>?_) (λg=>?_))
 rotate_left
 ·rw[if_pos g]at hR
  refine st3 hO3 rfl λw6 h6 c6=>Vv.load (v:=vv0) h6 ?_
  exact hR w6 vv0 (VvOk.nil _ _) (c6.below b03 (by omega))
 rw[if_neg (λq=>q g)]at hR
 have ht3:IsAg w3 t pl[k].2.2.2:=IsC.below zE ht b03
 refine hI3.rS (n:=3) (x:=t) rfl ?_
 obtain⟨a,he⟩:=ht3.base hn
 have hc:=ht3.cell a he 0 hn 1 (by decide)
 refine⟨⟨by decide,by have:=ht3.len;omega⟩,ze he ⟨pl[k].2.2.2[0].2.1,by rw[zD];exact hc,?_⟩⟩
 have eC:agI pl k 0=pl[k].2.2.2[0].2.1:=by
  unfold agI
  rw[eL,zo hn]
 rw[<-eC]
 refine box3 rfl λw10 hV10 b10 z10=>?_
 have b010:=b03.on b10
 have h010:=(h.below b010).drew
 obtain⟨tb',r',r2',o1',o2',p1,p2,p3⟩:=h010
 have hI10:=hI3.below b10
 refine ze rfl ⟨_,p1.cell0 rfl,hI10.drew.rI (n:=1) (x:=pl[k].2.1) rfl (zgM (k:=0) p2 hT λw11 b11=>?_)⟩
 refine⟨_,_,rfl,?_⟩
 have hV11:=hV10.drew.below b11
 refine⟨hV11.wr (n:=1) (by show 1<3;decide),Nw.gen λw12 e12=>?_⟩
 have c12:Chg w3.heap.size w11 w12:=by rw[e12];exact Chg.set _ _ _ _
 have hV12:Blk w12 w3.heap.size 85 (vvV (agI pl k 0,((tA T pl[k].2.1).prt 0).1,⟨none,0,0⟩,())):=by rw[e12];exact hV11.set 1 _
 have b011:=(b010.drew).on b11
 have s03:=b03.size
 have b012:Below w.heap.size w w12:=c12.below b011 (by omega)
 have lt3:w1.heap.size<w3.heap.size:=hO3.lt
 have hI12:Blk w12 w.heap.size 52 (inV (mkIn pl[k] t)):=c12.blk (hI10.drew.below b11) (by omega)
 have hO12:Blk w12 w1.heap.size 85 (vvV vv0):=c12.blk ((hO3.below b10).drew.below b11) (by omega)
 have htl:=ht3.len
 generalize hS:(tA T pl[k].2.1).prt 0=pr at hV12 hR⊢
 refine zj.cut (λ(_:Unit) w'=>w12=w'/\¬((tA T pl[k].2.1).cls≠agI pl k 0\/(1<pl[k].2.2.2.length/\(tA T pl[k].2.1).cls=1))) ?_ ?_
 ·have bad:(tA T pl[k].2.1).cls≠agI pl k 0\/(1<pl[k].2.2.2.length/\(tA T pl[k].2.1).cls=1)->∀w15,Below w.heap.size w w15->R (.tuple #[.agg #[.int .u32 vv0.1,.int .u32 vv0.2.1,.slice vv0.2.2.1.a vv0.2.2.1.l vv0.2.2.1.c],.int .i64 112]) w15:=λg w15 hb=>by
   rw[if_pos g]at hR
   exact hR w15 vv0 (VvOk.nil _ _) hb
  refine hV12.rI0 rfl (zz (λg1=>?_) (λg1=>?_))
  ·exact st3 hO12 rfl λw15 h15 c15=>Vv.load (v:=vv0) h15 (bad (.inl g1) w15 (c15.below b012 (by omega)))
  refine hI12.rS (n:=3) (x:=t) rfl (zg (λg2=>zm (λg3=>?_) (λg3=>⟨rfl,?_⟩)) (λg2=>⟨rfl,?_⟩))
  ·exact st3 hO12 rfl λw15 h15 c15=>Vv.load (v:=vv0) h15 (bad (.inr ⟨by omega,g3⟩) w15 (c15.below b012 (by omega)))
  ·rintro(q |q)
   ·exact q g1
   ·exact g3 q.2
  ·rintro(q |q)
   ·exact q g1
   ·omega
 rintro _ w19 ⟨rfl,g⟩
 rw[if_neg g]at hR
 refine hI12.rS (n:=3) (x:=t) rfl (zm (λg1=>?_) (λg1=>?_))
 ·rw[if_pos (by omega)]at hR
  obtain⟨tb2,r2,r22,o12,o22,u1,u2,u3⟩:=(h.below b012).drew
  refine ze rfl ⟨_,u1.cell0 rfl,hV12.drew.rI (n:=1) rfl (zgN u2 λw20 b20=>⟨_,rfl,?_⟩)⟩
  have hmx:=zgy hT pr.1
  refine zpy (n:=(tA T pr.1).size) (by omega) λw21 h21 b21=>?_
  have b1221:=((Below.refl w12.heap.size w12).drew.on b20).on b21
  have hV21:=hV12.below b1221
  rw[zD]
  refine⟨hV21.wr (n:=2) (by show 2<3;decide),Nw.gen λw22 e22=>?_⟩
  have c22:Chg w3.heap.size w21 w22:=by rw[e22];exact Chg.set _ _ _ _
  have hV22:Blk w22 w3.heap.size 85 (vvV (agI pl k 0,pr.1,⟨some (Gk.blk w20.heap.size),Int.toNat ((tA T pr.1).size:Int),Int.toNat ((tA T pr.1).size:Int)⟩,())):=by rw[e22];exact hV21.set 2 _
  have hO22:=c22.blk (hO12.below b1221) (by omega)
  have lt12:=hV12.lt
  have s20:=((Below.refl w12.heap.size w12).drew.on b20).size
  have h22:Blk w22 w20.heap.size 22 (List.replicate (tA T pr.1).size (.int .u32 0)):=c22.blk h21 (by omega)
  refine Vv.load hV22 (st3 hO22 rfl λw25 h25 c25=>Vv.load (v:=(agI pl k 0,pr.1,⟨some (Gk.blk w20.heap.size),Int.toNat ((tA T pr.1).size:Int),Int.toNat ((tA T pr.1).size:Int)⟩,())) h25 ?_)
  have b022:Below w.heap.size w w22:=c22.below (b012.on b1221) (by omega)
  have h25b:Blk w25 w20.heap.size 22 ((List.replicate (tA T pr.1).size (0:Int)).map (Value.int .u32)):=by rw[zp0];exact c25.blk h22 (by omega)
  have q:=WdOk.blk (A:=λb=>A b\/w.heap.size<=b) h25b (.inr (by omega)) (by rw[List.length_replicate];have:=zgy hT pr.1;omega)
  rw[List.length_replicate]at q
  exact hR w25 (agI pl k 0,pr.1,⟨some (Gk.blk w20.heap.size),Int.toNat ((tA T pr.1).size:Int),Int.toNat ((tA T pr.1).size:Int)⟩,()) ⟨rfl,rfl,q⟩ (c25.below b022 (by omega))
 ·rw[if_neg (by omega)]at hR
  refine hI12.drew.rS (n:=3) (x:=t) rfl ?_
  have ht12:IsAg w12.drew t pl[k].2.2.2:=IsC.below zE ht b012.drew
  have hn1:1<pl[k].2.2.2.length:=by omega
  obtain⟨a2,he2⟩:=ht12.base hn1
  have hc2:=ht12.cell a2 he2 1 hn1 1 (by decide)
  have eC2:agI pl k 1=pl[k].2.2.2[1].2.1:=by
   unfold agI
   rw[eL,zo hn1]
  refine⟨⟨by decide,by omega⟩,ze he2 ⟨pl[k].2.2.2[1].2.1,by rw[zD];exact hc2,hV12.drew.rI (n:=1) rfl ?_⟩⟩
  rw[<-eC2]
  refine zmk ((h.low.below b012).drew) λw26 s hs b26=>⟨s,_,rfl,?_⟩
  have b1226:=(Below.refl w12.heap.size w12).drew.on b26
  have hV26:=hV12.below b1226
  rw[zD]
  refine⟨hV26.wr (n:=2) (by show 2<3;decide),Nw.gen λw27 e27=>?_⟩
  have c27:Chg w3.heap.size w26 w27:=by rw[e27];exact Chg.set _ _ _ _
  have hV27:Blk w27 w3.heap.size 85 (vvV (agI pl k 0,pr.1,s,())):=by rw[e27];exact hV26.set 2 _
  have hO27:=c27.blk (hO12.below b1226) (by omega)
  refine Vv.load hV27 (st3 hO27 rfl λw30 h30 c30=>Vv.load (v:=(agI pl k 0,pr.1,s,())) h30 ?_)
  have b027:Below w.heap.size w w27:=c27.below (b012.on b1226) (by omega)
  have lt12:=hV12.lt
  refine hR w30 (agI pl k 0,pr.1,s,()) ⟨rfl,rfl,?_⟩ (c30.below b027 (by omega))
  refine(hs.keep (w':=w30) (A':=λb=>A b\/w.heap.size<=b) (λb q _=>⟨(c30.block b (by omega)).trans (c27.block b (by omega)),.inl q.1⟩) ?_)
  rw[c30.size,c27.size]
  exact Nat.le_refl _
end
end Go.Proofs
namespace Go.Proofs
open Go.Gk Go.RowKit Go.Gm
abbrev mkF(pb f:Nat):Value:=.func (.func f) #[.pointer (some (Gk.blk pb))] #[]
abbrev mkL(pb:Nat):List (Int×Value):=[(1,mkF pb 68),(46,mkF pb 68),(41,mkF pb 69),(42,mkF pb 69),(43,mkF pb 70),(44,mkF pb 71)]
abbrev znk(w:World)(r pb:Nat):Prop:=IsMg (κ:=Int) w r (Value.int .u16) BK.raw.v (mkL pb)
theorem uMk:Tryz.prog.underlying 103=some (.map 46 143):=by kernel_rfl
theorem uU16:Tryz.prog.underlying 46=some (.int .u16):=by kernel_rfl
theorem zMk:∃i,Tryz.prog.info? 143=some i/\i.zero=some (BK.raw.v .nilFunc):=by
 have h:(Tryz.prog.info? 143).map (·.zero)=some (some .nilFunc):=by kernel_rfl
 cases hi:Tryz.prog.info? 143 with
 |none=>rw[hi]at h;cases h
 |some i=>rw[hi]at h;exact⟨i,rfl,by injection h⟩
theorem ziQ{w:World}{pb:Nat}{R:VWP}(hR:∀w',znk w' w.heap.size pb->Below w.heap.size w w'->R (.map (some w.heap.size)) w') :
  cR 50 #[.pointer (some (blk pb))] w R:=by
 refine za.of (zbN _ R w ?_) λ_ _ h=>h
 refine Nw.gen λw1 e1=>?_
 have h1:IsMg (κ:=Int) w1 w.heap.size (Value.int .u16) BK.raw.v []:=by rw[e1];exact IsMg.new w _ _
 have b1:Below w.heap.size w w1:=by rw[e1];exact(Below.refl _ _).alloc (Nat.le_refl _) _
 refine zcT (zeQ .u16) uMk uU16 h1 rfl rfl λw2 h2 c2=>?_
 refine zcT (zeQ .u16) uMk uU16 h2 rfl rfl λw3 h3 c3=>?_
 refine zcT (zeQ .u16) uMk uU16 h3 rfl rfl λw4 h4 c4=>?_
 refine zcT (zeQ .u16) uMk uU16 h4 rfl rfl λw5 h5 c5=>?_
 refine zcT (zeQ .u16) uMk uU16 h5 rfl rfl λw6 h6 c6=>?_
 refine zcT (zeQ .u16) uMk uU16 h6 rfl rfl λw7 h7 c7=>?_
 have n:=Nat.le_refl w.heap.size
 exact hR w7 h7 (c7.below (c6.below (c5.below (c4.below (c3.below (c2.below b1 n) n) n) n) n) n)
abbrev Al(E:Nat)(o1 o2:Sl)(b:Nat):Prop:=E<=b/\o1.a≠some (Gk.blk b)/\o2.a≠some (Gk.blk b)
structure Gp (w0 w:World) (tb:Nat) (o1 o2:Sl) (L1 L2:List Int) (C:CnL) (V:VnL):Prop where
 below:Below w0.heap.size w0 w
 sz:w0.heap.size+4<=w.heap.size
 pool:Blk w (w0.heap.size+2) 80 [.pointer (some (Gk.blk tb)),.slice o1.a o1.l o1.c,.map (some w0.heap.size),.slice o2.a o2.l o2.c,.map (some (w0.heap.size+1))]
 own1:Own w 22 1 o1 (L1.map (Value.int .u32))
 own2:Own w 22 1 o2 (L2.map (Value.int .u32))
 fr1:zS (w0.heap.size+4) o1
 fr2:zS (w0.heap.size+4) o2
 ap:∀b,o1.a=some (Gk.blk b)->o2.a≠some (Gk.blk b)
 cn:IsCn w (Al (w0.heap.size+4) o1 o2) w0.heap.size C
 vn:IsVn w (Al (w0.heap.size+4) o1 o2) (w0.heap.size+1) V
 mks:znk w (w0.heap.size+3) (w0.heap.size+2)
section
variable {w0 w w':World} {tb B:Nat} {o1 o2:Sl} {L1 L2:List Int} {C:CnL} {V:VnL} {T:TyL}
theorem Gp.on(h:Gp w0 w tb o1 o2 L1 L2 C V)(hb:Below w.heap.size w w'):Gp w0 w' tb o1 o2 L1 L2 C V:=
 ⟨h.below.on hb,Nat.le_trans h.sz hb.size,h.pool.below hb,h.own1.below hb,h.own2.below hb,h.fr1,h.fr2,h.ap,h.cn.below hb,h.vn.below hb,h.mks.below hb⟩
theorem Gp.drew(h:Gp w0 w tb o1 o2 L1 L2 C V):Gp w0 w.drew tb o1 o2 L1 L2 C V:=h.on (Below.refl _ _).drew
theorem Gp.pq(h:Gp w0 w tb o1 o2 L1 L2 C V)(hT:IsTb w0 B tb T):IsPq w B (w0.heap.size+2) (Al (w0.heap.size+4) o1 o2) T C:=
 ⟨tb,w0.heap.size,w0.heap.size+1,o1,o2,h.pool,hT.below h.below,h.cn⟩
theorem Gp.new(h:Gp w0 w tb o1 o2 L1 L2 C V){b:Nat}(hb:w.heap.size<=b):Al (w0.heap.size+4) o1 o2 b:=
 ⟨Nat.le_trans h.sz hb,λe=>by have:=(h.own1.lt e).2;have:b<w.heap.size:=this;omega,λe=>by have:=(h.own2.lt e).2;have:b<w.heap.size:=this;omega⟩
theorem zi7{s t:Sl}{T:TypeId}{sz:Nat}{xs:List Value}(h:Own w T sz s xs)(hap:∀b,s.a=some (Gk.blk b)->t.a≠some (Gk.blk b)){a:Addr}(ha:s.a=some a)(e:t.a=some (Gk.blk a.block)):False:=by
 have:=(h.lt ha).1
 exact hap a.block (by rw[ha,this]) e
theorem Gp.push2(h:Gp w0 w tb o1 o2 L1 L2 C V){id:Int}{b:Nat}(hB:Blk w b 22 [.int .u32 id])(hl:L2.length<=4398046511104){K:World->Prop}
  (hK:∀r w',Gp w0 w' tb o1 r L1 (L2++[id]) C V->(∀c T cs,22≠T->c≠w0.heap.size+2->Blk w c T cs->Blk w' c T cs)->(∀s l,WdOk (Al (w0.heap.size+4) o1 o2) w s l->WdOk (Al (w0.heap.size+4) o1 r) w' s l)->w.heap.size<=w'.heap.size->K w') :
  zF Tryz.prog 30 (.slice o2.a o2.l o2.c) (.slice (some (blk b)) 1 1) w λr w8=>zc (some (blk (w0.heap.size+2))) λa=>Wr w8 (a.add 3)/\Nw (w8.setCell (a.add 3) (.slice r.a r.l r.c)) K:=by
 have hlo:=h.own2.1
 rw[List.length_map]at hlo
 have hsz:=h.sz
 refine zgv eU32 h.own2 (vs:=[.int .u32 id]) rfl (λu hu=>by rw[List.mem_singleton.1 hu];rfl) hB (by omega) (by omega) λr w8 b' hO ha hb' hbel hkeep=>?_
 have hge:w0.heap.size+4<=b':=by
  rcases hb' with e |e
  ·exact h.fr2 _ e
  ·omega
 have hs8:w.heap.size<=w8.heap.size:=(hbel 0 (Nat.zero_le _) (Nat.zero_le _)).size
 have nb:∀{c:Nat},c<w.heap.size->c≠b'->w8.heap[c]? =w.heap[c]?:=λh1 h2=>hkeep _ h1 h2
 have P8:=h.pool.of_block (nb h.pool.lt (by omega))
 refine ze rfl ⟨P8.wr (n:=3) (by show 3<5;decide),Nw.gen λw9 e9=>?_⟩
 have c9:Chg (w0.heap.size+2) w8 w9:=by rw[e9];exact Chg.set _ _ _ _
 have P9:=P8.set 3 (Value.slice r.a r.l r.c)
 rw[<-e9]at P9
 have s9:=c9.size
 have alA:∀c,Al (w0.heap.size+4) o1 o2 c->c<w.heap.size->w9.heap[c]? =w.heap[c]?/\Al (w0.heap.size+4) o1 r c:=λc h1 h2=>by
  have hne:c≠b':=λe=>by
   rcases hb' with e2 |e2
   ·exact h1.2.2 (by rw[e2,e])
   ·omega
  exact⟨(c9.block _ (by have:=h1.1;omega)).trans (nb h2 hne),⟨h1.1,h1.2.1,λq=>hne (by rw[ha]at q;injection q with q;injection q with q;exact q.symm)⟩⟩
 have one:∀a,o1.a=some a->a.block≠b':=λa h1 e=>by
  rcases hb' with e2 |e2
  ·exact zi7 h.own1 (h.ap) h1 (by rw[e];exact e2)
  ·have:=(h.own1.lt h1).2
   omega
 have apn:∀c,o1.a=some (Gk.blk c)->r.a≠some (Gk.blk c):=λc h1 h2=>by
  rw[ha]at h2
  have e:b'=c:=by injection h2 with h2;injection h2 with h2
  exact one _ h1 e.symm
 have old:∀c,c<w.heap.size->c≠b'->c≠w0.heap.size+2->w9.heap[c]? =w.heap[c]?:=λc h1 h2 h3=>(c9.block _ h3).trans (nb h1 h2)
 refine hK r w9 ⟨c9.below (h.below.trans (hbel _ (by omega) (by omega))) (by omega),by omega,P9,h.own1.of_block λa h1=>old _ (h.own1.lt h1).2 (one a h1) (by have:=h.fr1 a h1;omega),by rw[List.map_append];exact hO.of_block λa h1=>c9.block _ (by rw[ha]at h1;cases h1;show b'≠_;omega),h.fr1,λa h1=>(by rw[ha]at h1;cases h1;exact hge),apn,?_,?_,h.mks.of_block (old _ h.mks.lt (by omega) (by omega))⟩ (λc T cs hT hc hq=>?_) (λs l hq=>hq.keep alA (by omega)) (by omega)
 ·exact h.cn.keep (old _ h.cn.lt (by omega) (by omega)) alA (by omega)
 ·exact h.vn.keep (old _ h.vn.lt (by omega) (by omega)) alA (by omega)
 ·refine hq.of_block (old _ hq.lt (λe=>?_) hc)
  subst e
  rcases hb' with e2 |e2
  ·exact YE h.own2 hq hT e2
  ·have:=hq.lt
   omega
theorem Gp.push1(h:Gp w0 w tb o1 o2 L1 L2 C V){id:Int}{b:Nat}(hB:Blk w b 22 [.int .u32 id])(hl:L1.length<=4398046511104){K:World->Prop}
  (hK:∀r w',Gp w0 w' tb r o2 (L1++[id]) L2 C V->(∀c T cs,22≠T->c≠w0.heap.size+2->Blk w c T cs->Blk w' c T cs)->(∀s l,WdOk (Al (w0.heap.size+4) o1 o2) w s l->WdOk (Al (w0.heap.size+4) r o2) w' s l)->w.heap.size<=w'.heap.size->K w') :
  zF Tryz.prog 30 (.slice o1.a o1.l o1.c) (.slice (some (blk b)) 1 1) w λr w8=>zc (some (blk (w0.heap.size+2))) λa=>Wr w8 (a.add 1)/\Nw (w8.setCell (a.add 1) (.slice r.a r.l r.c)) K:=by
 have hlo:=h.own1.1
 rw[List.length_map]at hlo
 have hsz:=h.sz
 refine zgv eU32 h.own1 (vs:=[.int .u32 id]) rfl (λu hu=>by rw[List.mem_singleton.1 hu];rfl) hB (by omega) (by omega) λr w8 b' hO ha hb' hbel hkeep=>?_
 have hge:w0.heap.size+4<=b':=by
  rcases hb' with e |e
  ·exact h.fr1 _ e
  ·omega
 have hs8:w.heap.size<=w8.heap.size:=(hbel 0 (Nat.zero_le _) (Nat.zero_le _)).size
 have nb:∀{c:Nat},c<w.heap.size->c≠b'->w8.heap[c]? =w.heap[c]?:=λh1 h2=>hkeep _ h1 h2
 have P8:=h.pool.of_block (nb h.pool.lt (by omega))
 refine ze rfl ⟨P8.wr (n:=1) (by show 1<5;decide),Nw.gen λw9 e9=>?_⟩
 have c9:Chg (w0.heap.size+2) w8 w9:=by rw[e9];exact Chg.set _ _ _ _
 have P9:=P8.set 1 (Value.slice r.a r.l r.c)
 rw[<-e9]at P9
 have s9:=c9.size
 have alA:∀c,Al (w0.heap.size+4) o1 o2 c->c<w.heap.size->w9.heap[c]? =w.heap[c]?/\Al (w0.heap.size+4) r o2 c:=λc h1 h2=>by
  have hne:c≠b':=λe=>by
   rcases hb' with e2 |e2
   ·exact h1.2.1 (by rw[e2,e])
   ·omega
  exact⟨(c9.block _ (by have:=h1.1;omega)).trans (nb h2 hne),⟨h1.1,λq=>hne (by rw[ha]at q;injection q with q;injection q with q;exact q.symm),h1.2.2⟩⟩
 have one:∀a,o2.a=some a->a.block≠b':=λa h1 e=>by
  rcases hb' with e2 |e2
  ·exact zi7 h.own2 (λc q1 q2=>h.ap c q2 q1) h1 (by rw[e];exact e2)
  ·have:=(h.own2.lt h1).2
   omega
 have apn:∀c,o2.a=some (Gk.blk c)->r.a≠some (Gk.blk c):=λc h1 h2=>by
  rw[ha]at h2
  have e:b'=c:=by injection h2 with h2;injection h2 with h2
  exact one _ h1 e.symm
 have old:∀c,c<w.heap.size->c≠b'->c≠w0.heap.size+2->w9.heap[c]? =w.heap[c]?:=λc h1 h2 h3=>(c9.block _ h3).trans (nb h1 h2)
 refine hK r w9 ⟨c9.below (h.below.trans (hbel _ (by omega) (by omega))) (by omega),by omega,P9,by rw[List.map_append];exact hO.of_block λa h1=>c9.block _ (by rw[ha]at h1;cases h1;show b'≠_;omega),h.own2.of_block λa h1=>old _ (h.own2.lt h1).2 (one a h1) (by have:=h.fr2 a h1;omega),λa h1=>(by rw[ha]at h1;cases h1;exact hge),h.fr2,λc h1 h2=>apn c h2 h1,?_,?_,h.mks.of_block (old _ h.mks.lt (by omega) (by omega))⟩ (λc T cs hT hc hq=>?_) (λs l hq=>hq.keep alA (by omega)) (by omega)
 ·exact h.cn.keep (old _ h.cn.lt (by omega) (by omega)) alA (by omega)
 ·exact h.vn.keep (old _ h.vn.lt (by omega) (by omega)) alA (by omega)
 ·refine hq.of_block (old _ hq.lt (λe=>?_) hc)
  subst e
  rcases hb' with e2 |e2
  ·exact YE h.own1 hq hT e2
  ·have:=hq.lt
   omega
end
end Go.Proofs
namespace Go.Proofs
open Go.Gk Go.RowKit Go.Gm
section
variable {w0 w w':World} {tb B k:Nat} {o1 o2:Sl} {L1 L2:List Int} {C:CnL} {V:VnL} {T:TyL} {pl:List PI} {t:Sl} {bd:Int} {R:VWP}
theorem Gp.setV(h:Gp w0 w tb o1 o2 L1 L2 C V){id:Int}{v:Vv}{vn:Vn}(hv:VvOk (Al (w0.heap.size+4) o1 o2) w v vn){K:World->Prop}(hK:∀w',Gp w0 w' tb o1 o2 L1 L2 C (setQ V id vn)->K w') :
  updW Tryz.prog 78 (.map (some (w0.heap.size+1))) (.int .u32 id) (.agg #[.int .u32 v.1,.int .u32 v.2.1,.slice v.2.2.1.a v.2.2.1.l v.2.2.1.c]) w K:=by
 obtain⟨Vl,V1,V2⟩:=h.vn
 refine zhd (f:=aggQ vvK) (v:=(v:Vv)) uVn ziY V1 rfl λw1 V3 c=>hK w1 ?_
 have c:Chg (w0.heap.size+1) w w1:=c
 have hs:=c.size
 have al:∀b,Al (w0.heap.size+4) o1 o2 b->b<w.heap.size->w1.heap[b]? =w.heap[b]?/\Al (w0.heap.size+4) o1 o2 b:=λb h1 _=>⟨c.block _ (by have:=h1.1;omega),h1⟩
 refine⟨c.below h.below (by omega),by have:=h.sz;omega,c.blk h.pool (by omega),h.own1.of_block λa ha=>c.block _ (by have:=h.fr1 a ha;omega),h.own2.of_block λa ha=>c.block _ (by have:=h.fr2 a ha;omega),h.fr1,h.fr2,h.ap,h.cn.keep (c.block _ (by omega)) al (by omega),?_,h.mks.of_block (c.block _ (by omega))⟩
 exact⟨_,V3,setR (R:=λa c=>VvOk (Al (w0.heap.size+4) o1 o2) w1 a c) ⟨hv.cl,hv.ty,hv.wd.keep al (by omega)⟩ (allR (λa c q=>⟨q.1,q.2.cl,q.2.ty,q.2.wd.keep al (by omega)⟩) V2)⟩
theorem Gp.setC(h:Gp w0 w tb o1 o2 L1 L2 C V){id ty:Int}{s:Sl}{l:List Int}(hv:WdOk (Al (w0.heap.size+4) o1 o2) w s l){K:World->Prop}(hK:∀w',Gp w0 w' tb o1 o2 L1 L2 (setQ C id (ty,l)) V->K w') :
  updW Tryz.prog 77 (.map (some w0.heap.size)) (.int .u32 id) (.agg #[.int .u32 ty,.slice s.a s.l s.c]) w K:=by
 obtain⟨Vl,V1,V2⟩:=h.cn
 refine zhd (f:=aggQ cvK) (v:=((ty,s,()):Cv)) uCn ziY V1 rfl λw1 V3 c=>hK w1 ?_
 have c:Chg w0.heap.size w w1:=c
 have hs:=c.size
 have al:∀b,Al (w0.heap.size+4) o1 o2 b->b<w.heap.size->w1.heap[b]? =w.heap[b]?/\Al (w0.heap.size+4) o1 o2 b:=λb h1 _=>⟨c.block _ (by have:=h1.1;omega),h1⟩
 refine⟨c.below h.below (by omega),by have:=h.sz;omega,c.blk h.pool (by omega),h.own1.of_block λa ha=>c.block _ (by have:=h.fr1 a ha;omega),h.own2.of_block λa ha=>c.block _ (by have:=h.fr2 a ha;omega),h.fr1,h.fr2,h.ap,?_,h.vn.keep (c.block _ (by omega)) al (by omega),h.mks.of_block (c.block _ (by omega))⟩
 exact⟨_,V3,setR (R:=λa c=>CvOk (Al (w0.heap.size+4) o1 o2) w1 a c) ⟨rfl,hv.keep al (by omega)⟩ (allR (λa c q=>⟨q.1,q.2.ty,q.2.wd.keep al (by omega)⟩) V2)⟩
theorem zlo{pb:Nat}{op:Int}:zT (mkL pb) op=if op=1\/op=46 then some (mkF pb 68) else if op=41\/op=42 then some (mkF pb 69) else if op=43 then some (mkF pb 70) else if op=44 then some (mkF pb 71) else none:=by
 simp only[zT]
 by_cases h1:op=1
 ·subst h1;rfl
 by_cases h2:op=46
 ·subst h2;rfl
 by_cases h3:op=41
 ·subst h3;rfl
 by_cases h4:op=42
 ·subst h4;rfl
 by_cases h5:op=43
 ·subst h5;rfl
 by_cases h6:op=44
 ·subst h6;rfl
 simp[h1,h2,h3,h4,h5,h6]
theorem zkR{pb:Nat}{A:Nat->Prop}(h:IsPq w B pb A T C)(hT:TbOk T)(hs:(zp bd pl).1=0)(hk:k<pl.length)(ht:IsAg w t pl[k].2.2.2)(hL:∀id c,zy C id=some c->c.2.length<=4096){p:List Int×Int}(hp:wdsC T C pl k=some p){f:Value}(hf:zT (mkL pb) (ix pl k).1=some f)(hR:MkR R w p) :
  yL Tryz.prog Tryz.fs f [inA (mkIn pl[k] t)] w R:=by
 have hix:=yn hk
 have eL:(ix pl k).2.2.2=pl[k].2.2.2:=by rw[hix]
 have eT:(ix pl k).2.1=pl[k].2.1:=by rw[hix]
 have c1:Tryz.fs.contains 68=true:=by kernel_rfl
 have c2:Tryz.fs.contains 69=true:=by kernel_rfl
 have c3:Tryz.fs.contains 70=true:=by kernel_rfl
 have c4:Tryz.fs.contains 71=true:=by kernel_rfl
 rw[zlo]at hf
 unfold wdsC at hp
 by_cases e1:(ix pl k).1=1\/(ix pl k).1=46
 ·rw[if_pos e1]at hf hp
  cases hf
  cases hp
  unfold yL
  simp only[c1]
  exact zhZ (x:=mkIn pl[k] t) h hT (by show MkR R w (if (tA T pl[k].2.1).size=0 then _ else _);rw[<-eT];exact hR)
 rw[if_neg e1]at hf hp
 by_cases e2:(ix pl k).1=41\/(ix pl k).1=42
 ·rw[if_pos e2]at hf hp
  cases hf
  cases hp
  unfold yL
  simp only[c2]
  refine zjA (x:=mkIn pl[k] t) h ?_
  show MkR R w (if (tA T pl[k].2.1).kind≠2 then _ else(if pl[k].1=41 then _ else _,_))
  rw[<-eT,show pl[k].1=(ix pl k).1 by rw[hix]]
  exact hR
 rw[if_neg e2]at hf hp
 by_cases e3:(ix pl k).1=43
 ·rw[if_pos e3]at hf hp
  cases hf
  cases hp
  unfold yL
  simp only[c3]
  have hl:(ix pl k).2.2.2.length=1:=yl hs hk e3 zcF
  refine ziR (x:=mkIn pl[k] t) (al:=pl[k].2.2.2) h ht (λ_=>by rw[<-eL];omega) ?_
  show MkR R w (if (tA T pl[k].2.1).kind≠3 then _ else _)
  rw[<-eT,<-eL]
  exact hR
 rw[if_neg e3]at hf hp
 by_cases e4:(ix pl k).1=44
 ·rw[if_pos e4]at hf hp
  cases hf
  cases hp
  unfold yL
  simp only[c4]
  exact zgQ h hT hk ht (ziN hs hk) hL hR
 rw[if_neg e4]at hf
 cases hf
theorem zoK(W:yq bd pl)(T:TyL){n:Nat}(hn:n<=pl.length):(cnsC T pl n).1.length<=n/\(cnsC T pl n).2.length<=n:=by
 obtain⟨h1,h2⟩:=ziT (T:=T) W n hn
 have h1:=congrArg List.length h1
 have h2:=congrArg List.length h2
 simp only[List.length_map]at h1 h2
 have a1:=List.length_filter_le (λk=>isC (ix pl k).1) (List.range n)
 have a2:=List.length_filter_le (λk=>decide (zn (ix pl k)=7/\(ix pl k).1=59)) (List.range n)
 rw[List.length_range]at a1 a2
 omega
set_option maxHeartbeats 1000000 in
theorem zno(h:Gp w0 w tb o1 o2 ((cnsC T pl k).1.map (·.1)) ((cnsC T pl k).2.map (·.1)) (cnsC T pl k).1 (cnsC T pl k).2)(hT:IsTb w0 B tb T)(hTb:TbOk T)(hp:PlOk pl)(W:yq bd pl)(hk:k<pl.length)(h7:zn (ix pl k)=7)(ht:IsAg w t pl[k].2.2.2)
  (hL:∀id c,zy (cnsC T pl k).1 id=some c->c.2.length<=4096)
  (hR:∀w' o1' o2',Gp w0 w' tb o1' o2' ((cnsC T pl (k+1)).1.map (·.1)) ((cnsC T pl (k+1)).2.map (·.1)) (cnsC T pl (k+1)).1 (cnsC T pl (k+1)).2->R (.int .i64 (errC T (cnsC T pl k).1 pl k)) w') :
  cR 51 #[.pointer (some (blk (w0.heap.size+2))),inA (mkIn pl[k] t),.map (some (w0.heap.size+3))] w R:=by
 refine za.of (zdo _ (mkIn pl[k] t) _ R w ?_) λ_ _ h=>h
 have hix:=yn hk
 have eR:(ix pl k).2.2.1=pl[k].2.2.1:=by rw[hix]
 have eO:(ix pl k).1=pl[k].1:=by rw[hix]
 have eT:(ix pl k).2.1=pl[k].2.1:=by rw[hix]
 have hplen:=hp.len
 obtain⟨l1,l2⟩:=zoK W T (n:=k) (by omega)
 have hs0:=h.below.size
 refine zk λw1 hI1 b1 z1=>?_
 have hI1:Blk w1 w.heap.size 52 (inV (mkIn pl[k] t)):=hI1
 have ht1:IsAg w1 t pl[k].2.2.2:=IsC.below zE ht b1
 have g1:=h.on b1
 refine hI1.rI0 (x:=pl[k].1) rfl (zm (λe=>?_) (λe=>?_))
 ·
  have e59:(ix pl k).1=59:=by rw[eO];exact e
  have hE:errC T (cnsC T pl k).1 pl k=(varC T (cnsC T pl k).1 pl k).2:=by
   unfold errC
   rw[if_pos e59]
  rw[hE,zbF h7 e59]at hR
  dsimp only at hR
  rw[Yd,if_neg (zjE W hk e59)]at hR
  have hvl:1<=pl[k].2.2.2.length:=by
   have:=zmq W.shape hk e59
   rw[hix]at this
   omega
  refine Ins.load (x:=mkIn pl[k] t) hI1 (zli (g1.pq hT) hTb hk ht1 hvl λw2 v hv b2=>?_)
  have g2:=g1.on b2
  have hv2:VvOk (Al (w0.heap.size+4) o1 o2) w2 v (varC T (cnsC T pl k).1 pl k).1:=⟨hv.cl,hv.ty,hv.wd.mono λb q _=>by
   rcases q with q |q
   ·exact q
   ·exact g1.new q⟩
  refine⟨v,_,rfl,box3 rfl λw6 hX6 b6 z6=>?_⟩
  have b26:=b2.on b6
  have g6:=(g2.on b6).drew
  refine ze rfl (g6.pool.rS (n:=3) (x:=o2) rfl ((hI1.below b26).drew.rI (n:=2) (x:=pl[k].2.2.1) rfl ?_))
  refine zk λw7 hE7 b7 z7=>?_
  have hE7:Blk w7 w6.drew.heap.size 22 [.int .u32 pl[k].2.2.1]:=hE7
  have g7:=g6.on b7
  have hX7:=hX6.drew.below b7
  have hI7:=(hI1.below b26).drew.below b7
  have b67:=(Below.refl w6.heap.size w6).drew.on b7
  have hv7:=(hv2.wd.below b6).below b67
  have q1:=b1.size
  have q2:=b2.size
  have hsz:=h.sz
  refine⟨g7.pool.cell (n:=3) rfl,g7.push2 hE7 (by rw[List.length_map];omega) λr w9 g9 hkeep hwd hs9=>?_⟩
  have hX9:=hkeep _ _ _ (by decide) (by omega) hX7
  have hI9:=hkeep _ _ _ (by decide) (by omega) hI7
  have hv9:=hwd _ _ hv7
  refine ze rfl ⟨_,g9.drew.pool.cell (n:=4) rfl,hI9.drew.rI (n:=2) (x:=pl[k].2.2.1) rfl (Vv.load (v:=v) hX9.drew (g9.drew.setV ⟨hv2.cl,hv2.ty,hv9.below (Below.refl _ _).drew⟩ λw10 g10=>?_))⟩
  rw[<-eR]at g10
  exact hR w10 o1 r g10
 have e59:¬(ix pl k).1=59:=by rw[eO];exact e
 refine hI1.rI0 (x:=pl[k].1) rfl (zgs (β:=.raw) (zeQ .u16) uMk uU16 zMk g1.mks rfl ?_)
 rw[<-eO]
 generalize hv:(zT (α:=BK.raw.T) (mkL (w0.heap.size+2)) (ix pl k).1).getD Value.nilFunc=v
 have hv:(zT (α:=Value) (mkL (w0.heap.size+2)) (ix pl k).1).getD Value.nilFunc=v:=hv
 cases hc:isC (ix pl k).1 with
 |false=>
  have hE:errC T (cnsC T pl k).1 pl k=0:=by
   unfold errC
   rw[if_neg e59,ziJ hc]
  have hn:zT (mkL (w0.heap.size+2)) (ix pl k).1=none:=by
   rw[zlo]
   have:¬isC (ix pl k).1=true:=by rw[hc];simp
   rw[Za]at this
   rw[if_neg (by omega),if_neg (by omega),if_neg (by omega),if_neg (by omega)]
  rw[hn]at hv
  have hv:Value.nilFunc=v:=hv
  subst hv
  rw[hE,YW hc (λq=>e59 q.2)]at hR
  unfold zcG
  dsimp only
  exact ym rfl (hR w1 o1 o2 g1)
 |true=>
  obtain⟨p,hp'⟩:=Yf T (cnsC T pl k).1 hc
  have hE:errC T (cnsC T pl k).1 pl k=p.2:=by
   unfold errC
   rw[if_neg e59,hp']
  rw[hE,ZW hc hp']at hR
  dsimp only at hR
  rw[Yd,if_neg (ziU W hk hc)]at hR
  obtain⟨f,hf,hfn⟩:∃f,zT (mkL (w0.heap.size+2)) (ix pl k).1=some f/\∃a b c,f =.func a b c:=by
   rw[zlo]
   rw[Za]at hc
   split
   ·exact⟨_,rfl,_,_,_,rfl⟩
   split
   ·exact⟨_,rfl,_,_,_,rfl⟩
   split
   ·exact⟨_,rfl,_,_,_,rfl⟩
   split
   ·exact⟨_,rfl,_,_,_,rfl⟩
   ·omega
  rw[hf]at hv
  have hv:f=v:=hv
  subst hv
  obtain⟨fa,fb,fc,rfl⟩:=hfn
  unfold zcG
  dsimp only
  refine zC rfl (Ins.load (x:=mkIn pl[k] t) hI1 (zkR (g1.pq hT) hTb W.shape hk ht1 hL hp' hf λw2 s hwd b2=>?_))
  have g2:=(g1.on b2).drew
  have hwd2:WdOk (Al (w0.heap.size+4) o1 o2) w2 s p.1:=hwd.mono λb q _=>g1.new q
  refine⟨s,_,rfl,ze rfl (g2.pool.rS (n:=1) (x:=o1) rfl ((hI1.below b2).drew.rI (n:=2) (x:=pl[k].2.2.1) rfl ?_))⟩
  refine zk λw7 hE7 b7 z7=>?_
  have hE7:Blk w7 w2.drew.heap.size 22 [.int .u32 pl[k].2.2.1]:=hE7
  have g7:=g2.on b7
  have hI7:=(hI1.below b2).drew.below b7
  have b27:=(Below.refl w2.heap.size w2).drew.on b7
  have hv7:=hwd2.below b27
  have q1:=b1.size
  have q2:=b2.size
  have hsz:=h.sz
  refine⟨g7.pool.cell (n:=1) rfl,g7.push1 hE7 (by rw[List.length_map];omega) λr w9 g9 hkeep hwd hs9=>?_⟩
  have hI9:=hkeep _ _ _ (by decide) (by omega) hI7
  have hv9:=hwd _ _ hv7
  refine ze rfl ⟨_,g9.drew.pool.cell (n:=2) rfl,hI9.drew.rI (n:=2) (x:=pl[k].2.2.1) rfl (hI9.drew.rI (n:=1) (x:=pl[k].2.1) rfl (g9.drew.setC (ty:=pl[k].2.1) (hv9.below (Below.refl _ _).drew) λw10 g10=>?_))⟩
  rw[<-eR,<-eT]at g10
  exact hR w10 r o2 g10
end
end Go.Proofs
namespace Go.Proofs
open Go.Gk Go.RowKit Go.Gm
section
variable {w w':World} {B B' tb pb:Nat} {T:TyL} {C:CnL} {V:VnL} {pl:List PI}
theorem IsTb.mono(h:IsTb w B tb T)(hB:B'<=B):IsTb w B' tb T:=by
 obtain⟨⟨r,o,h1,⟨Vl,v1,v2⟩,h3⟩,h4⟩:=h
 exact⟨⟨r,o,h1,⟨⟨Vl,v1,allR (λa c q=>⟨q.1,q.2.mono hB⟩) v2⟩,Nat.le_trans hB h3⟩⟩,Nat.le_trans hB h4⟩
structure IsPo (w:World) (B pb:Nat) (T:TyL) (C:CnL) (V:VnL):Prop where
 ex:∃(tb rc rv:Nat) (o1 o2:Sl),Blk w pb 80 [.pointer (some (Gk.blk tb)),.slice o1.a o1.l o1.c,.map (some rc),.slice o2.a o2.l o2.c,.map (some rv)]/\IsTb w B tb T/\IsCn w (λb=>B<=b) rc C/\IsVn w (λb=>B<=b) rv V/\
  IsS (Value.int .u32) w o1 (C.map (·.1))/\IsS (Value.int .u32) w o2 (V.map (·.1))/\zS B o1/\zS B o2/\B<=rc/\B<=rv
 lo:B<=pb
theorem IsPo.keep(h:IsPo w B pb T C V)(hb:∀k,B<=k->k<w.heap.size->w'.heap[k]? =w.heap[k]?)(hs:w.heap.size<=w'.heap.size):IsPo w' B pb T C V:=by
 obtain⟨⟨tb,rc,rv,o1,o2,h1,h2,h3,h4,h5,h6,h7,h8,h9,h10⟩,h11⟩:=h
 exact⟨⟨tb,rc,rv,o1,o2,h1.of_block (hb pb h11 h1.lt),h2.keep hb,h3.keep (hb rc h9 h3.lt) (λb q1 q2=>⟨hb b q1 q2,q1⟩) hs,h4.keep (hb rv h10 h4.lt) (λb q1 q2=>⟨hb b q1 q2,q1⟩) hs,
  h5.of_block λa ha hlt=>hb _ (h7 a ha) hlt,h6.of_block λa ha hlt=>hb _ (h8 a ha) hlt,h7,h8,h9,h10⟩,h11⟩
theorem IsPo.below(h:IsPo w B pb T C V)(hb:Below w.heap.size w w'):IsPo w' B pb T C V:=h.keep (λk _ h2=>hb.block k h2) hb.size
theorem zhw(T:TyL){n:Nat}:∀m,n<=m->(∀k,n<=k->k<m->zn (ix pl k)≠7)->cnsC T pl m=cnsC T pl n
 | 0,h,_=>by
         have:n=0:=by omega
         subst this
         rfl
 |m+1,h,hk=>by
  by_cases e:n=m+1
  ·subst e;rfl
  ·have ih:=zhw T m (by omega) λk h1 h2=>hk k h1 (by omega)
   show(if zn (ix pl m)=7 then _ else cnsC T pl m)=_
   rw[if_neg (hk m (by omega) (by omega)),ih]
theorem zj6{T:TyL}{k:Nat}(h:zn (ix pl k)≠7):badC T pl k=0:=if_neg h
end
section
variable {x:Mo} {pl:List PI} {w:World} {R:VWP}
set_option maxHeartbeats 4000000 in
theorem zgc(hN:IsPl w x.2.2.1 pl)(hp:PlOk pl)(h0:0<=x.2.1)(ht:Tab w)
  (hBad:(conE x.2.1 pl).1≠0->∀w',Below w.heap.size w w'->R (.tuple #[.pointer none,.agg #[.int .i64 (conE x.2.1 pl).1,.int .i64 (conE x.2.1 pl).2]]) w')
  (hOk:CnOk x.2.1 pl->∀w' pb,Below w.heap.size w w'->IsPo w' w.heap.size pb (tyL pl) (cnL pl) (vnL pl)->R (.tuple #[.pointer (some (blk pb)),.agg #[.int .i64 0,.int .i64 0]]) w') :
  cR 27 #[moA x] w R:=by
 refine za.of (zgh x R w ?_) λ_ _ h=>h
 refine zk λw1 hB1 b1 z1=>?_
 have hB1:Blk w1 w.heap.size 25 (moV x):=hB1
 refine zk λw2 hS2 b2 z2=>?_
 have hS2:Blk w2 w1.heap.size 56 [.int .i64 0,.int .i64 0]:=hS2
 have b02:=b1.on b2
 have out:∀{w':World} {p:Option Addr} {e a:Int},Blk w' w1.heap.size 56 [.int .i64 0,.int .i64 0]->Below w.heap.size w w'->(∀w'',Chg w1.heap.size w' w''->Below w.heap.size w w''->R (.tuple #[.pointer p,.agg #[.int .i64 e,.int .i64 a]]) w'')->
   Wr w' (blk w1.heap.size)/\Nw (w'.setCell (blk w1.heap.size) (.int .i64 e)) λw8=>Wr w8 ((blk w1.heap.size).add 1)/\Nw (w8.setCell ((blk w1.heap.size).add 1) (.int .i64 a)) λw9=>ldI w9 ((blk w1.heap.size).add 0) .i64 λx9=>ldI w9 ((blk w1.heap.size).add 1) .i64 λx10=>
    R (.tuple #[.pointer p,.agg #[.int .i64 x9,.int .i64 x10]]) w9:=λ{w' p e a} hS hb hR=>
  st2 hS rfl λw9 hS9 c9=>Sp.load hS9 (hR w9 c9 (c9.below hb (by omega)))
 have sz1:=b1.size
 refine Mo.load (hB1.below b2) (zlB (x:=x) (hN.below b02) hp h0 (ht.below b02) (λhc w3 b3=>?_) (λhTy w3 tb b3 hT=>?_))
 ·have he:=zn5 hc
  refine⟨none,((typE x.2.1 pl).1,(typE x.2.1 pl).2,()),rfl,box2 rfl λw6 h6 b6 z6=>h6.rI0 rfl (zz (λ_=>?_) (λq=>absurd q hc))⟩
  have b26:=b3.on b6
  refine Sp.load h6.drew (out (hS2.below b26).drew (b02.on b26).drew λw' _ hb=>?_)
  have:=hBad (by rw[he];exact hc) w' hb
  rwa[he]at this
 refine⟨some (blk tb),(0,0,()),rfl,box2 rfl λw6 h6 b6 z6=>h6.rI0 rfl (zz (λq=>absurd rfl q) (λ_=>?_))⟩
 have b26:=b3.on b6
 have b06:=b02.on b26
 have hc:(yk x.2.1 pl).1=0:=hTy.chk
 have hty:(typE x.2.1 pl).1=0:=by rw[zfS hTy.chk hTy.no]
 have W:=yq.of hp h0 hc
 have hs:=W.shape
 have hTb:TbOk (tyL pl):=hTy.tb hp h0 (Nat.le_refl _)
 have hlay:(layP x.2.1 pl).1=0:=(zlP hc).2.1
 refine Mo.load ((hB1.below b2).below b26) (zhl (x:=x) (hN.below b06) hp λy w9 b9 hy=>⟨y,((layP x.2.1 pl).1,((layP x.2.1 pl).2:Int),()),rfl,?_⟩)
 obtain⟨hPt,_⟩:=hy hlay
 have b09:=b06.on b9
 refine zk λw10 hP10 b10 z10=>?_
 refine zk λw11 hQ11 b11 z11=>?_
 refine st20 (x:=y) (hP10.below b11) (by simp) λw31 hP31 c31=>?_
 have lt9:w9.heap.size<w11.heap.size:=by have:=b11.size;omega
 refine st2 (c31.blk hQ11 (by omega)) rfl λw33 hQ33 c33=>?_
 have b911:=b10.on b11
 have b933:Below w9.heap.size w9 w33:=c33.below (c31.below b911 (Nat.le_refl _)) (by omega)
 have b033:=b09.on b933
 have hP33:Blk w33 w9.heap.size 100 (sp20 y):=c33.blk hP31 (by omega)
 have b633:=b9.on b933
 have hT33:=(hT.below b6).below b633
 have hB33:=((hB1.below b2).below b26).below b633
 have hS33:=(hS2.below b26).below b633
 refine Nw.gen λw34 e34=>?_
 have z34:w34.heap.size=w33.heap.size+1:=by rw[e34];simp
 have b34:Below w33.heap.size w33 w34:=by rw[e34];exact(Below.refl _ _).alloc (Nat.le_refl _) _
 have hc34:IsMq w34 w33.heap.size (aggQ cvK) ([]:List (Int×Cv)):=by rw[e34];exact IsMq.new w33 _
 refine Nw.gen λw35 e35=>?_
 have z35:w35.heap.size=w34.heap.size+1:=by rw[e35];simp
 have b35:Below w34.heap.size w34 w35:=by rw[e35];exact(Below.refl _ _).alloc (Nat.le_refl _) _
 have hv35:IsMq w35 w34.heap.size (aggQ vvK) ([]:List (Int×Vv)):=by rw[e35];exact IsMq.new w34 _
 refine zk λw36 hK36 b36 z36=>?_
 have hK36:Blk w36 w35.heap.size 80 [.pointer (some (blk tb)),.slice none 0 0,.map (some w33.heap.size),.slice none 0 0,.map (some w34.heap.size)]:=hK36
 refine ziQ λw37 hM37 b37=>⟨some w36.heap.size,rfl,?_⟩
 have q34:w34.heap.size=w33.heap.size+1:=by omega
 have q35:w35.heap.size=w33.heap.size+2:=by omega
 have q36:w36.heap.size=w33.heap.size+3:=by omega
 rw[q34,q35]at hK36
 rw[q34]at hv35
 rw[q35,q36]at hM37
 dsimp only[zB,Go.Gk.Sl.zw,zi,zu,zb,zh];rw[q35,q36]
 have b3637:=b36.on b37
 have b3337:=(b34.on b35).on b3637
 have start:Gp w33 w37 tb ⟨none,0,0⟩ ⟨none,0,0⟩ [] [] [] []:=
  ⟨b3337,by have:=hM37.lt;omega,hK36.below b37,Own.nil _ _ _,Own.nil _ _ _,zhB _,zhB _,λb h=>(by cases h),⟨[],hc34.below (b35.on b3637),.nil⟩,⟨[],hv35.below b3637,.nil⟩,hM37⟩
 have P:=hPt 7 (by decide)
 generalize ha:(l20 y).getD (2*7) 0=a at P
 generalize hb:(l20 y).getD (2*7+1) 0=b at P
 obtain⟨P1,P2,P3,P4⟩:=P
 obtain⟨a,rfl⟩:=Int.eq_ofNat_of_zero_le P1
 obtain⟨b,rfl⟩:=Int.eq_ofNat_of_zero_le (Int.le_trans P1 P2)
 have hP37:=hP33.below b3337
 have b037:=b033.on b3337
 have hplen:=hp.len
 refine⟨by decide,hP37.rI (n:=14) (x:=(a:Int)) (by rw[<-ha];rfl) ?_⟩
 have hcn0:cnsC (tyL pl) pl a=([],[]):=zhw (n:=0) (tyL pl) a (Nat.zero_le _) λk _ hk=>λe=>by
  have:=(P4 k (by omega)).2 e
  omega
 have hend:cnsC (tyL pl) pl pl.length=cnsC (tyL pl) pl b:=zhw (tyL pl) pl.length (by omega) λk hk1 hk2=>λe=>by
  have:=(P4 k (by omega)).2 e
  omega
 refine zl.ghost (λm (st:Int×Unit) w'=>∃(n:Nat) (o1 o2:Sl),st=((n:Int),())/\a<=n/\n<=b/\m=b-n/\Gp w33 w' tb o1 o2 ((cnsC (tyL pl) pl n).1.map (·.1)) ((cnsC (tyL pl) pl n).2.map (·.1)) (cnsC (tyL pl) pl n).1 (cnsC (tyL pl) pl n).2/\∀k,k<n->badC (tyL pl) pl k=0) (b-a)
  ⟨a,⟨none,0,0⟩,⟨none,0,0⟩,rfl,Nat.le_refl _,by omega,rfl,by rw[hcn0];exact start,λk hk=>zj6 λe=>by have:=(P4 k (by omega)).2 e;omega⟩ ?_
 rintro _ _ w38 ⟨n,o1,o2,rfl,hn1,hn2,rfl,G,hno⟩ next hnext
 have hS38:=hS33.below G.below
 have hB38:=hB33.below G.below
 have b038:=b033.on G.below
 have lt1:w1.heap.size<w33.heap.size:=hS33.lt
 refine⟨by decide,?_⟩
 rw[zD]
 refine(hP33.below G.below).rI (n:=15) (x:=(b:Int)) (by rw[<-hb];rfl) (zg (λg=>?_) (λg=>?_))
 rotate_left
 ·
  have hne:n=b:=by dsimp only at g;omega
  subst hne
  refine out hS38 b038 λw' c hbw=>?_
  have hCn:CnOk x.2.1 pl:=⟨hTy,λk hk=>by
   by_cases e:k<n
   ·exact hno k e
   ·exact zj6 λe2=>by have:=(P4 k hk).2 e2;omega⟩
  refine hOk hCn w' _ hbw ?_
  have s0:=b033.size
  have cb:∀k,w33.heap.size<=k->w'.heap[k]? =w38.heap[k]?:=λk hk=>c.block _ (by omega)
  have hsz:=c.size
  have e1:cnL pl=(cnsC (tyL pl) pl n).1:=congrArg Prod.fst hend
  have e2:vnL pl=(cnsC (tyL pl) pl n).2:=congrArg Prod.snd hend
  rw[e1,e2]
  have hTe:=hT33.below G.below
  have s2:=b02.size
  refine⟨⟨tb,w33.heap.size,w33.heap.size+1,o1,o2,G.pool.of_block (cb _ (by omega)),(hTe.keep λk h1 h2=>c.block _ (by omega)).mono s2,G.cn.keep (cb _ (by omega)) (λk h1 h2=>⟨cb _ (by have:=h1.1;omega),by have:=h1.1;show w.heap.size<=k;omega⟩) (by omega),G.vn.keep (cb _ (by omega)) (λk h1 h2=>⟨cb _ (by have:=h1.1;omega),by have:=h1.1;show w.heap.size<=k;omega⟩) (by omega),?_,?_,λq hq=>?_,λq hq=>?_,by omega,by omega⟩,by omega⟩
  ·exact G.own1.isS.of_block λq hq _=>cb _ (by have:=G.fr1 q hq;omega)
  ·exact G.own2.isS.of_block λq hq _=>cb _ (by have:=G.fr2 q hq;omega)
  ·have:=G.fr1 q hq
   omega
  ·have:=G.fr2 q hq
   omega
 ·have hnb:n<b:=by dsimp only at g;omega
  have hnl:n<pl.length:=by omega
  have h7:zn (ix pl n)=7:=(P4 n hnl).1 ⟨by omega,by omega⟩
  refine hB38.rS (n:=2) (x:=x.2.2.1) rfl (zlT hN b038 hnl λt hI0=>?_)
  have hA:IsAg w38 t pl[n].2.2.2:=IsC.below zE hI0 b038
  refine zno G hT33 hTb hp W hnl h7 hA (λid c hc=>by
   have:=zjD hTy hp h0 (Nat.le_of_lt hnl) hno hc
   rw[this]
   exact zgy hTb _) λw39 o1' o2' G39=>⟨_,rfl,?_⟩
  have hbad:badC (tyL pl) pl n=errC (tyL pl) (cnsC (tyL pl) pl n).1 pl n:=by
   unfold badC
   rw[if_pos h7]
  rw[<-hbad]
  refine zz (λhe=>?_) (λhe=>?_)
  ·have hE:=zoN hty hnl he hno
   refine out (hS33.below G39.below) (b033.on G39.below) λw' _ hbw=>?_
   have:=hBad (by rw[hE];exact he) w' hbw
   rwa[hE]at this
  ·dsimp only
   rw[zA (by omega)]
   refine hnext (b-(n+1)) _ w39 (by omega) ⟨n+1,o1',o2',rfl,by omega,by omega,rfl,G39,λk hk=>?_⟩
   by_cases e:k=n
   ·subst e;exact he
   ·exact hno k (by omega)
end
end Go.Proofs
namespace Go.Proofs
open Go.Gk Go.RowKit Go.Gm
theorem zmy{B:Nat}{w w':World}(h:Below B w w'){g:Nat}(hg:B<=g)(cs:Array Value):Below B w (w'.setRow g cs):=
 ⟨h.os,h.tape,h.output,by simpa[World.setRow] using h.size,λk hk=>(setRow_other w' g k cs (by omega)).trans (h.block k hk)⟩
theorem zm1{w:World}{b:Nat}{s:Sl}{l:List Int}{cs:List Value}(hD:Blk w b 22 cs)(hcs:cs.length=l.length)(hs:IsS (Value.int .u32) w s l)
  {k:Int->World->Prop} (hk:∀w',Blk w' b 22 (l.map (Value.int .u32))->(∀B w0,Below B w0 w->B<=b->Below B w0 w')->k (l.length:Int) w') :
  zpu Tryz.prog #[30,30] (.slice (some (Gk.blk b)) l.length l.length) (.slice s.a s.l s.c) w k:=by
 have hun:(Tryz.prog).underlying 30=some (.slice 22):=by kernel_rfl
 have hsz:((Tryz.prog).info? 22).map (·.size)=some 1:=by kernel_rfl
 obtain⟨sa,sl,sc⟩:=s
 have hl1:sl=l.length:=hs.len
 cases sa with
 |none=>
  have hc:sc=0:=hs.nil rfl
  have h2:sl<=sc:=hs.cap
  have h0:sl=0:=by omega
  subst h0
  have hnil:l=[]:=List.eq_nil_of_length_eq_zero hl1.symm
  subst hnil
  have hcs:cs=[]:=List.eq_nil_of_length_eq_zero hcs
  subst hcs
  obtain⟨i,hi,hi1⟩:∃i,(Tryz.prog).info? 22=some i/\i.size=1:=by
   cases hq:(Tryz.prog).info? 22 with
   |none=>rw[hq]at hsz;cases hsz
   |some i=>rw[hq]at hsz;exact⟨i,rfl,by injection hsz⟩
  refine⟨0,w,?_,hk w hD λB w0 h _=>h⟩
  simp[Builtin.copy_,run_underlying hun,sizeOf,typeInfo,hi,Builtin.lenOf,Builtin.firstCells,storeCells,goInt]
 |some a=>
  have hn:(l.map (Value.int .u32)).length=Nat.min sl l.length:=by rw[List.length_map,hl1];exact(Nat.min_self _).symm
  have hc:=run_copy_row (P:=Tryz.prog) w 30 30 0 22 b 0 l.length l.length a sl sc cs.toArray 22 (l.map (Value.int .u32)) hun hsz hD hn (λj v hj=>by
   have hjl:j<l.length:=by have:=(List.getElem?_eq_some_iff.1 hj).1;rwa[List.length_map]at this
   rw[List.getElem?_map,List.getElem?_eq_getElem hjl]at hj
   cases hj
   exact hs.cell a rfl j hjl) (by simp[hcs]) (λv hv=>by obtain⟨x,_,rfl⟩:=List.mem_map.1 hv;rfl)
  have e:(cs.toArray.toList.take 0++l.map (Value.int .u32)++cs.toArray.toList.drop (0+(l.map (Value.int .u32)).length))=l.map (Value.int .u32):=by
   simp[hcs]
  rw[e]at hc
  have e2:((l.map (Value.int .u32)).length:Int)=(l.length:Int):=by rw[List.length_map]
  refine⟨_,_,hc,?_⟩
  rw[e2]
  refine hk _ ?_ λB w0 hb hB=>zmy hb hB _
  exact setRow_heap w b _ _ _ _ hD
section
variable {w w':World} {B pb:Nat} {T:TyL} {C:CnL} {V:VnL} {R:VWP}
theorem zg8{s:Sl}{l:List Int}(hs:IsS (Value.int .u32) w s l)(hl:l.length<=4398046511104)(hR:∀w' b,w.heap.size<=b->Blk w' b 22 (l.map (Value.int .u32))->Below w.heap.size w w'->R (.slice (some (blk b)) l.length l.length) w') :
  cR 35 #[.slice s.a s.l s.c] w R:=by
 refine za.of (zel s R w ?_) λ_ _ h=>h
 have hsl:=hs.len
 unfold YZ
 dsimp only[zB,Go.Gk.Sl.zw,zi,zu,zb,zh]
 rw[hsl]
 refine⟨⟨by omega,by omega,by omega,by omega⟩,Nw.gen λw1 e1=>?_⟩
 have h1:Blk w1 w.heap.size 22 (List.replicate l.length (.int .u32 0)):=by rw[e1];exact Blk.made w _ _ l.length
 have b1:Below w.heap.size w w1:=by rw[e1];exact(Below.refl _ _).alloc (Nat.le_refl _) _
 have:=zm1 h1 (by rw[List.length_replicate]) (hs.below b1) (k:=λ_ w2=>R (.slice (some (blk w.heap.size)) l.length l.length) w2) λw2 h2 hb=>hR w2 w.heap.size (Nat.le_refl _) h2 (hb _ _ b1 (Nat.le_refl _))
 rw[hsl]at this
 exact this
theorem zgb(h:IsPo w B pb T C V)(hl:C.length<=4398046511104)(hR:∀w' b,w.heap.size<=b->Blk w' b 22 ((C.map (·.1)).map (Value.int .u32))->Below w.heap.size w w'->R (.slice (some (blk b)) C.length C.length) w') :
  cR 18 #[.pointer (some (blk pb))] w R:=by
 refine za.of (zdn _ R w ?_) λ_ _ h=>h
 obtain⟨⟨tb,rc,rv,o1,o2,h1,h2,h3,h4,h5,h6,_⟩,_⟩:=h
 refine zC rfl (ze rfl ⟨o1,h1.cell (n:=1) rfl,zg8 h5 (by rw[List.length_map];exact hl) λw' b hb hB hbl=>⟨⟨some (Gk.blk b),_,_⟩,rfl,?_⟩⟩)
 have:=hR w' b hb hB hbl
 rw[List.length_map]
 exact this
abbrev cnA(C:CnL)(id:Int):Cn:=(zy C id).getD (0,[])
theorem zg7{id:Int}(h:IsPo w B pb T C V)(hl:(cnA C id).2.length<=4398046511104)(hR:∀w' b,w.heap.size<=b->Blk w' b 22 ((cnA C id).2.map (Value.int .u32))->Below w.heap.size w w'->R (.tuple #[.int .u32 (cnA C id).1,.slice (some (blk b)) (cnA C id).2.length (cnA C id).2.length,.bool (zy C id).isSome]) w') :
  cR 12 #[.pointer (some (blk pb)),.int .u32 id] w R:=by
 refine za.of (zcg _ id R w ?_) λ_ _ h=>h
 obtain⟨⟨tb,rc,rv,o1,o2,h1,h2,h3,_⟩,_⟩:=h
 refine zC rfl (ze rfl ⟨_,h1.cell (n:=2) rfl,h3.lookOk λv hv=>?_⟩)
 refine box2 rfl λw1 hB1 b1 z1=>hB1.drew.rI0 rfl (hB1.drew.rS (n:=1) (x:=v.2.1) rfl ?_)
 have b1d:=b1.drew
 refine zg8 ((hv.wd.is.below b1).below (Below.refl _ _).drew) hl λw4 b hb hB4 b4=>⟨⟨some (Gk.blk b),_,_⟩,rfl,(hB1.drew.below b4).cell0 rfl,?_⟩
 have hty:v.1=(cnA C id).1:=hv.ty
 rw[hty]
 exact hR w4 b (Nat.le_trans b1.size hb) hB4 (b1d.on b4)
end
end Go.Proofs
namespace Go.Proofs
open Go.Gk Go.RowKit Go.Gm
end Go.Proofs
namespace Go.Proofs
open Go.Gk
set_option linter.unusedVariables false
set_option maxRecDepth 100000
def Zi:Ann:=(.q (.q (.q (.seq (some ⟨[1,2,5,6,8],[]⟩) (.q (.cond (.q .nil) .nil)) (.seq none (.q (.cond (.q .nil) .nil)) (.q (.q (.seq none (.q (.cond (.q .nil) .nil)) (.seq none (.q (.cond (.q .nil) .nil)) (.q (.q (.seq none (.q (.cond (.q .nil) .nil)) (.seq none (.q (.one (.loop ⟨[1,7,9,11,12],[(13,(.b (.int .i64)))]⟩ (.seq none (.q .c) (.seq (some ⟨[1,7,9,11,12,13],[]⟩) (.one (.q (.q (.q (.cond (.q .nil) .nil))))) .nil))))) (.q .nil))))))))))))))
def Zf(p0:(Int×Int×Sl×Unit))(p1:Sl)(R:VWP)(w:World):Prop:=Nw (w.alloc (.cells #[zu p0.1,zu p0.2.1,p0.2.2.1.zw] 25)) λw1=>dc w1 (zB w) λx1 x2 x3=>dX 26 #[.agg #[zu x1,zu x2,x3.zw]] w1 λx5 w2=>df 23 #[p1.zw] w2 λx7 w3=>dY 25 #[.agg #[zu x5.1,zu x5.2.1,x5.2.2.1.zw],x7.zw] w3 λx9 x10 w4=>Nw (w4.alloc (.cells #[zu 0,zu 0,.slice none 0 0] 25)) λw5=>Nw (w5.alloc (.cells #[zi 0,zi 0] 56)) λw6=>de w6 (zB w4) (zu x9.1) (zu x9.2.1) (x9.2.2.1.zw) λw9=>di w9 (zB w5) (zi x10.1) (zi x10.2.1) λw11=>dX 28 #[] w11 λx12 w12=>dJ 27 #[.agg #[zu x12.1,zu x12.2.1,x12.2.2.1.zw]] w12 λx14 x15 w13=>dj w13 #[zi 0,zi 0] 56 (zi x15.1) (zi x15.2.1) λw16=>zj (S:=Unit) (λm16=>ldI w16 (zB w13) .i64 λx18=>ifB (x18 !=0) (R (.bool false) w16) (df 18 #[.pointer x14] w16 λx20 w17=>ifB ((x20.l:Int) !=1) (R (.bool false) w17) (m16 () w17))) (λs17 w18=>ldI w18 (zB w5) .i64 λx21=>ifB (x21 !=0) (R (.bool true) w18) (dc w18 (zB w) λx22 x23 x24=>dX 26 #[.agg #[zu x22,zu x23,x24.zw]] w18 λx26 w19=>dJ 27 #[.agg #[zu x26.1,zu x26.2.1,x26.2.2.1.zw]] w19 λx28 x29 w20=>di w20 (zB w13) (zi x29.1) (zi x29.2.1) λw22=>dc w22 (zB w4) λx30 x31 x32=>dJ 27 #[.agg #[zu x30,zu x31,x32.zw]] w22 λx34 x35 w23=>dj w23 #[zi 0,zi 0] 56 (zi x35.1) (zi x35.2.1) λw26=>dg w26 (zB w13) λx36 x37=>dg w26 (zB w23) λx38 x39=>ifB (!(x36==x38&&(x37==x39&&true))) (R (.bool false) w26) (ldI w26 (zB w13) .i64 λx40=>ifB (x40 !=0) (R (.bool true) w26) (df 18 #[.pointer x28] w26 λx42 w27=>df 18 #[.pointer x34] w27 λx44 w28=>ifB ((x42.l:Int) !=(x44.l:Int)) (R (.bool false) w28) (zl (S:=Int×Unit) (λs45 w29 n46=>ifB (decide (s45.1<(x42.l:Int))) (zj (S:=Unit) (λm47=>(0<=s45.1/\s45.1<(x42.l:Int))/\zc x42.a λa49=>ldI w29 (a49.add s45.1.toNat) .u32 λx50=>dZ 12 #[.pointer x28,zu x50] w29 λx52 x53 x54 w30=>(0<=s45.1/\s45.1<(x44.l:Int))/\zc x44.a λa55=>ldI w30 (a55.add s45.1.toNat) .u32 λx56=>dZ 12 #[.pointer x34,zu x56] w30 λx58 x59 x60 w31=>(0<=s45.1/\s45.1<(x42.l:Int))/\zc x42.a λa61=>ldI w31.drew (a61.add s45.1.toNat) .u32 λx62=>(0<=x62/\x62<(p1.l:Int))/\zc p1.a λa63=>ldI w31.drew (a63.add x62.toNat) .u32 λx64=>(0<=s45.1/\s45.1<(x44.l:Int))/\zc x44.a λa65=>ldI w31.drew (a65.add s45.1.toNat) .u32 λx66=>ifB (x64 !=x66) (R (.bool false) w31.drew) ((0<=x52/\x52<(p1.l:Int))/\zc p1.a λa67=>ldI w31.drew (a67.add x52.toNat) .u32 λx68=>ifB (x68 !=x58) (R (.bool false) w31.drew) (dL 13 #[x53.zw,x59.zw] w31.drew λx70 w32=>ifB (!x70) (R (.bool false) w32) (m47 () w32)))) (λs48 w33=>n46 ((IntKind.i64.wrap (s45.1+(1:Int))),()) w33)) (R (.bool true) w29)) (0,()) w28)))))
theorem Yg(p0)(p1)(R)(w)(h:Zf p0 p1 R w):Calls Tryz.prog 8 #[.agg #[.int .u32 p0.1,.int .u32 p0.2.1,.slice p0.2.2.1.a p0.2.2.1.l p0.2.2.1.c],.slice p1.a p1.l p1.c] w (Ret R):=lwC Zi Tryz.func8 (by kernel_rfl) (by kernel_rfl) h
def zbd:Ann:=(.q (.q .nil))
def zaW(p0:Int)(R:VWP)(w:World):Prop:=Nw (w.alloc (.cells #[zb 0,zu 0,.string (BM #[])] 48)) λw1=>de w1 (zB w) (zb 4) (zu p0) (.string (BM #[])) λw4=>db w4 (zB w) λx1 x2 x3=>R (.agg #[zb x1,zu x2,.string x3]) w4
theorem zcI(p0)(R)(w)(h:zaW p0 R w):Calls Tryz.prog 24 #[.int .u32 p0] w (Ret R):=lwC zbd Tryz.func24 (by kernel_rfl) (by kernel_rfl) h
def Y5:Ann:=(.q (.q .nil))
def Y0  (R:VWP) (w:World):Prop:=Nw (w.alloc (.cells #[zu 0,zu 0,.slice none 0 0] 25)) λw1=>dx51 24 #[zu 0] w1 λx2 w2=>dx51 24 #[zu 0] w2 λx4 w3=>Nw (w3.alloc (.cells #[zb x2.1,zu x2.2.1,.string x2.2.2.1,zb x4.1,zu x4.2.1,.string x4.2.2.1] 48)) λw4=>dx51 52 #[zu 32] w4 λx6 w5=>dx51 52 #[zu 0] w5 λx8 w6=>Nw (w6.alloc (.cells #[zb x6.1,zu x6.2.1,.string x6.2.2.1,zb x8.1,zu x8.2.1,.string x8.2.2.1] 48)) λw7=>dx51 52 #[zu 7] w7 λx10 w8=>Nw (w8.alloc (.cells #[zb x10.1,zu x10.2.1,.string x10.2.2.1] 48)) λw9=>Nw (w9.alloc (.cells #[zh 14,zu 0,zu 0,.slice (some (zB w3)) 2 2,zh 21,zu 0,zu 1,.slice (some (zB w6)) 2 2,zh 43,zu 1,zu 2,.slice (some (zB w8)) 1 1] 52)) λw10=>de w10 (zB w) (zu 0) (zu 3) (.slice (some (zB w9)) 3 3) λw13=>dc w13 (zB w) λx11 x12 x13=>R (.agg #[zu x11,zu x12,x13.zw]) w13
theorem zbu(R)(w)(h:Y0  R w):Calls Tryz.prog 28 #[] w (Ret R):=lwC Y5 Tryz.func28 (by kernel_rfl) (by kernel_rfl) h
def YR:Ann:=(.q (.q .nil))
def YL(p0:Int)(R:VWP)(w:World):Prop:=Nw (w.alloc (.cells #[zb 0,zu 0,.string (BM #[])] 48)) λw1=>de w1 (zB w) (zb 2) (zu p0) (.string (BM #[])) λw4=>db w4 (zB w) λx1 x2 x3=>R (.agg #[zb x1,zu x2,.string x3]) w4
theorem zbQ(p0)(R)(w)(h:YL p0 R w):Calls Tryz.prog 52 #[.int .u32 p0] w (Ret R):=lwC YR Tryz.func52 (by kernel_rfl) (by kernel_rfl) h
end Go.Proofs
namespace Go.Proofs
open Go.Gk Go.RowKit Go.Gm
def lsP:List PI:=[(14,0,0,[(4,0,bs []),(4,0,bs [])]),(21,0,1,[(2,32,bs []),(2,0,bs [])]),(43,1,2,[(2,7,bs [])])]
theorem zpC:yk 3 lsP=(0,0):=by decide +kernel
theorem zqb:PlOk lsP:=by
 refine⟨by show 40*3<=_;decide,λp hp=>?_,λp hp y hy=>?_,λp hp=>?_⟩
 ·simp only[lsP,List.mem_cons,List.not_mem_nil,or_false]at hp
  rcases hp with rfl |rfl |rfl<;>decide
 ·have:y.2.2=bs []:=by
   simp only[lsP,List.mem_cons,List.not_mem_nil,or_false]at hp
   rcases hp with rfl |rfl |rfl<;>simp only[List.mem_cons,List.not_mem_nil,or_false]at hy<;>first | (rcases hy with rfl |rfl<;>rfl) | (subst hy;rfl)
  rw[this]
  decide
 ·simp only[lsP,List.mem_cons,List.not_mem_nil,or_false]at hp
  rcases hp with rfl |rfl |rfl<;>decide
theorem zpE:(typE 3 lsP).1=0:=by
 rw[zfS]
 ·rw[zpC]
 ·exact(by decide +kernel:∀k,k<3->errT (tysT lsP k) lsP k=0)
theorem zpD:conE 3 lsP=(0,0):=by
 exact ziV zpE (by decide +kernel:∀k,k<3->badC (tyL lsP) lsP k=0)
theorem zqa:cnL lsP=[(2,1,[7])]:=by kernel_rfl
section
variable {w:World} {R:VWP}
theorem zhs{n:Int}(hR:∀w',Below w.heap.size w w'->R (.agg #[.int .u8 4,.int .u32 n,.string (bs [])]) w'):cR 24 #[.int .u32 n] w R:=by
 refine za.of (zcI n R w ?_) λ_ _ h=>h
 refine box3 rfl λw4 h4 b4 z4=>?_
 exact h4.rI (n:=0) (x:=4) rfl (h4.rI (n:=1) (x:=n) rfl (h4.rT (n:=2) (x:=bs []) rfl (hR w4 b4)))
theorem zgd{n:Int}(hR:∀w',Below w.heap.size w w'->R (.agg #[.int .u8 2,.int .u32 n,.string (bs [])]) w'):cR 52 #[.int .u32 n] w R:=by
 refine za.of (zbQ n R w ?_) λ_ _ h=>h
 refine box3 rfl λw4 h4 b4 z4=>?_
 exact h4.rI (n:=0) (x:=2) rfl (h4.rI (n:=1) (x:=n) rfl (h4.rT (n:=2) (x:=bs []) rfl (hR w4 b4)))
theorem zj9(hR:∀w' s,IsPl w' s lsP->Below w.heap.size w w'->R (moA (0,3,s,())) w'):cR 28 #[] w R:=by
 refine za.of (zbu R w ?_) λ_ _ h=>h
 refine zk λw1 hM1 b1 z1=>?_
 have hM1:Blk w1 w.heap.size 25 (moV (0,0,⟨none,0,0⟩,())):=hM1
 refine zhs λw2 b2=>⟨(4,0,bs [],()),rfl,zhs λw3 b3=>⟨(4,0,bs [],()),rfl,zk λw4 hA4 b4 z4=>?_⟩⟩
 have hA4:Blk w4 w3.heap.size 48 (flat agV [(4,0,bs []),(4,0,bs [])]):=hA4
 refine zgd λw5 b5=>⟨(2,32,bs [],()),rfl,zgd λw6 b6=>⟨(2,0,bs [],()),rfl,zk λw7 hA7 b7 z7=>?_⟩⟩
 have hA7:Blk w7 w6.heap.size 48 (flat agV [(2,32,bs []),(2,0,bs [])]):=hA7
 refine zgd λw8 b8=>⟨(2,7,bs [],()),rfl,zk λw9 hA9 b9 z9=>zk λw10 hI10 b10 z10=>?_⟩
 have hA9:Blk w9 w8.heap.size 48 (flat agV [(2,7,bs [])]):=hA9
 have hI10:Blk w10 w9.heap.size 52 (flat inV [(14,0,0,⟨some (blk w3.heap.size),2,2⟩,()),(21,0,1,⟨some (blk w6.heap.size),2,2⟩,()),(43,1,2,⟨some (blk w8.heap.size),1,1⟩,())]):=hI10
 have s1:=b1.size;have s2:=b2.size;have s3:=b3.size;have s4:=b4.size;have s5:=b5.size;have s6:=b6.size;have s7:=b7.size;have s8:=b8.size;have s9:=b9.size
 have b810:=b9.on b10
 have b610:=(b7.on b8).on b810
 have b310:=((b4.on b5).on b6).on b610
 have b110:=(b2.on b3).on b310
 refine st3 (hM1.below b110) rfl λw13 hD13 c13=>?_
 have hD13:Blk w13 w.heap.size 25 (moV (0,3,⟨some (blk w9.heap.size),3,3⟩,())):=hD13
 refine Mo.load hD13 (hR w13 ⟨some (blk w9.heap.size),3,3⟩ ?_ (c13.below (b1.on b110) (Nat.le_refl _)))
 have hI:=c13.blk hI10 (by omega)
 have h1:=c13.blk (hA4.below (((b5.on b6).on b610))) (by omega)
 have h2:=c13.blk (hA7.below (b8.on b810)) (by omega)
 have h3:=c13.blk (hA9.below b10) (by omega)
 refine⟨rfl,Nat.le_refl _,by show 3<=_;omega,λh=>(by cases h),λa ha k hk=>?_⟩
 cases ha
 have cell:∀(k:Nat) (t:Sl) (p:PI),k<3->(∀j,j<4->(flat inV [(14,0,0,⟨some (blk w3.heap.size),2,2⟩,()),(21,0,1,⟨some (blk w6.heap.size),2,2⟩,()),(43,1,2,⟨some (blk w8.heap.size),1,1⟩,())])[k*4+j]? =(inV (mkIn p t))[j]?)->
   ∀j,j<4->w13.cell? ((blk w9.heap.size).add (k*4+j))=(inV (mkIn p t))[j]?:=λk t p hk3 he j hj=>by
  have hlt:j<(inV (mkIn p t)).length:=hj
  have h:=he j hj
  rw[List.getElem?_eq_getElem hlt]at h⊢
  exact hI.cell h
 have four:∀{P:Nat->Prop},P 0->P 1->P 2->P 3->∀j,j<4->P j:=λ{P} h0 h1 h2 h3 j hj=>by
  have hj4:j=0\/j=1\/j=2\/j=3:=by omega
  rcases hj4 with rfl |rfl |rfl |rfl<;>assumption
 have hk3:k<3:=hk
 have hkc:k=0\/k=1\/k=2:=by omega
 rcases hkc with rfl |rfl |rfl
 ·exact⟨⟨some (blk w3.heap.size),2,2⟩,cell 0 _ _ (by decide) (four rfl rfl rfl rfl),Blk.isC zE (by omega) h1 (by simp)⟩
 ·exact⟨⟨some (blk w6.heap.size),2,2⟩,cell 1 _ _ (by decide) (four rfl rfl rfl rfl),Blk.isC zE (by omega) h2 (by simp)⟩
 ·exact⟨⟨some (blk w8.heap.size),1,1⟩,cell 2 _ _ (by decide) (four rfl rfl rfl rfl),Blk.isC zE (by omega) h3 (by simp)⟩
end
end Go.Proofs
namespace Go.Proofs
open Go.Gk Go.RowKit Go.Gm
section
variable {bd:Int} {pl:List PI} {k:Nat}
theorem zoJ(h:CnOk bd pl)(hp:PlOk pl)(h0:0<=bd){id:Int}{c:Cn}(hc:zy (cnL pl) id=some c):c.2.length=(tA (tyL pl) c.1).size:=
 zjD h.ty hp h0 (Nat.le_refl _) h.no hc
theorem CnOk.tb(h:CnOk bd pl)(hp:PlOk pl)(h0:0<=bd):TbOk (tyL pl):=h.ty.tb hp h0 (Nat.le_refl pl.length)
theorem zoI(h:CnOk bd pl)(hp:PlOk pl)(h0:0<=bd)(id:Int):(cnA (cnL pl) id).2.length<=4096:=by
 unfold cnA
 cases hl:zy (cnL pl) id with
 |none=>exact Nat.zero_le _
 |some c=>
  have:=zoJ h hp h0 hl
  show c.2.length<=4096
  rw[this]
  exact zgy (h.tb hp h0) _
abbrev cntC(pl:List PI)(n:Nat):Nat:=((List.range n).filter λk=>isC (ix pl k).1).length
theorem zoL(pl:List PI)(n:Nat):cntC pl n<=n:=by
 have:=List.length_filter_le (λk=>isC (ix pl k).1) (List.range n)
 rwa[List.length_range]at this
theorem zn4(W:yq bd pl):(cnL pl).length=cntC pl pl.length:=by
 have:=congrArg List.length (ziT (T:=tyL pl) W pl.length (Nat.le_refl _)).1
 rw[List.length_map,List.length_map]at this
 exact this
end
end Go.Proofs
namespace Go.Proofs
open Go.Gk Go.RowKit Go.Gm
theorem zmg{w:World}{b:Nat}{l:List Int}(hB:Blk w b 22 (l.map (Value.int .u32)))(hl:l.length<=4398046511104):IsS (Value.int .u32) w ⟨some (Gk.blk b),l.length,l.length⟩ l:=zf9 hB (by omega)
section
variable {x:Mo} {pl:List PI} {w:World} {R:VWP}
theorem zht{s:Sl}(hN:IsPl w s lsP)(ht:Tab w)(hR:∀w' pb,Below w.heap.size w w'->IsPo w' w.heap.size pb (tyL lsP) (cnL lsP) (vnL lsP)->R (.tuple #[.pointer (some (blk pb)),.agg #[.int .i64 0,.int .i64 0]]) w') :
  cR 27 #[moA (0,3,s,())] w R:=
 zgc (x:=(0,3,s,())) hN zqb (by show(0:Int)<=3;decide) ht (λhc=>absurd (by show(conE 3 lsP).1=0;rw[zpD]) hc) λ_ w' pb hb hP=>hR w' pb hb hP
end
end Go.Proofs
namespace Go.Proofs
open Go.Gk Go.RowKit Go.Gm
def zU(g:Int->Int)(t:Tp):Tp:={t with part:=g t.part,ps:=t.ps.map g}
def Zd(g:Int->Int)(L:TyL):TyL:=L.map λp=>(g p.1,zU g p.2)
def zdj(g:Int->Int)(C:CnL):CnL:=C.map λp=>(g p.1,(g p.2.1,p.2.2))
def zqh(g:Int->Int)(V:VnL):VnL:=V.map λp=>(g p.1,(p.2.1,g p.2.2.1,p.2.2.2))
abbrev IdIn(pl:List PI)(n:Int):Prop:=n∈allP pl\/n=0
theorem zgq{α β:Type}{g:Int->Int}{f:α->β}{id:Int}:∀{L:List (Int×α)},(∀k∈L.map (·.1),g id=g k↔id=k)->zy (L.map λp=>(g p.1,f p.2)) (g id)=(zy L id).map f
 | [],_=>rfl
 |p::r,h=>by
  have ih:=zgq (g:=g) (f:=f) (id:=id) (L:=r) λk hk=>h k (List.mem_cons_of_mem _ hk)
  have h1:=h p.1 (by simp)
  rw[List.map_cons]
  simp only[zy]
  by_cases e:id=p.1
  ·rw[if_pos (h1.2 e),if_pos e]
   rfl
  ·rw[if_neg (λq=>e (h1.1 q)),if_neg e,ih]
theorem zfQ{α β:Type}{g:Int->Int}{f:α->β}{id:Int}{v:α}:∀{L:List (Int×α)},(∀k∈L.map (·.1),g id=g k↔id=k)->setQ (L.map λp=>(g p.1,f p.2)) (g id) (f v)=(setQ L id v).map λp=>(g p.1,f p.2)
 | [],_=>rfl
 |p::r,h=>by
  have ih:=zfQ (g:=g) (f:=f) (id:=id) (v:=v) (L:=r) λk hk=>h k (List.mem_cons_of_mem _ hk)
  have h1:=h p.1 (by simp)
  rw[List.map_cons]
  simp only[setQ]
  by_cases e:id=p.1
  ·rw[if_pos (h1.2 e),if_pos e]
   rfl
  ·rw[if_neg (λq=>e (h1.1 q)),if_neg e,ih]
   rfl
structure TyIn (pl:List PI) (L:TyL):Prop where
 key:∀k∈L.map (·.1),IdIn pl k
 sub:∀p∈L,IdIn pl p.2.part/\∀q∈p.2.ps,IdIn pl q
structure CnIn (pl:List PI) (C:CnL):Prop where
 key:∀k∈C.map (·.1),IdIn pl k
 sub:∀p∈C,IdIn pl p.2.1
section
variable {g:Int->Int} {pl:List PI} {bd b':Int} {k n:Nat} {L:TyL}
theorem TyIn.at(h:TyIn pl L)(id:Int):IdIn pl (tA L id).part/\∀q∈(tA L id).ps,IdIn pl q:=by
 unfold tA
 cases hl:zy L id with
 |none=>exact⟨.inr rfl,λq hq=>by cases hq⟩
 |some t=>exact h.sub _ (zgr hl)
theorem zr.tA(h:zr g pl b')(hL:TyIn pl L){id:Int}(hid:IdIn pl id):Go.Proofs.tA (Zd g L) (g id)=zU g (Go.Proofs.tA L id):=by
 unfold Go.Proofs.tA Zd
 rw[zgq λk hk=>h.eq hid (hL.key k hk)]
 cases zy L id with
 |none=>
  show tp0=zU g tp0
  unfold zU tp0
  rw[h.zero]
  rfl
 |some t=>rfl
theorem Zz(hs:(zp bd pl).1=0)(hk:k<pl.length){j:Nat}(hj:j<(ix pl k).2.2.2.length)(h:((ix pl k).2.2.2.getD j ag0).1=1):agI pl k j∈allP pl:=by
 rw[yn hk]at hj h
 unfold agI
 rw[yn hk]
 rw[zo hj]at h⊢
 exact(zee hk).2.2 _ (List.getElem_mem hj) h
theorem zr.agI1(h:zr g pl b'){j:Nat}(hj:j<(ix pl k).2.2.2.length)(e:((ix pl k).2.2.2.getD j ag0).1=1):agI (zt g pl) k j=g (agI pl k j):=by
 unfold agI
 rw[yA h.zero]
 show(((ix pl k).2.2.2.map (Zm g)).getD j ag0).2.1=_
 rw[zo (by rw[List.length_map];exact hj),List.getElem_map]
 rw[zo hj]at e⊢
 exact zc0 g e
theorem zr.agI0(h:zr g pl b'){j:Nat}(hj:j<(ix pl k).2.2.2.length)(e:((ix pl k).2.2.2.getD j ag0).1≠1):agI (zt g pl) k j=agI pl k j:=by
 unfold agI
 rw[yA h.zero]
 show(((ix pl k).2.2.2.map (Zm g)).getD j ag0).2.1=_
 rw[zo (by rw[List.length_map];exact hj),List.getElem_map]
 rw[zo hj]at e⊢
 rw[zbo g e]
theorem zr.agN1(h:zr g pl b')(e:∀j,j<(ix pl k).2.2.2.length->((ix pl k).2.2.2.getD j ag0).1=1):agN (zt g pl) k=(agN pl k).map g:=by
 unfold agN
 rw[yA h.zero]
 show((ix pl k).2.2.2.map (Zm g)).map (λa=>a.2.1)=_
 rw[List.map_map,List.map_map]
 refine List.map_congr_left λa ha=>?_
 obtain⟨j,hj,rfl⟩:=List.getElem_of_mem ha
 have:=e j hj
 rw[zo hj]at this
 exact zc0 g this
theorem zr.len(h:zr g pl b'):(ix (zt g pl) k).2.2.2.length=(ix pl k).2.2.2.length:=by
 rw[yA h.zero]
 exact List.length_map _
theorem zr.op'(h:zr g pl b')(k:Nat):(ix (zt g pl) k).1=(ix pl k).1:=by rw[yA h.zero];rfl
theorem zr.res(h:zr g pl b')(k:Nat):(ix (zt g pl) k).2.2.1=g (ix pl k).2.2.1:=by rw[yA h.zero];rfl
theorem zr.ty(h:zr g pl b')(k:Nat):(ix (zt g pl) k).2.1=g (ix pl k).2.1:=by rw[yA h.zero];rfl
theorem zhQ(pl:List PI)(k:Nat):IdIn pl (ix pl k).2.1:=by
 by_cases hk:k<pl.length
 ·left;rw[yn hk];exact(zee hk).1
 ·right
  have:ix pl k=pi0:=ZI (by omega)
  rw[this]
theorem zkO{op:Int}{ty re:Bool}{fixed rest:Bs}{most:Nat}(hs:(zp bd pl).1=0)(hk:k<pl.length)(h:(ix pl k).1=op)(hf:yo op ty re fixed rest most=true){j:Nat}(hj:j<(ix pl k).2.2.2.length) :
  ∃f:Fl,f.fixed=fixed/\f.rest=rest/\f.most=most/\((ix pl k).2.2.2.getD j ag0).1=yz (letP f j:Int):=by
 obtain⟨f,h1,f3,f4,f5,_,_,_,hw⟩:=zbJ hs hk h hf
 have:=hw j hj
 unfold werr at this
 exact⟨f,f3,f4,f5,(yF this).2⟩
theorem yM{op:Int}{ty re:Bool}{fixed rest:Bs}{most:Nat}(hs:(zp bd pl).1=0)(hk:k<pl.length)(h:(ix pl k).1=op)(hf:yo op ty re fixed rest most=true){j:Nat}(hj:j<(ix pl k).2.2.2.length)(hjf:j<fixed.length) :
  ((ix pl k).2.2.2.getD j ag0).1=yz ((fixed.getD j 0).toNat:Int):=by
 obtain⟨f,f3,_,_,e⟩:=zkO hs hk h hf hj
 rw[e]
 unfold letP
 rw[f3,if_pos hjf]
theorem zd6{op:Int}{ty re:Bool}{fixed:Bs}{c:UInt8}(hs:(zp bd pl).1=0)(hk:k<pl.length)(h:(ix pl k).1=op)(hf:yo op ty re fixed [c] 0=true){j:Nat}(hj:j<(ix pl k).2.2.2.length)(hjf:fixed.length<=j) :
  ((ix pl k).2.2.2.getD j ag0).1=yz (c.toNat:Int):=by
 obtain⟨f,f3,f4,f5,e⟩:=zkO hs hk h hf hj
 rw[e]
 unfold letP
 rw[f3,f4,f5,if_neg (by omega),if_neg (by simp),if_neg (by omega)]
 have:(j-fixed.length) % ([c]:Bs).length=0:=Nat.mod_one _
 rw[this]
 rfl
theorem zjY:yz (((105:UInt8).toNat:Nat):Int)=1:=by decide +kernel
theorem zmZ(h:zr g pl b')(hL:TyIn pl L){l:List Int}(hl:∀p∈l,IdIn pl p):sumT (Zd g L) (l.map g)=sumT L l:=by
 unfold sumT
 rw[List.map_map]
 congr 1
 refine List.map_congr_left λp hp=>?_
 show(Go.Proofs.tA (Zd g L) (g p)).size=_
 rw[h.tA hL (hl p hp)]
 rfl
theorem zlb(h:zr g pl b')(hL:TyIn pl L){l:List Int}(hl:∀p∈l,IdIn pl p):yX (Zd g L) (l.map g)=yX L l:=by
 have:∀(l:List Int) (d:Nat),(∀p∈l,IdIn pl p)->(l.map g).foldl (λd p=>Nat.max d (Go.Proofs.tA (Zd g L) p).depth) d=l.foldl (λd p=>Nat.max d (Go.Proofs.tA L p).depth) d:=by
  intro l
  induction l with
  |nil=>intro d _;rfl
  |cons a r ih=>
   intro d hl
   rw[List.map_cons,List.foldl_cons,List.foldl_cons,h.tA hL (hl a (List.mem_cons_self ..)),ih _ λp hp=>hl p (List.mem_cons_of_mem _ hp)]
   rfl
 exact this l 0 hl
theorem zhW(g:Int->Int)(hz:g 0=0)(t:Tp)(s d:Nat):whT (zU g t) s d=(zU g (whT t s d).1,(whT t s d).2):=by
 have h0:zU g tp0=tp0:=by unfold zU tp0;rw[hz];rfl
 unfold whT
 by_cases h1:4096<s
 ·rw[if_pos h1,if_pos h1,h0]
 rw[if_neg h1,if_neg h1]
 by_cases h2:16<d+1
 ·rw[if_pos h2,if_pos h2,h0]
 rw[if_neg h2,if_neg h2]
 rfl
theorem zr.oneT(h:zr g pl b')(hs:(zp bd pl).1=0)(hk:k<pl.length)(hL:TyIn pl L):Go.Proofs.oneT (Zd g L) (zt g pl) k=(Go.Proofs.oneT L pl k).map λp=>(zU g p.1,p.2):=by
 have h0:zU g tp0=tp0:=by unfold zU tp0;rw[h.zero];rfl
 have tk:∀{p},IdIn pl p->(Go.Proofs.tA (Zd g L) (g p)).kind=(Go.Proofs.tA L p).kind/\(Go.Proofs.tA (Zd g L) (g p)).size=(Go.Proofs.tA L p).size/\(Go.Proofs.tA (Zd g L) (g p)).depth=(Go.Proofs.tA L p).depth:=λ{p} hp=>by
  rw[h.tA hL hp]
  exact⟨rfl,rfl,rfl⟩
 unfold Go.Proofs.oneT
 rw[h.op' k]
 by_cases e1:(ix pl k).1=19
 ·rw[if_pos e1,if_pos e1]
  show some _=some (zU g _,_)
  unfold zU tp0
  rw[h.zero]
  rfl
 rw[if_neg e1,if_neg e1]
 by_cases e2:(ix pl k).1=20
 ·rw[if_pos e2,if_pos e2]
  show some _=some (zU g _,_)
  unfold zU tp0
  rw[h.zero]
  rfl
 rw[if_neg e2,if_neg e2]
 by_cases e3:(ix pl k).1=21
 ·rw[if_pos e3,if_pos e3]
  have hl:(ix pl k).2.2.2.length=2:=yl hs hk e3 zea
  rw[h.agI0 (k:=k) (j:=0) (by omega) (by rw[yM hs hk e3 zea (by omega) (by decide)];decide +kernel),h.agI0 (k:=k) (j:=1) (by omega) (by rw[yM hs hk e3 zea (by omega) (by decide)];decide +kernel)]
  show some _=some (zU g _,_)
  unfold zU tp0
  dsimp only
  rw[h.zero]
  rfl
 rw[if_neg e3,if_neg e3]
 by_cases e4:(ix pl k).1=23
 ·rw[if_pos e4,if_pos e4]
  have hl:(ix pl k).2.2.2.length=2:=yl hs hk e4 zbI
  have ha:((ix pl k).2.2.2.getD 0 ag0).1=1:=by rw[yM hs hk e4 zbI (by omega) (by decide)];decide +kernel
  rw[h.agI1 (k:=k) (j:=0) (by omega) ha,h.agI0 (k:=k) (j:=1) (by omega) (by rw[yM hs hk e4 zbI (by omega) (by decide)];decide +kernel)]
  have hid:IdIn pl (agI pl k 0):=.inl (Zz hs hk (by omega) ha)
  obtain⟨t1,t2,t3⟩:=tk hid
  show some _=some (zU g (vecT L _ _).1,(vecT L _ _).2)
  congr 1
  unfold vecT
  rw[t1,t3]
  generalize agI pl k 1=m
  split
  ·rw[h0]
  split
  ·rw[h0]
  have e:({tp0 with kind:=4,part:=g (agI pl k 0),times:=m.toNat}:Tp)=zU g {tp0 with kind:=4,part:=agI pl k 0,times:=m.toNat}:=rfl
  rw[e,zhW g h.zero]
 rw[if_neg e4,if_neg e4]
 by_cases e5:(ix pl k).1=28
 ·rw[if_pos e5,if_pos e5]
  have hl:(ix pl k).2.2.2.length=2:=yl hs hk e5 YG
  have ha:((ix pl k).2.2.2.getD 0 ag0).1=1:=by rw[yM hs hk e5 YG (by omega) (by decide)];decide +kernel
  have hb:((ix pl k).2.2.2.getD 1 ag0).1=1:=by rw[yM hs hk e5 YG (by omega) (by decide)];decide +kernel
  rw[h.agI1 (k:=k) (j:=0) (by omega) ha,h.agI1 (k:=k) (j:=1) (by omega) hb]
  have hid:IdIn pl (agI pl k 0):=.inl (Zz hs hk (by omega) ha)
  have hid2:IdIn pl (agI pl k 1):=.inl (Zz hs hk (by omega) hb)
  obtain⟨t1,t2,t3⟩:=tk hid
  have hm:mdP (zt g pl) (g (agI pl k 1)) k=Zc g (mdP pl (agI pl k 1) k):=by
   unfold mdP
   rw[h.maker hid2]
   split
   ·rw[yA h.zero]
   ·unfold Zc
    rw[h.zero]
    rfl
  rw[hm]
  show some _=some (zU g (arrT L _ _).1,(arrT L _ _).2)
  congr 1
  have hc:(mdP pl (agI pl k 1) k)=pi0\/∃j,j<pl.length/\mdP pl (agI pl k 1) k=ix pl j:=by
   unfold mdP
   split
   ·rename_i q
    by_cases hj:(zH pl (agI pl k 1) k).toNat<pl.length
    ·exact .inr ⟨_,hj,rfl⟩
    ·exact .inl (ZI (by omega))
   ·exact .inl rfl
  generalize mdP pl (agI pl k 1) k=c at hc
  have hop:(Zc g c).1=c.1:=rfl
  have hty:(Go.Proofs.tA (Zd g L) (Zc g c).2.1).kind=(Go.Proofs.tA L c.2.1).kind:=by
   have:IdIn pl c.2.1:=by
    rcases hc with rfl | ⟨j,hj,rfl⟩
    ·exact .inr rfl
    ·exact zhQ pl j
   exact(tk this).1
  have hcn:c.1=43->cN (Zc g c)=cN c:=λq=>by
   rcases hc with rfl | ⟨j,hj,rfl⟩
   ·cases q
   ·have hl1:(ix pl j).2.2.2.length=1:=yl hs hj q zcF
    have:=h.agI0 (k:=j) (j:=0) (by omega) (by rw[yM hs hj q zcF (by omega) (by decide)];decide +kernel)
    unfold agI at this
    rw[yA h.zero]at this
    exact this
  unfold arrT
  rw[t2,t3,hop,hty]
  split
  ·rw[h0]
  by_cases q:c.1=43
  ·rw[hcn q]
   split
   ·rw[h0]
   have e:({tp0 with kind:=5,part:=g (agI pl k 0),times:=(cN c).toNat}:Tp)=zU g {tp0 with kind:=5,part:=agI pl k 0,times:=(cN c).toNat}:=rfl
   rw[e,zhW g h.zero]
  ·rw[if_pos (.inl q),if_pos (.inl q),h0]
 rw[if_neg e5,if_neg e5]
 by_cases e6:(ix pl k).1=30
 ·rw[if_pos e6,if_pos e6]
  have ha:∀j,j<(ix pl k).2.2.2.length->((ix pl k).2.2.2.getD j ag0).1=1:=λj hj=>by rw[zd6 hs hk e6 zgX hj (Nat.zero_le _)];exact zjY
  rw[h.agN1 ha]
  have hl:∀p∈agN pl k,IdIn pl p:=λp hp=>by
   unfold agN at hp
   obtain⟨a,ha',rfl⟩:=List.mem_map.1 hp
   obtain⟨j,hj,rfl⟩:=List.getElem_of_mem ha'
   have:=Zz hs hk hj (ha j hj)
   unfold agI at this
   rw[zo hj]at this
   exact .inl this
  show some _=some (zU g (memT L _).1,(memT L _).2)
  congr 1
  generalize agN pl k=l at hl
  unfold memT
  rw[List.length_map,zmZ h hL hl,zlb h hL hl,ZD (q:=λp=>(Go.Proofs.tA L p).size==0) λp hp=>by rw[(tk (hl p hp)).2.1]]
  split
  ·rw[h0]
  split
  ·rw[h0]
  have e:({tp0 with kind:=6,ps:=l.map g}:Tp)=zU g {tp0 with kind:=6,ps:=l}:=by unfold zU tp0;dsimp only;rw[h.zero]
  rw[e,zhW g h.zero]
 rw[if_neg e6,if_neg e6]
 by_cases e7:(ix pl k).1=32
 ·rw[if_pos e7,if_pos e7]
  have hl:(ix pl k).2.2.2.length=2:=yl hs hk e7 zaG
  have ha:((ix pl k).2.2.2.getD 0 ag0).1≠1:=by rw[yM hs hk e7 zaG (by omega) (by decide)];decide +kernel
  have hb:((ix pl k).2.2.2.getD 1 ag0).1=1:=by rw[yM hs hk e7 zaG (by omega) (by decide)];decide +kernel
  have hid:IdIn pl (agI pl k 1):=.inl (Zz hs hk (by omega) hb)
  have hd:∀pl':List PI,(ix pl' k).2.2.2.length=2->(agN pl' k).drop 1=[agI pl' k 1]:=λpl' hl'=>by
   unfold agN agI
   match hx:(ix pl' k).2.2.2,hl' with
   | [a,b],_=>rfl
  rw[hd _ (by rw[h.len];exact hl),hd _ hl,h.agI0 (k:=k) (j:=0) (by omega) ha,h.agI1 (k:=k) (j:=1) (by omega) hb,(tk hid).2.1]
  show some _=some (zU g _,_)
  unfold zU tp0
  dsimp only
  rw[h.zero]
  rfl
 rw[if_neg e7,if_neg e7]
 by_cases e8:(ix pl k).1=33
 ·rw[if_pos e8,if_pos e8]
  have ha:∀j,j<(ix pl k).2.2.2.length->((ix pl k).2.2.2.getD j ag0).1=1:=λj hj=>by
   by_cases hj1:1<=j
   ·rw[zd6 hs hk e8 zeb hj hj1];exact zjY
   ·have:j=0:=by omega
    subst this
    rw[yM hs hk e8 zeb hj (by decide)]
    decide +kernel
  rw[h.agN1 ha]
  have hl:∀p∈agN pl k,IdIn pl p:=λp hp=>by
   unfold agN at hp
   obtain⟨a,ha',rfl⟩:=List.mem_map.1 hp
   obtain⟨j,hj,rfl⟩:=List.getElem_of_mem ha'
   have:=Zz hs hk hj (ha j hj)
   unfold agI at this
   rw[zo hj]at this
   exact .inl this
  show some _=some (zU g (fnT L _).1,(fnT L _).2)
  congr 1
  generalize agN pl k=l at hl
  unfold fnT
  have e9:(List.range (l.map g).length).any (λi=>(Go.Proofs.tA (Zd g L) ((l.map g).getD i 0)).size==0&&(Go.Proofs.tA (Zd g L) ((l.map g).getD i 0)).kind !=othK i)=(List.range l.length).any (λi=>(Go.Proofs.tA L (l.getD i 0)).size==0&&(Go.Proofs.tA L (l.getD i 0)).kind !=othK i):=by
   rw[List.length_map]
   have same:∀{α:Type} {l:List α} {p q:α->Bool},(∀x∈l,p x=q x)->l.any p=l.any q:=λ{α l p q} hh=>by
    have:=ZD (f:=id) (p:=p) (q:=q) hh
    rwa[List.map_id]at this
   refine same λi hi=>?_
   have hi:=List.mem_range.1 hi
   rw[zo (by rw[List.length_map];exact hi),zo hi,List.getElem_map,(tk (hl _ (List.getElem_mem hi))).1,(tk (hl _ (List.getElem_mem hi))).2.1]
  rw[e9]
  split
  ·rw[h0]
  ·unfold zU tp0
   dsimp only
   rw[h.zero]
 rw[if_neg e8,if_neg e8]
 rfl
end
end Go.Proofs
namespace Go.Proofs
open Go.Gk Go.RowKit Go.Gm
section
variable {g:Int->Int} {pl:List PI} {bd b':Int} {k n:Nat} {L:TyL} {C:CnL}
theorem zlD{t:Tp}{s d:Nat}(h1:IdIn pl t.part)(h2:∀q∈t.ps,IdIn pl q):IdIn pl (whT t s d).1.part/\∀q∈(whT t s d).1.ps,IdIn pl q:=by
 unfold whT
 split
 ·exact⟨.inr rfl,λq hq=>by cases hq⟩
 split
 ·exact⟨.inr rfl,λq hq=>by cases hq⟩
 exact⟨h1,h2⟩
theorem znp(hs:(zp bd pl).1=0)(hk:k<pl.length)(ha:∀j,j<(ix pl k).2.2.2.length->((ix pl k).2.2.2.getD j ag0).1=1):∀p∈agN pl k,IdIn pl p:=λp hp=>by
 unfold agN at hp
 obtain⟨a,ha',rfl⟩:=List.mem_map.1 hp
 obtain⟨j,hj,rfl⟩:=List.getElem_of_mem ha'
 have:=Zz hs hk hj (ha j hj)
 unfold agI at this
 rw[zo hj]at this
 exact .inl this
theorem zoO(hs:(zp bd pl).1=0)(hk:k<pl.length)(e:(ix pl k).1=32):∀p∈(agN pl k).drop 1,IdIn pl p:=by
 have hl:(ix pl k).2.2.2.length=2:=yl hs hk e zaG
 have hb:((ix pl k).2.2.2.getD 1 ag0).1=1:=by rw[yM hs hk e zaG (by omega) (by decide)];decide +kernel
 have hm:=Zz hs hk (j:=1) (by omega) hb
 have hd:(agN pl k).drop 1=[agI pl k 1]:=by
  unfold agN agI
  match hx:(ix pl k).2.2.2,hl with
  | [a,b],_=>rfl
 intro p hp
 rw[hd]at hp
 rw[List.mem_singleton.1 hp]
 exact .inl hm
theorem zpH(hs:(zp bd pl).1=0)(hk:k<pl.length){p:Tp×Int}(h:oneT L pl k=some p):IdIn pl p.1.part/\∀q∈p.1.ps,IdIn pl q:=by
 have nil:∀{t:Tp},t.part=0->t.ps=[]->IdIn pl t.part/\∀q∈t.ps,IdIn pl q:=λ{t} e1 e2=>⟨.inr e1,λq hq=>by rw[e2]at hq;cases hq⟩
 unfold oneT at h
 by_cases e1:(ix pl k).1=19
 ·rw[if_pos e1]at h;cases h;exact nil rfl rfl
 rw[if_neg e1]at h
 by_cases e2:(ix pl k).1=20
 ·rw[if_pos e2]at h;cases h;exact nil rfl rfl
 rw[if_neg e2]at h
 by_cases e3:(ix pl k).1=21
 ·rw[if_pos e3]at h
  injection h with h
  subst h
  exact nil rfl rfl
 rw[if_neg e3]at h
 by_cases e4:(ix pl k).1=23
 ·rw[if_pos e4]at h
  injection h with h
  subst h
  have hl:(ix pl k).2.2.2.length=2:=yl hs hk e4 zbI
  have ha:((ix pl k).2.2.2.getD 0 ag0).1=1:=by rw[yM hs hk e4 zbI (by omega) (by decide)];decide +kernel
  have hid:IdIn pl (agI pl k 0):=.inl (Zz hs hk (by omega) ha)
  unfold vecT
  split
  ·exact nil rfl rfl
  split
  ·exact nil rfl rfl
  exact zlD hid λq hq=>by cases hq
 rw[if_neg e4]at h
 by_cases e5:(ix pl k).1=28
 ·rw[if_pos e5]at h
  injection h with h
  subst h
  have hl:(ix pl k).2.2.2.length=2:=yl hs hk e5 YG
  have ha:((ix pl k).2.2.2.getD 0 ag0).1=1:=by rw[yM hs hk e5 YG (by omega) (by decide)];decide +kernel
  have hid:IdIn pl (agI pl k 0):=.inl (Zz hs hk (by omega) ha)
  unfold arrT
  split
  ·exact nil rfl rfl
  split
  ·exact nil rfl rfl
  exact zlD hid λq hq=>by cases hq
 rw[if_neg e5]at h
 by_cases e6:(ix pl k).1=30
 ·rw[if_pos e6]at h
  injection h with h
  subst h
  have ha:∀j,j<(ix pl k).2.2.2.length->((ix pl k).2.2.2.getD j ag0).1=1:=λj hj=>by rw[zd6 hs hk e6 zgX hj (Nat.zero_le _)];exact zjY
  unfold memT
  split
  ·exact nil rfl rfl
  split
  ·exact nil rfl rfl
  exact zlD (.inr rfl) (znp hs hk ha)
 rw[if_neg e6]at h
 by_cases e7:(ix pl k).1=32
 ·rw[if_pos e7]at h
  injection h with h
  subst h
  exact⟨.inr rfl,zoO hs hk e7⟩
 rw[if_neg e7]at h
 by_cases e8:(ix pl k).1=33
 ·rw[if_pos e8]at h
  injection h with h
  subst h
  have ha:∀j,j<(ix pl k).2.2.2.length->((ix pl k).2.2.2.getD j ag0).1=1:=λj hj=>by
   by_cases hj1:1<=j
   ·rw[zd6 hs hk e8 zeb hj hj1];exact zjY
   ·have:j=0:=by omega
    subst this
    rw[yM hs hk e8 zeb hj (by decide)]
    decide +kernel
  unfold fnT
  split
  ·exact nil rfl rfl
  exact⟨.inr rfl,znp hs hk ha⟩
 rw[if_neg e8]at h
 cases h
theorem zdQ{α:Type}{p:Int×α}{id:Int}{v:α}:∀{L:List (Int×α)},p∈setQ L id v->p∈L\/p=(id,v)
 | [],h=>.inr (List.mem_singleton.1 h)
 |a::r,h=>by
  simp only[setQ]at h
  split at h
  ·rcases List.mem_cons.1 h with h |h
   ·exact .inr h
   ·exact .inl (List.mem_cons_of_mem _ h)
  ·rcases List.mem_cons.1 h with h |h
   ·exact .inl (by rw[h];exact List.mem_cons_self ..)
   ·rcases zdQ h with h |h
    ·exact .inl (List.mem_cons_of_mem _ h)
    ·exact .inr h
theorem zhR(hs:(zp bd pl).1=0):∀n,n<=pl.length->TyIn pl (tysT pl n)
 | 0,_=>⟨λ_ h=>(by cases h),λ_ h=>(by cases h)⟩
 |n+1,hn=>by
  have ih:=zhR hs n (by omega)
  have hS:tysT pl (n+1)=(match oneT (tysT pl n) pl n with |none=>tysT pl n |some p=>setQ (tysT pl n) (ix pl n).2.2.1 p.1):=rfl
  rw[hS]
  cases ho:oneT (tysT pl n) pl n with
  |none=>exact ih
  |some p=>
   have hp:=zpH hs (by omega) ho
   refine⟨λk hk=>?_,λq hq=>?_⟩
   ·obtain⟨r,hr,rfl⟩:=List.mem_map.1 hk
    rcases zdQ hr with hr |hr
    ·exact ih.key _ (List.mem_map.2 ⟨r,hr,rfl⟩)
    ·rw[hr];exact zaJ pl n
   ·rcases zdQ hq with hq |hq
    ·exact ih.sub q hq
    ·rw[hq];exact hp
theorem YU{op:Int}{ty re:Bool}{fixed rest:Bs}{most:Nat}(h:zr g pl b')(hs:(zp bd pl).1=0)(hf:yo op ty re fixed rest most=true){j k:Nat}(hj:j<pl.length)(hk:k<pl.length)(ej:(ix pl j).1=op)(ek:(ix pl k).1=op) :
  (agN (zt g pl) j==agN (zt g pl) k)=(agN pl j==agN pl k):=by
 obtain⟨f,f1,_,_,_,_,_,_,wj⟩:=zbJ hs hj ej hf
 obtain⟨f',f1',_,_,_,_,_,_,wk⟩:=zbJ hs hk ek hf
 rw[f1]at f1'
 cases f1'
 have kj:∀i (hi:i<(ix pl j).2.2.2.length),((ix pl j).2.2.2[i]).1=yz (letP f i:Int):=λi hi=>by
  have:=wj i hi
  unfold werr at this
  have:=(yF this).2
  rwa[zo hi]at this
 have kk:∀i (hi:i<(ix pl k).2.2.2.length),((ix pl k).2.2.2[i]).1=yz (letP f i:Int):=λi hi=>by
  have:=wk i hi
  unfold werr at this
  have:=(yF this).2
  rwa[zo hi]at this
 have mj:∀i (hi:i<(ix pl j).2.2.2.length),((ix pl j).2.2.2[i]).1=1->((ix pl j).2.2.2[i]).2.1∈allP pl:=λi hi e=>by
  have:=Zz hs hj hi (by rw[zo hi];exact e)
  unfold agI at this
  rwa[zo hi]at this
 have mk:∀i (hi:i<(ix pl k).2.2.2.length),((ix pl k).2.2.2[i]).1=1->((ix pl k).2.2.2[i]).2.1∈allP pl:=λi hi e=>by
  have:=Zz hs hk hi (by rw[zo hi];exact e)
  unfold agI at this
  rwa[zo hi]at this
 have ea:∀i,(ix (zt g pl) i).2.2.2=(ix pl i).2.2.2.map (Zm g):=λi=>by rw[yA h.zero];rfl
 rw[Bool.eq_iff_iff,beq_iff_eq,beq_iff_eq]
 unfold agN
 rw[ea,ea]
 generalize (ix pl j).2.2.2=aj at kj mj⊢
 generalize (ix pl k).2.2.2=ak at kk mk⊢
 rw[List.map_map,List.map_map]
 have el:∀i (hi:i<aj.length) (hi':i<ak.length),(Zm g aj[i]).2.1=(Zm g ak[i]).2.1↔aj[i].2.1=ak[i].2.1:=λi hi hi'=>by
  by_cases e:yz (letP f i:Int)=1
  ·have e1:aj[i].1=1:=(kj i hi).trans e
   have e2:ak[i].1=1:=(kk i hi').trans e
   rw[zc0 g e1,zc0 g e2]
   exact⟨λq=>h.inj _ (mj i hi e1) _ (mk i hi' e2) q,λq=>by rw[q]⟩
  ·rw[zbo g (by rw[kj i hi];exact e),zbo g (by rw[kk i hi'];exact e)]
 constructor
 ·intro q
  have hl:=congrArg List.length q
  rw[List.length_map,List.length_map]at hl
  refine List.ext_getElem (by rw[List.length_map,List.length_map,hl]) λi h1 h2=>?_
  rw[List.length_map]at h1 h2
  have:=List.getElem_of_eq q (i:=i) (by rw[List.length_map];exact h1)
  rw[List.getElem_map,List.getElem_map]at this
  rw[List.getElem_map,List.getElem_map]
  exact(el i h1 h2).1 this
 ·intro q
  have hl:=congrArg List.length q
  rw[List.length_map,List.length_map]at hl
  refine List.ext_getElem (by rw[List.length_map,List.length_map,hl]) λi h1 h2=>?_
  rw[List.length_map]at h1 h2
  have:=List.getElem_of_eq q (i:=i) (by rw[List.length_map];exact h1)
  rw[List.getElem_map,List.getElem_map]at this
  rw[List.getElem_map,List.getElem_map]
  exact(el i h1 h2).2 this
theorem zp4{α:Type}{l:List α}{p q:α->Bool}(h:∀x∈l,p x=q x):l.any p=l.any q:=by
 have:=ZD (f:=id) (p:=p) (q:=q) h
 rwa[List.map_id]at this
theorem zr.agnT(h:zr g pl b')(hs:(zp bd pl).1=0)(hk:k<pl.length){p:Tp×Int}(ho:Go.Proofs.oneT L pl k=some p):Go.Proofs.agnT (zt g pl) k=Go.Proofs.agnT pl k:=by
 unfold Go.Proofs.agnT
 rw[h.op' k]
 congr 1
 refine zp4 λj hj=>?_
 have hj:=List.mem_range.1 hj
 rw[h.op' j]
 by_cases e:(ix pl j).1=(ix pl k).1
 ·congr 1
  rcases zjj ho with q |q |q |q |q |q |q |q
  ·exact YU h hs zmb (by omega) hk (e.trans q) q
  ·exact YU h hs zmc (by omega) hk (e.trans q) q
  ·exact YU h hs zea (by omega) hk (e.trans q) q
  ·exact YU h hs zbI (by omega) hk (e.trans q) q
  ·exact YU h hs YG (by omega) hk (e.trans q) q
  ·exact YU h hs zgX (by omega) hk (e.trans q) q
  ·exact YU h hs zaG (by omega) hk (e.trans q) q
  ·exact YU h hs zeb (by omega) hk (e.trans q) q
 ·rw[beq_eq_false_iff_ne.2 e,Bool.false_and,Bool.false_and]
theorem zr.errT(h:zr g pl b')(hs:(zp bd pl).1=0)(hk:k<pl.length)(hL:TyIn pl L):Go.Proofs.errT (Zd g L) (zt g pl) k=Go.Proofs.errT L pl k:=by
 unfold Go.Proofs.errT
 rw[h.oneT hs hk hL]
 cases ho:Go.Proofs.oneT L pl k with
 |none=>rfl
 |some p=>
  show(if p.2≠0 then p.2 else if Go.Proofs.agnT (zt g pl) k=true then 101 else 0)=_
  rw[h.agnT hs hk ho]
theorem zr.tys(h:zr g pl b')(hs:(zp bd pl).1=0):∀n,n<=pl.length->tysT (zt g pl) n=Zd g (tysT pl n)
 | 0,_=>rfl
 |n+1,hn=>by
  have ih:=h.tys hs n (by omega)
  have hin:=zhR hs n (by omega)
  have hS:∀q:List PI,tysT q (n+1)=(match Go.Proofs.oneT (tysT q n) q n with |none=>tysT q n |some p=>setQ (tysT q n) (ix q n).2.2.1 p.1):=λ_=>rfl
  rw[hS,hS,ih,h.oneT hs (by omega) hin]
  cases Go.Proofs.oneT (tysT pl n) pl n with
  |none=>rfl
  |some p=>
   show setQ (Zd g (tysT pl n)) (ix (zt g pl) n).2.2.1 (zU g p.1)=Zd g (setQ (tysT pl n) (ix pl n).2.2.1 p.1)
   rw[h.res n]
   exact zfQ λk hk=>h.eq (zaJ pl n) (hin.key k hk)
theorem zlX{α:Type}{p q:α->Bool}:∀{l:List α},(∀a∈l,p a=q a)->l.find? p=l.find? q
 | [],_=>rfl
 |a::l,h=>by
  rw[List.find?_cons,List.find?_cons,h a (List.mem_cons_self ..),zlX λb hb=>h b (List.mem_cons_of_mem _ hb)]
theorem zlY{P Q:Nat->Int}{n:Nat}(h:∀k,k<n->P k=Q k):(match (List.range n).find? (λk=>P k !=0) with |some k=>(P k,(k:Int)) |none=>(0,0))=(match (List.range n).find? (λk=>Q k !=0) with |some k=>(Q k,(k:Int)) |none=>(0,0)):=by
 rw[zlX (p:=λk=>P k !=0) (q:=λk=>Q k !=0) λk hk=>by rw[h k (List.mem_range.1 hk)]]
 cases hf:(List.range n).find? (λk=>Q k !=0) with
 |none=>rfl
 |some k=>
  have:=List.mem_range.1 (List.mem_of_find?_eq_some hf)
  dsimp only
  rw[h k this]
theorem zr.typE(h:zr g pl b')(hs:(zp bd pl).1=0):Go.Proofs.typE b' (zt g pl)=Go.Proofs.typE bd pl:=by
 unfold Go.Proofs.typE
 rw[h.chk9 hs,y5]
 split
 ·rfl
 exact zlY λk hk=>by rw[h.tys hs k (by omega),h.errT hs hk (zhR hs k (by omega))]
theorem zkt(hz:g 0=0)(t:Tp)(j:Int):(zU g t).prt j=(g (t.prt j).1,(t.prt j).2):=by
 unfold Tp.prt
 have hc:(zU g t).cnt=t.cnt:=by unfold Tp.cnt zU;dsimp only;rw[List.length_map]
 rw[hc]
 by_cases h1:j<0\/(t.cnt:Int)<=j
 ·rw[if_pos h1,if_pos h1,hz]
 rw[if_neg h1,if_neg h1]
 show(if 0<t.times then _ else _)=_
 by_cases h2:0<t.times
 ·rw[if_pos h2,if_pos h2]
  rfl
 ·rw[if_neg h2,if_neg h2]
  show((t.ps.map g).getD j.toNat 0,true)=(g (t.ps.getD j.toNat 0),true)
  by_cases h3:j.toNat<t.ps.length
  ·rw[zo (by rw[List.length_map];exact h3),zo h3,List.getElem_map]
  ·rw[ZI (by rw[List.length_map];omega),ZI (by omega),hz]
theorem zop{t:Tp}(h1:IdIn pl t.part)(h2:∀q∈t.ps,IdIn pl q)(j:Int):IdIn pl (t.prt j).1:=by
 unfold Tp.prt
 split
 ·exact .inr rfl
 split
 ·exact h1
 ·show IdIn pl (t.ps.getD j.toNat 0)
  by_cases h3:j.toNat<t.ps.length
  ·rw[zo h3];exact h2 _ (List.getElem_mem h3)
  ·rw[ZI (by omega)];exact .inr rfl
theorem zr.ofC(h:zr g pl b')(hC:CnIn pl C){id ty:Int}(hid:IdIn pl id)(hty:IdIn pl ty):Go.Proofs.ofC (zdj g C) (g id) (g ty)=Go.Proofs.ofC C id ty:=by
 unfold Go.Proofs.ofC zdj
 rw[zgq (f:=λc:Cn=>(g c.1,c.2)) λk hk=>h.eq hid (hC.key k hk)]
 cases hl:zy C id with
 |none=>rfl
 |some c=>
  have:=hC.sub _ (zgr hl)
  show(if g c.1≠g ty then(([]:List Int),(111:Int)) else(c.2,0))=if c.1≠ty then([],111) else(c.2,0)
  by_cases e:c.1=ty
  ·rw[if_neg (λq=>q (by rw[e])),if_neg (λq=>q e)]
  ·rw[if_pos (λq=>e ((h.eq this hty).1 q)),if_pos e]
theorem zr.catC(h:zr g pl b')(hs:(zp bd pl).1=0)(hk:k<pl.length)(hop:(ix pl k).1=44)(hL:TyIn pl L)(hC:CnIn pl C):∀n,n<=(ix pl k).2.2.2.length->Go.Proofs.catC (Zd g L) (zdj g C) (zt g pl) k n=Go.Proofs.catC L C pl k n
 | 0,_=>rfl
 |n+1,hn=>by
  have ih:=h.catC hs hk hop hL hC n (by omega)
  have ha:((ix pl k).2.2.2.getD n ag0).1=1:=by rw[zd6 hs hk hop zmd (by omega) (Nat.zero_le _)];exact zjY
  have hid:IdIn pl (agI pl k n):=.inl (Zz hs hk (by omega) ha)
  have hty:=hL.at (ix pl k).2.1
  unfold Go.Proofs.catC
  rw[ih,h.agI1 (k:=k) (j:=n) (by omega) ha,h.ty k,h.tA hL (zhQ pl k),zkt h.zero,h.ofC hC hid (zop hty.1 hty.2 _)]
theorem zr.wdsC(h:zr g pl b')(hs:(zp bd pl).1=0)(hk:k<pl.length)(hL:TyIn pl L)(hC:CnIn pl C):Go.Proofs.wdsC (Zd g L) (zdj g C) (zt g pl) k=Go.Proofs.wdsC L C pl k:=by
 have ht:Go.Proofs.tA (Zd g L) (ix (zt g pl) k).2.1=zU g (Go.Proofs.tA L (ix pl k).2.1):=by rw[h.ty k,h.tA hL (zhQ pl k)]
 have hcnt:(zU g (Go.Proofs.tA L (ix pl k).2.1)).cnt=(Go.Proofs.tA L (ix pl k).2.1).cnt:=by unfold Tp.cnt zU;dsimp only;rw[List.length_map]
 unfold Go.Proofs.wdsC
 rw[ht,h.op' k,h.len,hcnt,show(zU g (Go.Proofs.tA L (ix pl k).2.1)).kind=(Go.Proofs.tA L (ix pl k).2.1).kind from rfl,show(zU g (Go.Proofs.tA L (ix pl k).2.1)).size=(Go.Proofs.tA L (ix pl k).2.1).size from rfl]
 split
 ·rfl
 split
 ·rfl
 split
 ·rename_i e
  have hl:(ix pl k).2.2.2.length=1:=yl hs hk e zcF
  rw[h.agI0 (k:=k) (j:=0) (by omega) (by rw[yM hs hk e zcF (by omega) (by decide)];decide +kernel)]
 split
 ·rename_i e
  rw[h.catC hs hk e hL hC _ (Nat.le_refl _)]
 ·rfl
theorem zr.varC(h:zr g pl b')(hs:(zp bd pl).1=0)(hk:k<pl.length)(e:(ix pl k).1=59)(hL:TyIn pl L)(hC:CnIn pl C):Go.Proofs.varC (Zd g L) (zdj g C) (zt g pl) k=(((Go.Proofs.varC L C pl k).1.1,g (Go.Proofs.varC L C pl k).1.2.1,(Go.Proofs.varC L C pl k).1.2.2),(Go.Proofs.varC L C pl k).2):=by
 have ht:Go.Proofs.tA (Zd g L) (ix (zt g pl) k).2.1=zU g (Go.Proofs.tA L (ix pl k).2.1):=by rw[h.ty k,h.tA hL (zhQ pl k)]
 have hin:=hL.at (ix pl k).2.1
 have hl:=zmq hs hk e
 have hpt:=zop hin.1 hin.2 0
 have h0:((ix pl k).2.2.2.getD 0 ag0).1≠1:=by rw[yM hs hk e zgY (by omega) (by decide)];decide +kernel
 unfold Go.Proofs.varC
 rw[ht,h.len,h.agI0 (k:=k) (j:=0) (by omega) h0,zkt h.zero,h.tA hL hpt,show(zU g (Go.Proofs.tA L (ix pl k).2.1)).kind=(Go.Proofs.tA L (ix pl k).2.1).kind from rfl,show(zU g (Go.Proofs.tA L (ix pl k).2.1)).cls=(Go.Proofs.tA L (ix pl k).2.1).cls from rfl,
  show(zU g (Go.Proofs.tA L ((Go.Proofs.tA L (ix pl k).2.1).prt 0).1)).size=(Go.Proofs.tA L ((Go.Proofs.tA L (ix pl k).2.1).prt 0).1).size from rfl]
 split
 ·rw[h.zero]
 split
 ·rw[h.zero]
 split
 ·rfl
 ·rename_i q
  have h1:((ix pl k).2.2.2.getD 1 ag0).1=1:=by
   obtain⟨f,f3,f4,f5,e⟩:=zkO hs hk e zgY (j:=1) (by omega)
   rw[e]
   unfold letP
   rw[f3,f4,f5,if_neg (by decide),if_neg (by decide),if_neg (by decide)]
   decide +kernel
  rw[h.agI1 (k:=k) (j:=1) (by omega) h1,h.ofC hC (.inl (Zz hs hk (by omega) h1)) hpt]
theorem zkU{T:TyL}(pl:List PI):∀n,CnIn pl (cnsC T pl n).1
 | 0=>⟨λ_ h=>(by cases h),λ_ h=>(by cases h)⟩
 |n+1=>by
  have ih:=zkU (T:=T) pl n
  rcases zaO T pl n with h | ⟨h,h7,h59⟩ | ⟨h,hq⟩
  ·obtain⟨p,hp⟩:=Yf T (cnsC T pl n).1 h
   rw[ZW h hp]
   refine⟨λk hk=>?_,λq hq=>?_⟩
   ·obtain⟨r,hr,rfl⟩:=List.mem_map.1 hk
    rcases zdQ hr with hr |hr
    ·exact ih.key _ (List.mem_map.2 ⟨r,hr,rfl⟩)
    ·rw[hr];exact zaJ pl n
   ·rcases zdQ hq with hq |hq
    ·exact ih.sub q hq
    ·rw[hq];exact zhQ pl n
  ·rw[zbF h7 h59];exact ih
  ·rw[YW h hq];exact ih
theorem zr.cns(h:zr g pl b')(W:yq bd pl)(hL:TyIn pl L):∀n,n<=pl.length->cnsC (Zd g L) (zt g pl) n=(zdj g (cnsC L pl n).1,zqh g (cnsC L pl n).2)
 | 0,_=>rfl
 |n+1,hn=>by
  have hs:=W.shape
  have ih:=h.cns W hL n (by omega)
  have hin:=zkU (T:=L) pl n
  have h7':=h.part hs n
  rcases zaO L pl n with hc | ⟨hc,h7,h59⟩ | ⟨hc,hq⟩
  ·obtain⟨p,hp⟩:=Yf L (cnsC L pl n).1 hc
   have hc':isC (ix (zt g pl) n).1=true:=by rw[h.op' n];exact hc
   have hp':Go.Proofs.wdsC (Zd g L) (cnsC (Zd g L) (zt g pl) n).1 (zt g pl) n=some p:=by
    rw[ih]
    dsimp only
    rw[h.wdsC hs (by omega) hL hin,hp]
   rw[ZW hc' hp',ZW hc hp,ih,h.res n,h.ty n]
   dsimp only
   congr 1
   exact zfQ (f:=λc:Cn=>(g c.1,c.2)) (v:=((ix pl n).2.1,p.1)) λk hk=>h.eq (zaJ pl n) (hin.key k hk)
  ·rw[zbF (by rw[h7'];exact h7) (by rw[h.op' n];exact h59),zbF h7 h59,ih]
   dsimp only
   rw[h.varC hs (by omega) h59 hL hin,h.res n]
   congr 1
   exact zfQ (f:=λc:Vn=>(c.1,g c.2.1,c.2.2)) (v:=(Go.Proofs.varC L (cnsC L pl n).1 pl n).1) λk hk=>h.eq (zaJ pl n) (by
    obtain⟨j,_,j2,_⟩:=(zf0 n).2 k hk
    rw[<-j2]
    exact zaJ pl j)
  ·rw[YW (by rw[h.op' n];exact hc) (by rw[h7',h.op' n];exact hq),YW hc hq]
   exact ih
theorem zr.badC(h:zr g pl b')(W:yq bd pl)(hk:k<pl.length)(hL:TyIn pl L):Go.Proofs.badC (Zd g L) (zt g pl) k=Go.Proofs.badC L pl k:=by
 have hs:=W.shape
 have hin:=zkU (T:=L) pl k
 unfold Go.Proofs.badC
 rw[h.part hs k,h.cns W hL k (by omega)]
 split
 ·unfold errC
  rw[h.op' k]
  dsimp only
  by_cases e:(ix pl k).1=59
  ·rw[if_pos e,if_pos e,h.varC hs hk e hL hin]
  ·rw[if_neg e,if_neg e,h.wdsC hs hk hL hin]
 ·rfl
theorem zr.conE(h:zr g pl b')(hp:PlOk pl)(h0:0<=bd)(hs:(zp bd pl).1=0):Go.Proofs.conE b' (zt g pl)=Go.Proofs.conE bd pl:=by
 unfold Go.Proofs.conE
 rw[h.typE hs]
 by_cases hc:(Go.Proofs.typE bd pl).1≠0
 ·rw[if_pos hc,if_pos hc]
 rw[if_neg hc,if_neg hc,y5]
 have W:=(zpT (Classical.not_not.1 hc)).1.whole hp h0
 have e:tyL (zt g pl)=Zd g (tyL pl):=by
  show tysT (zt g pl) (zt g pl).length=_
  rw[y5,h.tys hs _ (Nat.le_refl _)]
 rw[e]
 exact zlY λk hk=>h.badC W hk (zhR hs _ (Nat.le_refl _))
end
end Go.Proofs
namespace Go.Proofs
open Go.Gk
set_option linter.unusedVariables false
set_option maxRecDepth 100000
def ZT:Ann:=(.q (.q (.seq none (.q (.one (.loop ⟨[0,3],[(4,(.b (.int .i64)))]⟩ (.seq none (.q .c) (.seq none (.one .nil) .nil))))) (.q .nil))))
def yN(p0:Sl)(R:VWP)(w:World):Prop:=(0<=(p0.l:Int)/\(p0.l:Int)<=(p0.l:Int)/\4*(p0.l:Int)<=281474976710656/\(p0.l:Int)<=9223372036854775807)/\Nw (w.alloc (.cells (madeCells #[zu 0] (p0.l*1)) 22)) λw1=>zl (S:=Int×Unit) (λs1 w2 n2=>ifB (decide (s1.1<(p0.l:Int))) ((0<=s1.1/\s1.1<(p0.l:Int))/\zc p0.a λa3=>ldI w2 (a3.add s1.1.toNat) .u32 λx4=>(0<=s1.1/\s1.1<(p0.l:Int))/\Wr w2 ((zB w).add s1.1.toNat)/\Nw (w2.setCell ((zB w).add s1.1.toNat) (zu x4)) λw3=>n2 ((IntKind.i64.wrap (s1.1+(1:Int))),()) w3) (R (.slice (some (zB w)) p0.l p0.l) w2)) (0,()) w1
theorem zaI(p0)(R)(w)(h:yN p0 R w):Calls Tryz.prog 23 #[.slice p0.a p0.l p0.c] w (Ret R):=lwC ZT Tryz.func23 (by kernel_rfl) (by kernel_rfl) h
def zft:Ann:=(.q (.seq none (.q (.q (.cond (.q .nil) .nil))) (.q (.seq (some ⟨[2,3,4,5,7],[(8,(.b .bool))]⟩) .nil (.seq none (.q (.one (.loop ⟨[2,3,4,5,33,34],[(8,(.b .bool)),(35,(.b (.int .i64)))]⟩ (.q (.seq none .c (.seq (some ⟨[2,3,4,5,33,34,35],[(8,(.b .bool))]⟩) (.one (.q .nil)) .nil)))))) (.seq none (.q (.cond (.q .nil) .nil)) (.q .nil)))))))
def zfi(p0:(Int×Int×Sl×Unit))(p1:Sl)(R:VWP)(w:World):Prop:=Nw (w.alloc (.cells #[zu p0.1,zu p0.2.1,p0.2.2.1.zw] 25)) λw1=>Nw (w1.alloc (.cells #[p1.zw] 30)) λw2=>Nw (w2.alloc (.cells #[zu 0,zu 0,.slice none 0 0] 25)) λw3=>Nw (w3.alloc (.cells #[zi 0,zi 0] 56)) λw4=>dc w4 (zB w) λx1 x2 x3=>dK 42 #[.agg #[zu x1,zu x2,x3.zw]] w4 λx5 w5=>dj w5 #[zi 0,zi 0] 56 (zi x5.1) (zi x5.2.1) λw8=>ldI w8 (zB w5) .i64 λx6=>ifB (x6 !=0) (dg w8.drew (zB w5) λx7 x8=>de w8.drew (zB w2) (zu 0) (zu 0) (.slice none 0 0) λw11=>w11.cell? ((zB w5).add 0)=some (zi x7)/\w11.cell? ((zB w5).add 1)=some (zi x8)/\di w11 (zB w3) (zi x7) (zi x8) λw13=>dc w13 (zB w2) λx9 x10 x11=>dg w13 (zB w3) λx12 x13=>R (.tuple #[.agg #[zu x9,zu x10,x11.zw],.agg #[zi x12,zi x13]]) w13) (ldS w8 (zB w1) λx14=>dm 44 #[x14.zw] w8 λx16 w14=>df 43 #[x16] w14 λx18 w15=>zj (S:=Bool×Unit) (λm19=>ldS w15 (zB w1) λx21=>ldI w15 ((zB w).add 1) .u32 λx22=>ifB ((x21.l:Int)==(IntKind.i64.wrap x22)) (ldS w15 (zB w1) λx23=>(0<=(0:Int)/\0<(x23.l:Int))/\zc x23.a λa24=>ldI w15 (a24.add 0) .u32 λx25=>m19 ((x25==0),()) w15) (m19 (false,()) w15)) (λs20 w16=>zl (S:=Bool×Int×Unit) (λs26 w17 n27=>ifB (decide (s26.2.1<(x18.l:Int))) (zj (S:=Bool×Unit) (λm28=>(0<=s26.2.1/\s26.2.1<(x18.l:Int))/\zc x18.a λa30=>ldI w17 (a30.add s26.2.1.toNat) .u32 λx31=>ifB s26.1 (m28 ((x31==(IntKind.u32.wrap s26.2.1)),()) w17) (m28 (false,()) w17)) (λs29 w18=>n27 (s29.1,(IntKind.i64.wrap (s26.2.1+(1:Int))),()) w18)) (ifB (!s26.1) (de w17 (zB w2) (zu 0) (zu 0) (.slice none 0 0) λw21=>di w21 (zB w3) (zi 2) (zi 0) λw23=>dc w23 (zB w2) λx32 x33 x34=>dg w23 (zB w3) λx35 x36=>R (.tuple #[.agg #[zu x32,zu x33,x34.zw],.agg #[zi x35,zi x36]]) w23) (dc w17 (zB w) λx37 x38 x39=>dX 45 #[.agg #[zu x37,zu x38,x39.zw],.func (.func 46) #[] #[.pointer (some (zB w1))]] w17 λx41 w24=>de w24 (zB w2) (zu x41.1) (zu x41.2.1) (x41.2.2.1.zw) λw27=>di w27 (zB w3) (zi 0) (zi 0) λw29=>dc w29 (zB w2) λx42 x43 x44=>dg w29 (zB w3) λx45 x46=>R (.tuple #[.agg #[zu x42,zu x43,x44.zw],.agg #[zi x45,zi x46]]) w29))) (s20.1,0,()) w16))
theorem zgl(p0)(p1)(R)(w)(h:zfi p0 p1 R w):Calls Tryz.prog 25 #[.agg #[.int .u32 p0.1,.int .u32 p0.2.1,.slice p0.2.2.1.a p0.2.2.1.l p0.2.2.1.c],.slice p1.a p1.l p1.c] w (Ret R):=lwC zft Tryz.func25 (by kernel_rfl) (by kernel_rfl) h
def zd3:Ann:=(.q (.q .nil))
def zdx(p0:Int)(c0:Addr)(R:VWP)(w:World):Prop:=ldS w c0 λx1=>(0<=p0/\p0<(x1.l:Int))/\zc x1.a λa2=>ldI w (a2.add p0.toNat) .u32 λx3=>R (zu x3) w
theorem zeP(p0)(c0)(R)(w)(h:zdx p0 c0 R w):Calls Tryz.prog 46 #[.int .u32 p0,.pointer (some c0)] w (Ret R):=lwC zd3 Tryz.func46 (by kernel_rfl) (by kernel_rfl) h
end Go.Proofs
