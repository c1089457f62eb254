/- ConstsFive, part 7; made small by a program. -/
import Derived.Test.YtnplhdcedgcdhaaGreatDoorProg
import Derived.Test.YtnplhdcedgcdhaaGreatDoorPConstsFive6
set_option linter.unusedVariables false
namespace Go.Proofs
open Go.Gk Go.RowKit Go.Gm
noncomputable def wdP(T:TyL)(pl:List PI)(k:Nat):List Int:=((wdsC T (cnsC T pl k).1 pl k).getD ([],0)).1
noncomputable def vaP(T:TyL)(pl:List PI)(k:Nat):Vn:=(varC T (cnsC T pl k).1 pl k).1
section
variable {bd:Int} {pl:List PI} {k:Nat} {T:TyL} {C:CnL}
theorem ZU(W:zV bd pl)(id:Int):∀n,n<=pl.length->(∀c,zv (cnsC T pl n).1 id=some c↔∃k,k<n/\isC (ix pl k).1=true/\(ix pl k).2.2.1=id/\c=((ix pl k).2.1,wdP T pl k))/\
  (∀v,zv (cnsC T pl n).2 id=some v↔∃k,k<n/\(zo (ix pl k)=7/\(ix pl k).1=59)/\(ix pl k).2.2.1=id/\v=vaP T pl k)
 | 0,_=>⟨λc=>⟨λh=>(by cases h),λ⟨k,h,_⟩=>(by omega)⟩,λc=>⟨λh=>(by cases h),λ⟨k,h,_⟩=>(by omega)⟩⟩
 |n+1,hn=>by
  obtain⟨h1,h2⟩:=ZU W id n (by omega)
  rcases zij T pl n with h | ⟨h,h7,h59⟩ | ⟨h,hq⟩
  ·obtain⟨p,hp⟩:=zeF T (cnsC T pl n).1 h
   rw[zgd h hp]
   have hw:wdP T pl n=p.1:=by unfold wdP;rw[hp];rfl
   have hnew:=zlO (T:=T) W (by omega:n<pl.length) h
   constructor
   ·intro c
    dsimp only
    rw[zc3]
    split
    ·rename_i e
     subst e
     constructor
     ·intro q
      cases q
      exact⟨n,by omega,h,rfl,by rw[hw]⟩
     ·rintro⟨k,k1,k2,k3,rfl⟩
      have:k=n:=Classical.byContradiction λhne=>W.new n (by omega) (zlW W.shape (by omega) h) k (by omega) (by omega) k3
      subst this
      rw[hw]
    ·rename_i e
     rw[h1 c]
     constructor
     ·rintro⟨k,k1,k2⟩
      exact⟨k,by omega,k2⟩
     ·rintro⟨k,k1,k2,k3,k4⟩
      refine⟨k,?_,k2,k3,k4⟩
      have:k≠n:=by rintro rfl;exact e k3.symm
      omega
   ·intro v
    dsimp only
    rw[h2 v]
    constructor
    ·rintro⟨k,k1,k2⟩
     exact⟨k,by omega,k2⟩
    ·rintro⟨k,k1,k2,k3⟩
     refine⟨k,?_,k2,k3⟩
     have:k≠n:=by
      rintro rfl
      rw[zL]at h
      omega
     omega
  ·rw[zj0 h7 h59]
   constructor
   ·intro c
    dsimp only
    rw[h1 c]
    constructor
    ·rintro⟨k,k1,k2⟩
     exact⟨k,by omega,k2⟩
    ·rintro⟨k,k1,k2,k3⟩
     refine⟨k,?_,k2,k3⟩
     have:k≠n:=by
      rintro rfl
      rw[h]at k2
      cases k2
     omega
   ·intro v
    dsimp only
    rw[zc3]
    split
    ·rename_i e
     subst e
     constructor
     ·intro q
      cases q
      exact⟨n,by omega,⟨h7,h59⟩,rfl,rfl⟩
     ·rintro⟨k,k1,k2,k3,rfl⟩
      have:k=n:=Classical.byContradiction λhne=>W.new n (by omega) (zps W (by omega) h59) k (by omega) (by omega) k3
      subst this
      rfl
    ·rename_i e
     rw[h2 v]
     constructor
     ·rintro⟨k,k1,k2⟩
      exact⟨k,by omega,k2⟩
     ·rintro⟨k,k1,k2,k3,k4⟩
      refine⟨k,?_,k2,k3,k4⟩
      have:k≠n:=by rintro rfl;exact e k3.symm
      omega
  ·rw[zh3 h hq]
   constructor
   ·intro c
    rw[h1 c]
    constructor
    ·rintro⟨k,k1,k2⟩
     exact⟨k,by omega,k2⟩
    ·rintro⟨k,k1,k2,k3⟩
     refine⟨k,?_,k2,k3⟩
     have:k≠n:=by
      rintro rfl
      rw[h]at k2
      cases k2
     omega
   ·intro v
    rw[h2 v]
    constructor
    ·rintro⟨k,k1,k2⟩
     exact⟨k,by omega,k2⟩
    ·rintro⟨k,k1,k2,k3⟩
     refine⟨k,?_,k2,k3⟩
     have:k≠n:=by
      rintro rfl
      exact hq k2
     omega
theorem zgj(W:zV bd pl){id:Int}{c:Cn}{n m:Nat}(hnm:n<=m)(hm:m<=pl.length)(h:zv (cnsC T pl n).1 id=some c):zv (cnsC T pl m).1 id=some c:=by
 obtain⟨k,k1,k2⟩:=((ZU W id n (by omega)).1 c).1 h
 exact((ZU W id m hm).1 c).2 ⟨k,by omega,k2⟩
theorem zh1{n:Nat}(h:(catC T C pl k n).2=0):∀j,j<n->∃w,zv C (agI pl k j)=some (((tA T (ix pl k).2.1).prt (j:Int)).1,w):=by
 induction n with
 |zero=>intro j hj;omega
 |succ n ih=>
  intro j hj
  unfold catC at h
  by_cases h1:(catC T C pl k n).2≠0
  ·rw[if_pos h1]at h;exact absurd h h1
  rw[if_neg h1]at h
  by_cases h2:(ofC C (agI pl k n) ((tA T (ix pl k).2.1).prt (n:Int)).1).2≠0
  ·rw[if_pos h2]at h;exact absurd h h2
  by_cases e:j=n
  ·subst e
   have h2:=Classical.not_not.1 h2
   unfold ofC at h2
   cases hl:zv C (agI pl k j) with
   |none=>rw[hl]at h2;cases h2
   |some c=>
    rw[hl]at h2
    have h2:(if c.1≠((tA T (ix pl k).2.1).prt (j:Int)).1 then(([]:List Int),(111:Int)) else(c.2,0)).2=0:=h2
    by_cases h3:c.1≠((tA T (ix pl k).2.1).prt (j:Int)).1
    ·rw[if_pos h3]at h2;cases h2
    ·refine⟨c.2,?_⟩
     rw[<-Classical.not_not.1 h3]
  ·exact ih (Classical.not_not.1 h1) j (by omega)
theorem znr{id ty:Int}{w:List Int}(h:zv C id=some (ty,w)):ofC C id ty=(w,0):=by
 unfold ofC
 rw[h]
 exact if_neg (λq=>q rfl)
theorem zjV{n:Nat}(h:(catC T C pl k n).2=0):(catC T C pl k n).1=(List.range n).flatMap λj=>((zv C (agI pl k j)).getD (0,[])).2:=by
 induction n with
 |zero=>rfl
 |succ n ih=>
  obtain⟨w,hw⟩:=zh1 h n (by omega)
  have ho:=znr hw
  have h1:(catC T C pl k n).2=0:=by
   refine Classical.byContradiction λq=>?_
   unfold catC at h
   rw[if_pos q]at h
   exact q h
  unfold catC
  rw[if_neg (λq=>q h1),ho,if_neg (λq=>q rfl),ih h1,List.range_succ,List.flatMap_append]
  simp only[List.flatMap_cons,List.flatMap_nil,List.append_nil]
  rw[hw]
  rfl
theorem CnOk.whole(h:CnOk bd pl)(hp:PlOk pl)(h0:0<=bd):zV bd pl:=h.ty.whole hp h0
theorem zmE(hb:badC (tyL pl) pl k=0)(hc:isC (ix pl k).1=true):wdsC (tyL pl) (cnsC (tyL pl) pl k).1 pl k=some (wdP (tyL pl) pl k,0):=by
 unfold badC at hb
 rw[if_pos (zkz hc)]at hb
 unfold errC at hb
 rw[if_neg (λe=>by rw[zL]at hc;omega)]at hb
 obtain⟨p,hp⟩:=zeF (tyL pl) (cnsC (tyL pl) pl k).1 hc
 rw[hp]at hb⊢
 have hb:p.2=0:=hb
 unfold wdP
 rw[hp]
 show some p=some (p.1,0)
 rw[<-hb]
theorem CnOk.const(h:CnOk bd pl)(hk:k<pl.length)(hc:isC (ix pl k).1=true):wdsC (tyL pl) (cnsC (tyL pl) pl k).1 pl k=some (wdP (tyL pl) pl k,0):=zmE (h.no k hk) hc
theorem CnOk.var(h:CnOk bd pl)(hk:k<pl.length)(h7:zo (ix pl k)=7)(h59:(ix pl k).1=59):(varC (tyL pl) (cnsC (tyL pl) pl k).1 pl k).2=0:=by
 have hb:=h.no k hk
 unfold badC at hb
 rw[if_pos h7]at hb
 unfold errC at hb
 rwa[if_pos h59]at hb
theorem zku(t:Tp)(h:TpOk T t):t.full.length=t.cnt:=by
 unfold Tp.full Tp.cnt
 by_cases e:t.kind=4\/t.kind=5
 ·obtain⟨h1,h2,h3⟩:=h.many e
  rw[if_pos h1,List.length_replicate,h3]
  rfl
 ·obtain⟨h1,h2⟩:=h.few e
  rw[h1,if_neg (by omega),Nat.zero_add]
theorem zmZ{t:Tp}(h:TpOk T t){j:Nat}(hj:j<t.cnt):t.prt (j:Int)=(t.full.getD j 0,true):=by
 unfold Tp.prt
 rw[if_neg (by omega)]
 unfold Tp.full
 by_cases e:0<t.times
 ·rw[if_pos e,if_pos e]
  have hk:t.kind=4\/t.kind=5:=Classical.byContradiction λhn=>by have:=(h.few hn).1;omega
  have:t.cnt=t.times:=by unfold Tp.cnt;rw[(h.many hk).2.2];rfl
  rw[zA (by rw[List.length_replicate];omega),List.getElem_replicate]
 ·rw[if_neg e,if_neg e,Int.toNat_natCast]
theorem zo5{α:Type}(l:List α)(d:α):(List.range l.length).map (λj=>l.getD j d)=l:=by
 refine List.ext_getElem (by simp) λi h1 h2=>?_
 rw[List.getElem_map,List.getElem_range]
 exact zA h2
theorem zlY(hT:TbOk T){id:Int}(h:(tA T id).kind≠0):TpOk T (tA T id):=zdD hT h
theorem zsi(h:TyOk bd pl)(hp:PlOk pl)(h0:0<=bd):∀k,k<pl.length->(∀j,j<=k->badC (tyL pl) pl j=0)->isC (ix pl k).1=true->(wdP (tyL pl) pl k).length=(tA (tyL pl) (ix pl k).2.1).size:=by
 have W:=h.whole hp h0
 have hT:TbOk (tyL pl):=h.tb hp h0 (Nat.le_refl pl.length)
 intro k
 induction k using Nat.strongRecOn with
 |_ k ih=>
  intro hk hno hc
  have hw:=zmE (hno k (Nat.le_refl k)) hc
  generalize hwd:wdP (tyL pl) pl k=wd at hw⊢
  unfold wdsC at hw
  by_cases e1:(ix pl k).1=1\/(ix pl k).1=46
  ·rw[if_pos e1]at hw
   injection hw with hw
   split at hw
   ·cases hw
   ·cases hw
    exact List.length_replicate
  rw[if_neg e1]at hw
  by_cases e2:(ix pl k).1=41\/(ix pl k).1=42
  ·rw[if_pos e2]at hw
   injection hw with hw
   by_cases e:(tA (tyL pl) (ix pl k).2.1).kind≠2
   ·rw[if_pos e]at hw;cases hw
   rw[if_neg e]at hw
   have e:=Classical.not_not.1 e
   have h1:=((zlY hT (id:=(ix pl k).2.1) (by omega)).one (by omega)).1
   rw[h1]
   cases hw
   split<;>rfl
  rw[if_neg e2]at hw
  by_cases e3:(ix pl k).1=43
  ·rw[if_pos e3]at hw
   injection hw with hw
   by_cases e:(tA (tyL pl) (ix pl k).2.1).kind≠3
   ·rw[if_pos e]at hw;cases hw
   rw[if_neg e]at hw
   have e:=Classical.not_not.1 e
   have h1:=((zlY hT (id:=(ix pl k).2.1) (by omega)).one (by omega)).1
   rw[h1]
   cases hw
   rfl
  rw[if_neg e3]at hw
  by_cases e4:(ix pl k).1=44
  ·rw[if_pos e4]at hw
   injection hw with hw
   by_cases e:¬(4<=(tA (tyL pl) (ix pl k).2.1).kind/\(tA (tyL pl) (ix pl k).2.1).kind<=6)
   ·rw[if_pos e]at hw;cases hw
   rw[if_neg e]at hw
   have e:=Classical.not_not.1 e
   by_cases e5:(ix pl k).2.2.2.length≠(tA (tyL pl) (ix pl k).2.1).cnt
   ·rw[if_pos e5]at hw;cases hw
   rw[if_neg e5]at hw
   have e5:=Classical.not_not.1 e5
   have htp:=zlY hT (id:=(ix pl k).2.1) (by omega)
   generalize ht:tA (tyL pl) (ix pl k).2.1=t at e e5 htp hw⊢
   have hc0:(catC (tyL pl) (cnsC (tyL pl) pl k).1 pl k (ix pl k).2.2.2.length).2=0:=by rw[hw]
   have hcw:=zjV hc0
   rw[hw]at hcw
   have hcw:wd=_:=hcw
   rw[hcw,List.length_flatMap,(htp.sub e).2.2.1,sumT]
   congr 1
   rw[e5,<-zku t htp]
   conv=>rhs;rw[<-zo5 t.full 0]
   rw[List.map_map]
   refine List.map_congr_left λj hj=>?_
   have hj:=List.mem_range.1 hj
   rw[zku t htp]at hj
   obtain⟨w',hw'⟩:=zh1 hc0 j (by omega)
   rw[hw']
   show w'.length=(tA (tyL pl) (t.full.getD j 0)).size
   obtain⟨k',k1,k2,k3,k4⟩:=((ZU (T:=tyL pl) W (agI pl k j) k (by omega)).1 _).1 hw'
   injection k4 with k4 k5
   rw[k5,ih k' k1 (by omega) (λj hj=>hno j (by omega)) k2,<-k4,ht,zmZ htp hj]
  rw[if_neg e4]at hw
  cases hw
theorem zdU(hT:TbOk T)(id:Int):(tA T id).size<=4096:=by
 unfold tA
 cases h:zv T id with
 |none=>exact Nat.zero_le _
 |some t=>exact(hT id t h).max.1
theorem zmC(h:TyOk bd pl)(hp:PlOk pl)(h0:0<=bd){n:Nat}(hn:n<=pl.length)(hno:∀j,j<n->badC (tyL pl) pl j=0){id:Int}{c:Cn}(hc:zv (cnsC (tyL pl) pl n).1 id=some c):c.2.length=(tA (tyL pl) c.1).size:=by
 obtain⟨k,k1,k2,k3,rfl⟩:=((ZU (h.whole hp h0) id n hn).1 c).1 hc
 exact zsi h hp h0 k (by omega) (λj hj=>hno j (by omega)) k2
theorem znq{m:Nat}(h:∀id c,zv C id=some c->c.2.length<=m)(id ty:Int):(ofC C id ty).1.length<=m:=by
 unfold ofC
 cases hl:zv C id with
 |none=>exact Nat.zero_le _
 |some c=>
  dsimp only
  split
  ·exact Nat.zero_le _
  ·exact h id c hl
theorem zli{m:Nat}(h:∀id c,zv C id=some c->c.2.length<=m):∀n,(catC T C pl k n).1.length<=n*m
 | 0=>Nat.zero_le _
 |n+1=>by
  have ih:=zli h n
  have e:(n+1)*m=n*m+m:=Nat.succ_mul n m
  unfold catC
  split
  ·omega
  ·split
   ·exact Nat.zero_le _
   ·rw[List.length_append]
    have:=znq h (agI pl k n) ((tA T (ix pl k).2.1).prt (n:Int)).1
    omega
end
end Go.Proofs
namespace Go.Proofs
open Go.Gk
set_option linter.unusedVariables false
set_option maxRecDepth 100000
def zbX:Ann:=(.q (.seq none (.q (.cond (.q .nil) .nil)) (.q (.q .nil))))
def zbC(p0:Option Addr)(p1:Int)(R:VWP)(w:World):Prop:=ifB (Option.isNone p0) (R (.tuple #[zu 0,.slice none 0 0,.bool false]) w) (ze p0 λa1=>ldM w (a1.add 2) λx2=>zeZ Tryz.prog 77 (.map x2) (zu p1) [(.int .u32),.slice] w λ(x3:(Int×Sl×Unit)) (b4:Bool)=>dg w #[zu 0,.slice none 0 0] 75 (zu x3.1) (x3.2.1.zw) λw3=>ldI w3.drew (zB w) .u32 λx5=>ldS w3.drew ((zB w).add 1) λx6=>dk 35 #[x6.zw] w3.drew λx8 w4=>w4.cell? (zB w)=some (zu x5)/\R (.tuple #[zu x5,x8.zw,.bool b4]) w4)
theorem Ys(p0)(p1)(R)(w)(h:zbC p0 p1 R w):Calls Tryz.prog 12 #[.pointer p0,.int .u32 p1] w (Ret R):=lwC zbX Tryz.func12 (by kernel_rfl) (by kernel_rfl) h
def Y9:Ann:=(.q (.seq none (.q (.cond (.q .nil) .nil)) (.q (.q .nil))))
def Y4(p0:Option Addr)(p1:Int)(R:VWP)(w:World):Prop:=ifB (Option.isNone p0) (R (.tuple #[zu 0,zu 0,.slice none 0 0,.bool false]) w) (ze p0 λa1=>ldM w (a1.add 4) λx2=>zeZ Tryz.prog 78 (.map x2) (zu p1) [(.int .u32),(.int .u32),.slice] w λ(x3:(Int×Int×Sl×Unit)) (b4:Bool)=>dU w #[zu 0,zu 0,.slice none 0 0] 85 (zu x3.1) (zu x3.2.1) (x3.2.2.1.zw) λw4=>ldI w4.drew (zB w) .u32 λx5=>ldI w4.drew ((zB w).add 1) .u32 λx6=>ldS w4.drew (((zB w).add 1).add 1) λx7=>dk 35 #[x7.zw] w4.drew λx9 w5=>w5.cell? ((zB w).add 1)=some (zu x6)/\w5.cell? (zB w)=some (zu x5)/\R (.tuple #[zu x5,zu x6,x9.zw,.bool b4]) w5)
theorem Z4(p0)(p1)(R)(w)(h:Y4 p0 p1 R w):Calls Tryz.prog 17 #[.pointer p0,.int .u32 p1] w (Ret R):=lwC Y9 Tryz.func17 (by kernel_rfl) (by kernel_rfl) h
def zdz:Ann:=(.q (.seq none (.q (.cond (.q .nil) .nil)) (.q .nil)))
def zds(p0:Option Addr)(R:VWP)(w:World):Prop:=ifB (Option.isNone p0) (R (.slice none 0 0) w) (ze p0 λa1=>ldS w (a1.add 1) λx2=>dk 35 #[x2.zw] w λx4 w1=>R (x4.zw) w1)
theorem zaz(p0)(R)(w)(h:zds p0 R w):Calls Tryz.prog 18 #[.pointer p0] w (Ret R):=lwC zdz Tryz.func18 (by kernel_rfl) (by kernel_rfl) h
def Yn:Ann:=(.q (.seq none (.q (.cond (.q .nil) .nil)) (.q .nil)))
def Yl(p0:Option Addr)(R:VWP)(w:World):Prop:=ifB (Option.isNone p0) (R (.slice none 0 0) w) (ze p0 λa1=>ldS w (a1.add 3) λx2=>dk 35 #[x2.zw] w λx4 w1=>R (x4.zw) w1)
theorem Zh(p0)(R)(w)(h:Yl p0 R w):Calls Tryz.prog 19 #[.pointer p0] w (Ret R):=lwC Yn Tryz.func19 (by kernel_rfl) (by kernel_rfl) h
def zbW:Ann:=(.q (.seq none (.q (.cond (.q .nil) .nil)) (.q .nil)))
def zbB(p0:Option Addr)(R:VWP)(w:World):Prop:=ifB (Option.isNone p0) (R (.pointer none) w) (ze p0 λa1=>ldP w a1 λx2=>R (.pointer x2) w)
theorem Yr(p0)(R)(w)(h:zbB p0 R w):Calls Tryz.prog 20 #[.pointer p0] w (Ret R):=lwC zbW Tryz.func20 (by kernel_rfl) (by kernel_rfl) h
def zcI:Ann:=(.q (.seq none (.q (.cond (.q .nil) .nil)) (.q (.seq none (.q (.cond (.q .nil) .nil)) (.q .nil)))))
def zc8(p0:Option Addr)(p1:Int)(p2:Sl)(R:VWP)(w:World):Prop:=Nw (w.alloc (.cells #[.pointer p0] 26)) λw1=>Nw (w1.alloc (.cells #[zu p1] 22)) λw2=>Nw (w2.alloc (.cells #[p2.zw] 30)) λw3=>ldP w3 (zB w) λx1=>ifB (Option.isNone x1) (R (.tuple #[zu 0,.bool false]) w3) (ldP w3 (zB w) λx2=>ze x2 λa3=>ldS w3 (a3.add 1) λx4=>dm 39 #[x4.zw,.func (.func 40) #[] #[.pointer (some (zB w)),.pointer (some (zB w1)),.pointer (some (zB w2))]] w3 λx6 w4=>ifB (decide (x6<(0:Int))) (R (.tuple #[zu 0,.bool false]) w4) (ldP w4 (zB w) λx7=>ze x7 λa8=>ldS w4 (a8.add 1) λx9=>(0<=x6/\x6<(x9.l:Int))/\ze x9.a λa10=>ldI w4 (a10.add x6.toNat) .u32 λx11=>R (.tuple #[zu x11,.bool true]) w4))
theorem YE(p0)(p1)(p2)(R)(w)(h:zc8 p0 p1 p2 R w):Calls Tryz.prog 22 #[.pointer p0,.int .u32 p1,.slice p2.a p2.l p2.c] w (Ret R):=lwC zcI Tryz.func22 (by kernel_rfl) (by kernel_rfl) h
def zhs:Ann:=(.q (.q (.seq none (.q (.cond (.q .nil) .nil)) (.q (.q (.q (.seq none (.q (.one (.loop ⟨[1,3,6,8,9],[(10,(.b (.int .i64)))]⟩ (.seq none (.q .c) (.seq none (.one (.q (.q (.cond (.q .nil) .nil)))) .nil))))) (.q .nil))))))))
def zhj(p0:(Int×Int×Sl×Unit))(R:VWP)(w:World):Prop:=Nw (w.alloc (.cells #[zu p0.1,zu p0.2.1,p0.2.2.1.zw] 25)) λw1=>Nw (w1.alloc (.cells #[zi 0,zi 0] 56)) λw2=>dc w2 (zB w) λx1 x2 x3=>dL 48 #[.agg #[zu x1,zu x2,x3.zw]] w2 λx5 x6 w3=>dg w3 #[zi 0,zi 0] 56 (zi x6.1) (zi x6.2.1) λw6=>ldI w6 (zB w3) .i64 λx7=>ifB (x7 !=0) (dd w6.drew (zB w3) λx8 x9=>df w6.drew (zB w1) (zi x8) (zi x9) λw8=>dd w8 (zB w1) λx10 x11=>R (.tuple #[.pointer none,.agg #[zi x10,zi x11]]) w8) (dc w6 (zB w) λx12 x13 x14=>di 49 #[.agg #[zu x12,zu x13,x14.zw]] w6 λx16 x17 w9=>Nw (w9.alloc (.cells (List.toArray (List.replicate 20 (zi 0))) 100)) λw10=>Nw (w10.alloc (.cells #[zi 0,zi 0] 56)) λw11=>de w11 (zB w9) (zi x16.1) (zi x16.2.1) (zi x16.2.2.1) (zi x16.2.2.2.1) (zi x16.2.2.2.2.1) (zi x16.2.2.2.2.2.1) (zi x16.2.2.2.2.2.2.1) (zi x16.2.2.2.2.2.2.2.1) (zi x16.2.2.2.2.2.2.2.2.1) (zi x16.2.2.2.2.2.2.2.2.2.1) (zi x16.2.2.2.2.2.2.2.2.2.2.1) (zi x16.2.2.2.2.2.2.2.2.2.2.2.1) (zi x16.2.2.2.2.2.2.2.2.2.2.2.2.1) (zi x16.2.2.2.2.2.2.2.2.2.2.2.2.2.1) (zi x16.2.2.2.2.2.2.2.2.2.2.2.2.2.2.1) (zi x16.2.2.2.2.2.2.2.2.2.2.2.2.2.2.2.1) (zi x16.2.2.2.2.2.2.2.2.2.2.2.2.2.2.2.2.1) (zi x16.2.2.2.2.2.2.2.2.2.2.2.2.2.2.2.2.2.1) (zi x16.2.2.2.2.2.2.2.2.2.2.2.2.2.2.2.2.2.2.1) (zi x16.2.2.2.2.2.2.2.2.2.2.2.2.2.2.2.2.2.2.2.1) λw31=>df w31 (zB w10) (zi x17.1) (zi x17.2.1) λw33=>Nw (w33.alloc (.map #[] 0)) λw34=>Nw (w34.alloc (.map #[] 0)) λw35=>Nw (w35.alloc (.cells #[.pointer x5,.slice none 0 0,.map (some w33.heap.size),.slice none 0 0,.map (some w34.heap.size)] 80)) λw36=>dj 50 #[.pointer (some (zB w35))] w36 λx19 w37=>(0<=(7:Int)/\(7:Int)<10)/\ldI w37 ((zB w9).add (7*2)) .i64 λx20=>zn (S:=Int×Unit) (λs21 w38 n22=>(0<=(7:Int)/\(7:Int)<10)/\ldI w38 (((zB w9).add (7*2)).add 1) .i64 λx23=>ifB (decide (s21.1<x23)) (ldS w38 ((zB w).add 2) λx24=>(0<=s21.1/\s21.1<(x24.l:Int))/\ze x24.a λa25=>da w38 (a25.add (s21.1.toNat *4)) λx26 x27 x28 x29=>dm 51 #[.pointer (some (zB w35)),.agg #[zh x26,zu x27,zu x28,x29.zw],.map x19] w38 λx31 w39=>ifB (x31 !=0) (df w39 (zB w1) (zi x31) (zi s21.1) λw41=>dd w41 (zB w1) λx32 x33=>R (.tuple #[.pointer none,.agg #[zi x32,zi x33]]) w41) (n22 ((IntKind.i64.wrap (s21.1+(1:Int))),()) w39)) (df w38 (zB w1) (zi 0) (zi 0) λw43=>dd w43 (zB w1) λx34 x35=>R (.tuple #[.pointer (some (zB w35)),.agg #[zi x34,zi x35]]) w43)) (x20,()) w37)
theorem zit(p0)(R)(w)(h:zhj p0 R w):Calls Tryz.prog 27 #[.agg #[.int .u32 p0.1,.int .u32 p0.2.1,.slice p0.2.2.1.a p0.2.2.1.l p0.2.2.1.c]] w (Ret R):=lwC zhs Tryz.func27 (by kernel_rfl) (by kernel_rfl) h
def zfm:Ann:=(.q (.q (.q (.q .nil))))
def zb1(p0:Sl)(R:VWP)(w:World):Prop:=(0<=(p0.l:Int)/\(p0.l:Int)<=(p0.l:Int)/\4*(p0.l:Int)<=281474976710656/\(p0.l:Int)<=9223372036854775807)/\Nw (w.alloc (.cells (madeCells #[zu 0] (p0.l*1)) 22)) λw1=>zrV Tryz.prog #[30,30] (.slice (some (zB w)) p0.l p0.l) (p0.zw) w1 λx1 w2=>R (.slice (some (zB w)) p0.l p0.l) w2
theorem zgu(p0)(R)(w)(h:zb1 p0 R w):Calls Tryz.prog 35 #[.slice p0.a p0.l p0.c] w (Ret R):=lwC zfm Tryz.func35 (by kernel_rfl) (by kernel_rfl) h
def zaZ:Ann:=(.q (.q (.q .nil)))
def zaI(p0:Int)(c0:Addr)(c1:Addr)(c2:Addr)(R:VWP)(w:World):Prop:=ldP w c0 λx1=>ze x1 λa2=>ldM w (a2.add 2) λx3=>Yf Tryz.prog 77 (.map x3) (zu p0) [(.int .u32),.slice] w λ(x4:(Int×Sl×Unit))=>dg w #[zu 0,.slice none 0 0] 75 (zu x4.1) (x4.2.1.zw) λw3=>ldI w3 (zB w) .u32 λx5=>ldI w3 c1 .u32 λx6=>ifB (x5==x6) (ldS w3 ((zB w).add 1) λx7=>ldS w3 c2 λx8=>db 41 #[x7.zw,x8.zw] w3 λx10 w4=>R (.bool x10) w4) (R (.bool false) w3)
theorem zdE(p0)(c0)(c1)(c2)(R)(w)(h:zaI p0 c0 c1 c2 R w):Calls Tryz.prog 40 #[.int .u32 p0,.pointer (some c0),.pointer (some c1),.pointer (some c2)] w (Ret R):=lwC zaZ Tryz.func40 (by kernel_rfl) (by kernel_rfl) h
def zba:Ann:=(.q (.q .nil))
def zaJ(p0:Option Addr)(R:VWP)(w:World):Prop:=Nw (w.alloc (.map #[] 0)) λw1=>updW Tryz.prog 103 (.map (some w.heap.size)) (zh 1) (.func (.func 68) #[.pointer p0] #[]) w1 λw2=>updW Tryz.prog 103 (.map (some w.heap.size)) (zh 46) (.func (.func 68) #[.pointer p0] #[]) w2 λw3=>updW Tryz.prog 103 (.map (some w.heap.size)) (zh 41) (.func (.func 69) #[.pointer p0] #[]) w3 λw4=>updW Tryz.prog 103 (.map (some w.heap.size)) (zh 42) (.func (.func 69) #[.pointer p0] #[]) w4 λw5=>updW Tryz.prog 103 (.map (some w.heap.size)) (zh 43) (.func (.func 70) #[.pointer p0] #[]) w5 λw6=>updW Tryz.prog 103 (.map (some w.heap.size)) (zh 44) (.func (.func 71) #[.pointer p0] #[]) w6 λw7=>R (.map (some w.heap.size)) w7
theorem zdF(p0)(R)(w)(h:zaJ p0 R w):Calls Tryz.prog 50 #[.pointer p0] w (Ret R):=lwC zba Tryz.func50 (by kernel_rfl) (by kernel_rfl) h
def zd0:Ann:=(.q (.seq none (.q (.cond (.q (.q (.q (.q .nil)))) .nil)) (.q (.seq none (.q (.cond (.q .nil) .nil)) (.q (.q (.q (.q .nil))))))))
def zdt(p0:Option Addr)(p1:(Int×Int×Int×Sl×Unit))(p2:Option Nat)(R:VWP)(w:World):Prop:=Nw (w.alloc (.cells #[zh p1.1,zu p1.2.1,zu p1.2.2.1,p1.2.2.2.1.zw] 52)) λw1=>ldI w1 (zB w) .u16 λx1=>ifB (x1==59) (da w1 (zB w) λx2 x3 x4 x5=>dV 72 #[.pointer p0,.agg #[zh x2,zu x3,zu x4,x5.zw]] w1 λx7 x8 w2=>dU w2 #[zu 0,zu 0,.slice none 0 0] 85 (zu x7.1) (zu x7.2.1) (x7.2.2.1.zw) λw6=>ze p0 λa9=>ldS w6.drew (a9.add 3) λx10=>ldI w6.drew ((zB w).add 2) .u32 λx11=>Nw (w6.drew.alloc (.cells #[zu x11] 22)) λw7=>w7.cell? (a9.add 3)=some (x10.zw)/\zr Tryz.prog 30 (x10.zw) (.slice (some (blk w6.drew.heap.size)) 1 1) w7 λr12 w8=>ze p0 λa13=>Wr w8 (a13.add 3)/\Nw (w8.setCell (a13.add 3) (r12.zw)) λw9=>ze p0 λa14=>ldM w9.drew (a14.add 4) λx15=>ldI w9.drew ((zB w).add 2) .u32 λx16=>dc w9.drew (zB w2) λx17 x18 x19=>updW Tryz.prog 78 (.map x15) (zu x16) (.agg #[zu x17,zu x18,x19.zw]) w9.drew λw10=>R (zi x8) w10) (ldI w1 (zB w) .u16 λx20=>lookV Tryz.prog 103 (.map p2) (zh x20) BK.raw w1 λ(x21:Value)=>zeQ x21 λb22=>ifB b22 (R (zi 0) w1) (da w1 (zB w) λx23 x24 x25 x26=>ZT Tryz.prog Tryz.fs x21 [(.agg #[zh x23,zu x24,zu x25,x26.zw])] w1 λv27 w11=>∃x28:Sl,∃x29:Int,v27=(.tuple #[x28.zw,zi x29])/\ze p0 λa30=>ldS w11.drew (a30.add 1) λx31=>ldI w11.drew ((zB w).add 2) .u32 λx32=>Nw (w11.drew.alloc (.cells #[zu x32] 22)) λw12=>w12.cell? (a30.add 1)=some (x31.zw)/\zr Tryz.prog 30 (x31.zw) (.slice (some (blk w11.drew.heap.size)) 1 1) w12 λr33 w13=>ze p0 λa34=>Wr w13 (a34.add 1)/\Nw (w13.setCell (a34.add 1) (r33.zw)) λw14=>ze p0 λa35=>ldM w14.drew (a35.add 2) λx36=>ldI w14.drew ((zB w).add 2) .u32 λx37=>ldI w14.drew ((zB w).add 1) .u32 λx38=>updW Tryz.prog 77 (.map x36) (zu x37) (.agg #[zu x38,x28.zw]) w14.drew λw15=>R (zi x29) w15))
theorem zfy(p0)(p1)(p2)(R)(w)(h:zdt p0 p1 p2 R w):Calls Tryz.prog 51 #[.pointer p0,.agg #[.int .u16 p1.1,.int .u32 p1.2.1,.int .u32 p1.2.2.1,.slice p1.2.2.2.1.a p1.2.2.2.1.l p1.2.2.2.1.c],.map p2] w (Ret R):=lwC zd0 Tryz.func51 (by kernel_rfl) (by kernel_rfl) h
def zak:Ann:=(.q (.seq none (.q (.cond (.q .nil) .nil)) (.q .nil)))
def YW(p0:Option Addr)(p1:(Int×Int×Int×Sl×Unit))(R:VWP)(w:World):Prop:=Nw (w.alloc (.cells #[zh p1.1,zu p1.2.1,zu p1.2.2.1,p1.2.2.2.1.zw] 52)) λw1=>ze p0 λa1=>ldP w1.drew a1 λx2=>ldI w1.drew ((zB w).add 1) .u32 λx3=>db 96 #[.pointer x2,zu x3] w1.drew λx5 w2=>ifB (!x5) (R (.tuple #[.slice none 0 0,zi 100]) w2) (ze p0 λa6=>ldP w2.drew a6 λx7=>ldI w2.drew ((zB w).add 1) .u32 λx8=>dm 97 #[.pointer x7,zu x8] w2.drew λx10 w3=>(0<=x10/\x10<=x10/\4*x10<=281474976710656/\x10<=9223372036854775807)/\Nw (w3.alloc (.cells (madeCells #[zu 0] (x10.toNat *1)) 22)) λw4=>R (.tuple #[.slice (some (zB w3)) x10.toNat x10.toNat,zi 0]) w4)
theorem zdc(p0)(p1)(R)(w)(h:YW p0 p1 R w):Calls Tryz.prog 68 #[.pointer p0,.agg #[.int .u16 p1.1,.int .u32 p1.2.1,.int .u32 p1.2.2.1,.slice p1.2.2.2.1.a p1.2.2.2.1.l p1.2.2.2.1.c]] w (Ret R):=lwC zak Tryz.func68 (by kernel_rfl) (by kernel_rfl) h
def zbZ:Ann:=(.q (.seq none (.q (.cond (.q .nil) .nil)) (.seq none (.q (.cond (.q .nil) .nil)) (.q .nil))))
def zbE(p0:Option Addr)(p1:(Int×Int×Int×Sl×Unit))(R:VWP)(w:World):Prop:=Nw (w.alloc (.cells #[zh p1.1,zu p1.2.1,zu p1.2.2.1,p1.2.2.2.1.zw] 52)) λw1=>ldI w1 ((zB w).add 1) .u32 λx1=>Nw (w1.alloc (.cells #[zb 2] 5)) λw2=>db 98 #[.pointer p0,zu x1,.slice (some (zB w1)) 1 1] w2 λx3 w3=>ifB (!x3) (R (.tuple #[.slice none 0 0,zi 100]) w3) (ldI w3 (zB w) .u16 λx4=>ifB (x4==41) (Nw (w3.alloc (.cells #[zu 1] 22)) λw4=>R (.tuple #[.slice (some (zB w3)) 1 1,zi 0]) w4) (Nw (w3.alloc (.cells #[zu 0] 22)) λw5=>R (.tuple #[.slice (some (zB w3)) 1 1,zi 0]) w5))
theorem zel(p0)(p1)(R)(w)(h:zbE p0 p1 R w):Calls Tryz.prog 69 #[.pointer p0,.agg #[.int .u16 p1.1,.int .u32 p1.2.1,.int .u32 p1.2.2.1,.slice p1.2.2.2.1.a p1.2.2.2.1.l p1.2.2.2.1.c]] w (Ret R):=lwC zbZ Tryz.func69 (by kernel_rfl) (by kernel_rfl) h
def zbb:Ann:=(.q (.seq none (.q (.cond (.q .nil) .nil)) (.q .nil)))
def zaK(p0:Option Addr)(p1:(Int×Int×Int×Sl×Unit))(R:VWP)(w:World):Prop:=Nw (w.alloc (.cells #[zh p1.1,zu p1.2.1,zu p1.2.2.1,p1.2.2.2.1.zw] 52)) λw1=>ldI w1 ((zB w).add 1) .u32 λx1=>Nw (w1.alloc (.cells #[zb 3] 5)) λw2=>db 98 #[.pointer p0,zu x1,.slice (some (zB w1)) 1 1] w2 λx3 w3=>ifB (!x3) (R (.tuple #[.slice none 0 0,zi 100]) w3) (ldS w3 ((zB w).add 3) λx4=>(0<=(0:Int)/\0<(x4.l:Int))/\ze x4.a λa5=>ldI w3 ((a5.add (0*3)).add 1) .u32 λx6=>Nw (w3.alloc (.cells #[zu x6] 22)) λw4=>R (.tuple #[.slice (some (zB w3)) 1 1,zi 0]) w4)
theorem zdG(p0)(p1)(R)(w)(h:zaK p0 p1 R w):Calls Tryz.prog 70 #[.pointer p0,.agg #[.int .u16 p1.1,.int .u32 p1.2.1,.int .u32 p1.2.2.1,.slice p1.2.2.2.1.a p1.2.2.2.1.l p1.2.2.2.1.c]] w (Ret R):=lwC zbb Tryz.func70 (by kernel_rfl) (by kernel_rfl) h
def Yo:Ann:=(.q (.seq none (.q (.cond (.q .nil) .nil)) (.seq none (.q (.cond (.q .nil) .nil)) (.q (.seq none (.q (.one (.loop ⟨[0,3,31,32],[(6,(.b .slice)),(33,(.b (.int .i64)))]⟩ (.q (.seq none .c (.seq none (.one (.q (.q (.q (.seq none (.q (.cond (.q .nil) .nil)) .nil))))) .nil)))))) (.q .nil))))))
def Ym(p0:Option Addr)(p1:(Int×Int×Int×Sl×Unit))(R:VWP)(w:World):Prop:=Nw (w.alloc (.cells #[zh p1.1,zu p1.2.1,zu p1.2.2.1,p1.2.2.2.1.zw] 52)) λw1=>ldI w1 ((zB w).add 1) .u32 λx1=>Nw (w1.alloc (.cells #[zb 4,zb 5,zb 6] 5)) λw2=>db 98 #[.pointer p0,zu x1,.slice (some (zB w1)) 3 3] w2 λx3 w3=>ifB (!x3) (R (.tuple #[.slice none 0 0,zi 100]) w3) (ldS w3.drew ((zB w).add 3) λx4=>ze p0 λa5=>ldP w3.drew a5 λx6=>ldI w3.drew ((zB w).add 1) .u32 λx7=>dm 99 #[.pointer x6,zu x7] w3.drew λx9 w4=>w4.cell? ((zB w).add 3)=some (x4.zw)/\ifB ((x4.l:Int) !=x9) (R (.tuple #[.slice none 0 0,zi 111]) w4) (ldS w4 ((zB w).add 3) λx10=>zn (S:=Sl×Int×Unit) (λs11 w5 n12=>ifB (decide (s11.2.1<(x10.l:Int))) ((0<=s11.2.1/\s11.2.1<(x10.l:Int))/\ze x10.a λa13=>dw w5 (a13.add (s11.2.1.toNat *3)) λx14 x15 x16=>Nw (w5.alloc (.cells #[zb 0,zu 0,.string (BM #[])] 48)) λw6=>dz w6 (zB w5) (zb x14) (zu x15) (.string x16) λw9=>ze p0 λa17=>ldP w9.drew a17 λx18=>ldI w9.drew ((zB w).add 1) .u32 λx19=>dW 100 #[.pointer x18,zu x19,zi s11.2.1] w9.drew λx21 x22 w10=>ldI w10 ((zB w5).add 1) .u32 λx23=>dC 101 #[.pointer p0,zu x23,zu x21] w10 λx25 x26 w11=>ifB (x26 !=0) (R (.tuple #[.slice none 0 0,zi x26]) w11) (zr Tryz.prog 30 (s11.1.zw) (x25.zw) w11 λr27 w12=>n12 (r27,(IntKind.i64.wrap (s11.2.1+(1:Int))),()) w12)) (R (.tuple #[s11.1.zw,zi 0]) w5)) ((Sl.mk none 0 0),0,()) w4))
theorem zct(p0)(p1)(R)(w)(h:Ym p0 p1 R w):Calls Tryz.prog 71 #[.pointer p0,.agg #[.int .u16 p1.1,.int .u32 p1.2.1,.int .u32 p1.2.2.1,.slice p1.2.2.2.1.a p1.2.2.2.1.l p1.2.2.2.1.c]] w (Ret R):=lwC Yo Tryz.func71 (by kernel_rfl) (by kernel_rfl) h
def a_consts_Pool_holds:Ann:=(.q (.q (.seq none (.q (.cond (.q .nil) .nil)) (.q (.q (.seq (some ⟨[0,3,4,8],[]⟩) (.q (.cond (.q .nil) .nil)) (.seq none (.q (.cond (.q (.q .nil)) .nil)) (.q (.q (.q .nil))))))))))
def L_consts_Pool_holds(p0:Option Addr)(p1:(Int×Int×Int×Sl×Unit))(R:VWP)(w:World):Prop:=Nw (w.alloc (.cells #[zh p1.1,zu p1.2.1,zu p1.2.2.1,p1.2.2.2.1.zw] 52)) λw1=>Nw (w1.alloc (.cells #[zu 0,zu 0,.slice none 0 0] 85)) λw2=>ze p0 λa1=>ldP w2.drew a1 λx2=>ldI w2.drew ((zB w).add 1) .u32 λx3=>dW 102 #[.pointer x2,zu x3] w2.drew λx5 x6 w3=>ifB (!x6) (dz w3 (zB w1) (zu 0) (zu 0) (.slice none 0 0) λw6=>dc w6 (zB w1) λx7 x8 x9=>R (.tuple #[.agg #[zu x7,zu x8,x9.zw],zi 100]) w6) (ldS w3 ((zB w).add 3) λx10=>(0<=(0:Int)/\0<(x10.l:Int))/\ze x10.a λa11=>ldI w3 ((a11.add (0*3)).add 1) .u32 λx12=>dU w3 #[zu 0,zu 0,.slice none 0 0] 85 (zu x12) (zu 0) (.slice none 0 0) λw10=>ze p0 λa13=>ldP w10.drew a13 λx14=>ldI w10.drew ((zB w).add 1) .u32 λx15=>dW 100 #[.pointer x14,zu x15,zi 0] w10.drew λx17 x18 w11=>Wr w11 ((zB w3).add 1)/\Nw (w11.setCell ((zB w3).add 1) (zu x17)) λw12=>zl (S:=Unit) (λm19=>ldI w12 (zB w3) .u32 λx21=>ifB (x5 !=x21) (dz w12 (zB w1) (zu 0) (zu 0) (.slice none 0 0) λw15=>dc w15 (zB w1) λx22 x23 x24=>R (.tuple #[.agg #[zu x22,zu x23,x24.zw],zi 112]) w15) (ldS w12 ((zB w).add 3) λx25=>ifB (decide ((x25.l:Int)>1)) (ifB (x5==1) (dz w12 (zB w1) (zu 0) (zu 0) (.slice none 0 0) λw18=>dc w18 (zB w1) λx26 x27 x28=>R (.tuple #[.agg #[zu x26,zu x27,x28.zw],zi 112]) w18) (m19 () w12)) (m19 () w12))) (λs20 w19=>ldS w19 ((zB w).add 3) λx29=>ifB ((x29.l:Int)==1) (ze p0 λa30=>ldP w19.drew a30 λx31=>ldI w19.drew ((zB w3).add 1) .u32 λx32=>dm 97 #[.pointer x31,zu x32] w19.drew λx34 w20=>(0<=x34/\x34<=x34/\4*x34<=281474976710656/\x34<=9223372036854775807)/\Nw (w20.alloc (.cells (madeCells #[zu 0] (x34.toNat *1)) 22)) λw21=>Wr w21 (((zB w3).add 1).add 1)/\Nw (w21.setCell (((zB w3).add 1).add 1) (.slice (some (zB w20)) x34.toNat x34.toNat)) λw22=>dc w22 (zB w3) λx35 x36 x37=>dz w22 (zB w1) (zu x35) (zu x36) (x37.zw) λw25=>dc w25 (zB w1) λx38 x39 x40=>R (.tuple #[.agg #[zu x38,zu x39,x40.zw],zi 0]) w25) (ldS w19.drew ((zB w).add 3) λx41=>(0<=(1:Int)/\1<(x41.l:Int))/\ze x41.a λa42=>ldI w19.drew ((a42.add (1*3)).add 1) .u32 λx43=>ldI w19.drew ((zB w3).add 1) .u32 λx44=>dC 101 #[.pointer p0,zu x43,zu x44] w19.drew λx46 x47 w26=>Wr w26 (((zB w3).add 1).add 1)/\Nw (w26.setCell (((zB w3).add 1).add 1) (x46.zw)) λw27=>dc w27 (zB w3) λx48 x49 x50=>dz w27 (zB w1) (zu x48) (zu x49) (x50.zw) λw30=>dc w30 (zB w1) λx51 x52 x53=>R (.tuple #[.agg #[zu x51,zu x52,x53.zw],zi x47]) w30)))
theorem zej(p0)(p1)(R)(w)(h:L_consts_Pool_holds p0 p1 R w):Calls Tryz.prog 72 #[.pointer p0,.agg #[.int .u16 p1.1,.int .u32 p1.2.1,.int .u32 p1.2.2.1,.slice p1.2.2.2.1.a p1.2.2.2.1.l p1.2.2.2.1.c]] w (Ret R):=lwC a_consts_Pool_holds Tryz.func72 (by kernel_rfl) (by kernel_rfl) h
def zbY:Ann:=(.q (.q .nil))
def zbD(p0:Option Addr)(p1:Int)(p2:Sl)(R:VWP)(w:World):Prop:=ze p0 λa1=>ldP w a1 λx2=>dA 135 #[.pointer x2,zu p1] w λx4 w1=>db 134 #[p2.zw,zb x4] w1 λx6 w2=>R (.bool x6) w2
theorem zek(p0)(p1)(p2)(R)(w)(h:zbD p0 p1 p2 R w):Calls Tryz.prog 98 #[.pointer p0,.int .u32 p1,.slice p2.a p2.l p2.c] w (Ret R):=lwC zbY Tryz.func98 (by kernel_rfl) (by kernel_rfl) h
def zec:Ann:=(.q (.q (.seq none (.one (.q (.cond (.q .nil) (.q (.cond (.q .nil) .nil))))) (.q .nil))))
def zdW(p0:Option Addr)(p1:Int)(p2:Int)(R:VWP)(w:World):Prop:=ze p0 λa1=>ldM w (a1.add 2) λx2=>zeZ Tryz.prog 77 (.map x2) (zu p1) [(.int .u32),.slice] w λ(x3:(Int×Sl×Unit)) (b4:Bool)=>dg w #[zu 0,.slice none 0 0] 75 (zu x3.1) (x3.2.1.zw) λw3=>ifB (!b4) (R (.tuple #[.slice none 0 0,zi 110]) w3) (ldI w3 (zB w) .u32 λx5=>ifB (x5 !=p2) (R (.tuple #[.slice none 0 0,zi 111]) w3) (ldS w3 ((zB w).add 1) λx6=>R (.tuple #[x6.zw,zi 0]) w3))
theorem zfI(p0)(p1)(p2)(R)(w)(h:zdW p0 p1 p2 R w):Calls Tryz.prog 101 #[.pointer p0,.int .u32 p1,.int .u32 p2] w (Ret R):=lwC zec Tryz.func101 (by kernel_rfl) (by kernel_rfl) h
end Go.Proofs
namespace Go.Proofs
open Go.Gk
set_option linter.unusedVariables false
set_option maxRecDepth 100000
def yc:Ann:=(.q (.seq none (.q (.one (.loop ⟨[0,1,7],[(8,(.b (.int .i64)))]⟩ (.q (.seq none .c (.seq none (.one (.q (.q (.cond (.q .nil) .nil)))) .nil)))))) (.q .nil)))
def yb(p0:Sl)(p1:Value)(R:VWP)(w:World):Prop:=zn (S:=Int×Unit) (λs1 w1 n2=>ifB (decide (s1.1<(p0.l:Int))) ((0<=s1.1/\s1.1<(p0.l:Int))/\ze p0.a λa3=>ldI w1 (a3.add s1.1.toNat) .u32 λx4=>ZT Tryz.prog Tryz.fs p1 [(zu x4)] w1 λv5 w2=>∃x6:Bool,v5=(.bool x6)/\ifB x6 (R (zi s1.1) w2) (n2 ((IntKind.i64.wrap (s1.1+(1:Int))),()) w2)) (R (zi (-1:Int)) w1)) (0,()) w
theorem Z9(p0)(p1)(R)(w)(h:yb p0 p1 R w):Calls Tryz.prog 39 #[.slice p0.a p0.l p0.c,p1] w (Ret R):=lwC yc Tryz.func39 (by kernel_rfl) (by kernel_rfl) h
def yC:Ann:=(.q (.seq none (.q (.cond (.q .nil) .nil)) (.seq none (.q (.one (.loop ⟨[0,1,12],[(13,(.b (.int .i64)))]⟩ (.q (.seq none .c (.seq none (.one (.q (.q (.cond (.q .nil) .nil)))) .nil)))))) (.q .nil))))
def y9(p0:Sl)(p1:Sl)(R:VWP)(w:World):Prop:=ifB ((p0.l:Int) !=(p1.l:Int)) (R (.bool false) w) (zn (S:=Int×Unit) (λs1 w1 n2=>ifB (decide (s1.1<(p0.l:Int))) ((0<=s1.1/\s1.1<(p0.l:Int))/\ze p0.a λa3=>ldI w1.drew (a3.add s1.1.toNat) .u32 λx4=>(0<=s1.1/\s1.1<(p1.l:Int))/\ze p1.a λa5=>ldI w1.drew (a5.add s1.1.toNat) .u32 λx6=>ifB (x4 !=x6) (R (.bool false) w1.drew) (n2 ((IntKind.i64.wrap (s1.1+(1:Int))),()) w1.drew)) (R (.bool true) w1)) (0,()) w)
theorem Y2(p0)(p1)(R)(w)(h:y9 p0 p1 R w):Calls Tryz.prog 41 #[.slice p0.a p0.l p0.c,.slice p1.a p1.l p1.c] w (Ret R):=lwC yC Tryz.func41 (by kernel_rfl) (by kernel_rfl) h
def yx:Ann:=(.q (.q .nil))
def yu(p0:Sl)(p1:Int)(R:VWP)(w:World):Prop:=dm 162 #[p0.zw,zb p1] w λx2 w1=>R (.bool (decide (x2≥(0:Int)))) w1
theorem Yi(p0)(p1)(R)(w)(h:yu p0 p1 R w):Calls Tryz.prog 134 #[.slice p0.a p0.l p0.c,.int .u8 p1] w (Ret R):=lwC yx Tryz.func134 (by kernel_rfl) (by kernel_rfl) h
def Zg:Ann:=(.q (.seq none (.q (.one (.loop ⟨[0,1,7],[(8,(.b (.int .i64)))]⟩ (.q (.seq none .c (.seq none (.one (.q (.q (.cond (.q .nil) .nil)))) .nil)))))) (.q .nil)))
def Za(p0:Sl)(p1:Int)(R:VWP)(w:World):Prop:=zn (S:=Int×Unit) (λs1 w1 n2=>ifB (decide (s1.1<(p0.l:Int))) ((0<=s1.1/\s1.1<(p0.l:Int))/\ze p0.a λa3=>ldI w1 (a3.add s1.1.toNat) .u8 λx4=>ifB (p1==x4) (R (zi s1.1) w1) (n2 ((IntKind.i64.wrap (s1.1+(1:Int))),()) w1)) (R (zi (-1:Int)) w1)) (0,()) w
theorem YU(p0)(p1)(R)(w)(h:Za p0 p1 R w):Calls Tryz.prog 162 #[.slice p0.a p0.l p0.c,.int .u8 p1] w (Ret R):=lwC Zg Tryz.func162 (by kernel_rfl) (by kernel_rfl) h
end Go.Proofs
namespace Go.Proofs
open Go.Gk Go.RowKit Go.Gm
abbrev Cv:=Int×Sl×Unit
abbrev Vv:=Int×Int×Sl×Unit
abbrev cvK:List BK:=[(.int .u32),.slice]
abbrev vvK:List BK:=[(.int .u32),(.int .u32),.slice]
def cv0:Cv:=(0,⟨none,0,0⟩,())
def vv0:Vv:=(0,0,⟨none,0,0⟩,())
abbrev vvV(v:Vv):List Value:=[.int .u32 v.1,.int .u32 v.2.1,.slice v.2.2.1.a v.2.2.1.l v.2.2.1.c]
structure WdOk (A:Nat->Prop) (w:World) (s:Sl) (l:List Int):Prop where
 is:IsS (Value.int .u32) w s l
 loc:∀y,s.a=some y->A y.block/\y.block<w.heap.size
section
variable {A A':Nat->Prop} {w w':World} {s:Sl} {l:List Int}
theorem WdOk.keep(h:WdOk A w s l)(hk:∀b,A b->b<w.heap.size->w'.heap[b]? =w.heap[b]?/\A' b)(hs:w.heap.size<=w'.heap.size):WdOk A' w' s l:=
 ⟨h.is.of_block λa ha hlt=>(hk _ (h.loc a ha).1 hlt).1,λy hy=>⟨(hk _ (h.loc y hy).1 (h.loc y hy).2).2,by have:=(h.loc y hy).2;omega⟩⟩
theorem WdOk.below(h:WdOk A w s l)(hb:Below w.heap.size w w'):WdOk A w' s l:=h.keep (λb h1 h2=>⟨hb.block b h2,h1⟩) hb.size
theorem WdOk.mono(h:WdOk A w s l)(hA:∀b,A b->b<w.heap.size->A' b):WdOk A' w s l:=h.keep (λb h1 h2=>⟨rfl,hA b h1 h2⟩) (Nat.le_refl _)
theorem WdOk.nil(A:Nat->Prop)(w:World):WdOk A w ⟨none,0,0⟩ []:=⟨nilS _ w,λy hy=>by cases hy⟩
theorem WdOk.blk{b:Nat}(hB:Blk w b 22 (l.map (Value.int .u32)))(hA:A b)(hl:l.length<=9223372036854775807):WdOk A w ⟨some (Gk.blk b),l.length,l.length⟩ l:=
 ⟨⟨rfl,Nat.le_refl _,hl,λe=>(by cases e),λa ha i hi=>(by cases ha;exact hB.cell (by rw[List.getElem?_map,List.getElem?_eq_getElem hi];rfl))⟩,λy hy=>by cases hy;exact⟨hA,hB.lt⟩⟩
theorem WdOk.own(h:Own w 22 1 s (l.map (Value.int .u32)))(hA:∀y,s.a=some y->A y.block):WdOk A w s l:=
 ⟨h.isS,λy hy=>⟨hA y hy,(h.lt hy).2⟩⟩
end
structure CvOk (A:Nat->Prop) (w:World) (v:Cv) (c:Cn):Prop where
 ty:v.1=c.1
 wd:WdOk A w v.2.1 c.2
structure VvOk (A:Nat->Prop) (w:World) (v:Vv) (c:Vn):Prop where
 cl:v.1=c.1
 ty:v.2.1=c.2.1
 wd:WdOk A w v.2.2.1 c.2.2
def IsCn(w:World)(A:Nat->Prop)(r:Nat)(C:CnL):Prop:=∃V:List (Int×Cv),IsMq w r (aggQ cvK) V/\Al2 (λa c=>a.1=c.1/\CvOk A w a.2 c.2) V C
def IsVn(w:World)(A:Nat->Prop)(r:Nat)(C:VnL):Prop:=∃V:List (Int×Vv),IsMq w r (aggQ vvK) V/\Al2 (λa c=>a.1=c.1/\VvOk A w a.2 c.2) V C
section
variable {A A':Nat->Prop} {w w':World} {r:Nat} {C:CnL} {D:VnL}
theorem IsCn.keep(h:IsCn w A r C)(hr:w'.heap[r]? =w.heap[r]?)(hk:∀b,A b->b<w.heap.size->w'.heap[b]? =w.heap[b]?/\A' b)(hs:w.heap.size<=w'.heap.size):IsCn w' A' r C:=by
 obtain⟨V,h1,h2⟩:=h
 exact⟨V,h1.of_block hr,allR (λa c q=>⟨q.1,q.2.ty,q.2.wd.keep hk hs⟩) h2⟩
theorem IsVn.keep(h:IsVn w A r D)(hr:w'.heap[r]? =w.heap[r]?)(hk:∀b,A b->b<w.heap.size->w'.heap[b]? =w.heap[b]?/\A' b)(hs:w.heap.size<=w'.heap.size):IsVn w' A' r D:=by
 obtain⟨V,h1,h2⟩:=h
 exact⟨V,h1.of_block hr,allR (λa c q=>⟨q.1,q.2.cl,q.2.ty,q.2.wd.keep hk hs⟩) h2⟩
theorem IsCn.lt(h:IsCn w A r C):r<w.heap.size:=by obtain⟨V,h1,_⟩:=h;exact h1.lt
theorem IsVn.lt(h:IsVn w A r D):r<w.heap.size:=by obtain⟨V,h1,_⟩:=h;exact h1.lt
theorem IsCn.below(h:IsCn w A r C)(hb:Below w.heap.size w w'):IsCn w' A r C:=h.keep (hb.block r h.lt) (λb h1 h2=>⟨hb.block b h2,h1⟩) hb.size
theorem IsVn.below(h:IsVn w A r D)(hb:Below w.heap.size w w'):IsVn w' A r D:=h.keep (hb.block r h.lt) (λb h1 h2=>⟨hb.block b h2,h1⟩) hb.size
theorem uCn:Tryz.prog.underlying 77=some (.map 22 75):=by kernel_rfl
theorem uVn:Tryz.prog.underlying 78=some (.map 22 85):=by kernel_rfl
theorem zCn:∃i,Tryz.prog.info? 75=some i/\i.zero=some (aggQ cvK cv0):=by
 have h:(Tryz.prog.info? 75).map (·.zero)=some (some (aggQ cvK cv0)):=by kernel_rfl
 cases hi:Tryz.prog.info? 75 with
 |none=>rw[hi]at h;cases h
 |some i=>rw[hi]at h;exact⟨i,rfl,by injection h⟩
theorem zVn:∃i,Tryz.prog.info? 85=some i/\i.zero=some (aggQ vvK vv0):=by
 have h:(Tryz.prog.info? 85).map (·.zero)=some (some (aggQ vvK vv0)):=by kernel_rfl
 cases hi:Tryz.prog.info? 85 with
 |none=>rw[hi]at h;cases h
 |some i=>rw[hi]at h;exact⟨i,rfl,by injection h⟩
theorem IsCn.looked(h:IsCn w A r C)(id:Int):∃V:List (Int×Cv),IsMq w r (aggQ cvK) V/\(zv V id).isSome=(zv C id).isSome/\CvOk A w ((zv V id).getD cv0) ((zv C id).getD (0,[])):=by
 obtain⟨V,h1,h2⟩:=h
 refine⟨V,h1,?_⟩
 rcases zpg h2 (id:=id) with⟨e1,e2⟩ | ⟨v,t,e1,e2,e3⟩
 ·rw[e1,e2]
  exact⟨rfl,rfl,WdOk.nil A w⟩
 ·rw[e1,e2]
  exact⟨rfl,e3⟩
theorem IsVn.looked(h:IsVn w A r D)(id:Int):∃V:List (Int×Vv),IsMq w r (aggQ vvK) V/\(zv V id).isSome=(zv D id).isSome/\VvOk A w ((zv V id).getD vv0) ((zv D id).getD (0,0,[])):=by
 obtain⟨V,h1,h2⟩:=h
 refine⟨V,h1,?_⟩
 rcases zpg h2 (id:=id) with⟨e1,e2⟩ | ⟨v,t,e1,e2,e3⟩
 ·rw[e1,e2]
  exact⟨rfl,rfl,rfl,WdOk.nil A w⟩
 ·rw[e1,e2]
  exact⟨rfl,e3⟩
theorem IsCn.lookOk(h:IsCn w A r C){id:Int}{φ:HL cvK->Bool->Prop}(hφ:∀v:Cv,CvOk A w v ((zv C id).getD (0,[]))->φ v (zv C id).isSome):zeZ Tryz.prog 77 (.map (some r)) (.int .u32 id) cvK w φ:=by
 obtain⟨V,h1,h2,h3⟩:=h.looked id
 exact zk4 (ks:=cvK) (d:=cv0) uCn Tryz.underlying22 zCn h1 (by have h4:=hφ _ h3;rw[<-h2]at h4;exact h4)
theorem IsCn.lookV(h:IsCn w A r C){id:Int}{φ:HL cvK->Prop}(hφ:∀v:Cv,CvOk A w v ((zv C id).getD (0,[]))->φ v):Yf Tryz.prog 77 (.map (some r)) (.int .u32 id) cvK w φ:=by
 obtain⟨V,h1,h2,h3⟩:=h.looked id
 exact zi4 (ks:=cvK) (d:=cv0) uCn Tryz.underlying22 zCn h1 (hφ _ h3)
theorem IsVn.lookOk(h:IsVn w A r D){id:Int}{φ:HL vvK->Bool->Prop}(hφ:∀v:Vv,VvOk A w v ((zv D id).getD (0,0,[]))->φ v (zv D id).isSome):zeZ Tryz.prog 78 (.map (some r)) (.int .u32 id) vvK w φ:=by
 obtain⟨V,h1,h2,h3⟩:=h.looked id
 exact zk4 (ks:=vvK) (d:=vv0) uVn Tryz.underlying22 zVn h1 (by have h4:=hφ _ h3;rw[<-h2]at h4;exact h4)
end
structure IsPq (w:World) (B pb:Nat) (A:Nat->Prop) (T:TyL) (C:CnL):Prop where
 ex:∃(tb r r2:Nat) (o1 o2:Sl),Blk w pb 80 [.pointer (some (Gk.blk tb)),.slice o1.a o1.l o1.c,.map (some r),.slice o2.a o2.l o2.c,.map (some r2)]/\IsTb w B tb T/\IsCn w A r C
theorem IsPq.below{w w':World}{B pb:Nat}{A:Nat->Prop}{T:TyL}{C:CnL}(h:IsPq w B pb A T C)(hb:Below w.heap.size w w'):IsPq w' B pb A T C:=by
 obtain⟨tb,r,r2,o1,o2,h1,h2,h3⟩:=h
 exact⟨tb,r,r2,o1,o2,h1.below hb,h2.below hb,h3.below hb⟩
theorem IsPq.drew{w:World}{B pb:Nat}{A:Nat->Prop}{T:TyL}{C:CnL}(h:IsPq w B pb A T C):IsPq w.drew B pb A T C:=h.below (Below.refl _ _).drew
section
variable {w:World} {B pb id ty:Nat} {A:Nat->Prop} {T:TyL} {C:CnL} {R:VWP}
theorem zot{s:Sl}{l:List Int}{n:Int}(h:IsS (Value.int .u8) w s l)(hR:R (.bool (l.contains n)) w) :
  cR 134 #[.slice s.a s.l s.c,.int .u8 n] w R:=by
 refine za.of (Yi s n R w ?_) λ_ _ h=>h
 refine za.of (YU s n _ w ?_) λ_ _ h=>h
 have hl:=h.len
 refine zn.count l.length h.bound (λk w'=>w'=w/\∀j (hj:j<l.length),j<k->l[j]≠n) ⟨rfl,λj hj hk=>absurd hk (by omega)⟩ ?_
 rintro k _ hk ⟨rfl,hn⟩ next hnext
 refine zk (λhlt=>?_) (λhge=>⟨_,rfl,?_⟩)
 ·have hlt:k<l.length:=by dsimp only at hlt;omega
  refine h.addr hlt λa _ hc=>⟨l[k],by simpa using hc,zj (λe=>⟨_,rfl,?_⟩) (λe=>hnext _ hlt ⟨rfl,λj hj hjk=>?_⟩)⟩
  ·have e0:decide ((k:Int)≥0)=l.contains n:=by
    have:l.contains n=true:=List.contains_iff_mem.2 (e▸List.getElem_mem hlt)
    rw[this]
    simp
   rw[<-e0]at hR
   exact hR
  ·by_cases e':j=k
   ·subst e';exact λh=>e h.symm
   ·exact hn j hj (by omega)
 ·have e0:l.contains n=false:=by
   cases hc:l.contains n with
   |false=>rfl
   |true=>
    obtain⟨j,hj,e⟩:=List.mem_iff_getElem.1 (List.contains_iff_mem.1 hc)
    exact absurd e (hn j hj (by dsimp only at hge;omega))
  rw[e0]at hR
  exact hR
theorem zgV{ty:Int}{s:Sl}{l:List Int}(h:IsPq w B pb A T C)(hs:IsS (Value.int .u8) w s l)(hR:∀w',Below w.heap.size w w'->R (.bool (l.contains (tA T ty).kind)) w') :
  cR 98 #[.pointer (some (blk pb)),.int .u32 ty,.slice s.a s.l s.c] w R:=by
 refine za.of (zek _ ty s R w ?_) λ_ _ h=>h
 obtain⟨tb,r,r2,o1,o2,h1,h2,h3⟩:=h
 refine zf rfl ⟨_,h1.cell0 rfl,znD h2 λw1 b1=>⟨_,rfl,zot (hs.below b1) ⟨_,rfl,hR w1 b1⟩⟩⟩
theorem zpm{id ty:Int}(h:IsPq w B pb A T C)(hR:∀w' s,WdOk A w' s (ofC C id ty).1->Below w.heap.size w w'->R (.tuple #[.slice s.a s.l s.c,.int .i64 (ofC C id ty).2]) w') :
  cR 101 #[.pointer (some (blk pb)),.int .u32 id,.int .u32 ty] w R:=by
 refine za.of (zfI _ id ty R w ?_) λ_ _ h=>h
 obtain⟨tb,r,r2,o1,o2,h1,h2,h3⟩:=h
 refine zf rfl ⟨_,h1.cell (n:=2) rfl,h3.lookOk λv hv=>?_⟩
 refine box2 rfl λw1 hB1 b1 z1=>?_
 unfold ofC at hR
 cases hl:zv C id with
 |none=>
  rw[hl]at hR
  exact zD rfl (hR w1 ⟨none,0,0⟩ (WdOk.nil A w1) b1)
 |some c=>
  rw[hl]at hR hv
  have hv:CvOk A w v c:=hv
  dsimp only at hR
  refine zx rfl (hB1.rI0 rfl (zp (λe=>?_) (λe=>hB1.rS (n:=1) (x:=v.2.1) rfl ?_)))
  ·rw[if_pos (by rw[hv.ty]at e;exact e)]at hR
   exact hR w1 ⟨none,0,0⟩ (WdOk.nil A w1) b1
  ·rw[if_neg (λq=>q (by rw[hv.ty]at e;exact e))]at hR
   exact hR w1 v.2.1 (hv.wd.below b1) b1
end
end Go.Proofs
namespace Go.Proofs
open Go.Gk
set_option linter.unusedVariables false
set_option maxRecDepth 100000
def Zw:Ann:=(.q (.q (.seq (some ⟨[2,8],[]⟩) (.q (.cond (.q .nil) .nil)) (.q .nil))))
def Zm(p0:Option Addr)(p1:Int)(p2:Int)(R:VWP)(w:World):Prop:=dY 57 #[.pointer p0,zu p1] w λx2 x3 w1=>dX w1 #[zu 0,zb 0,.bool false,zu 0,.slice none 0 0] 115 (zu x2.1) (zb x2.2.1) (.bool x2.2.2.1) (zu x2.2.2.2.1) (x2.2.2.2.2.1.zw) λw7=>zl (S:=Unit) (λm4=>ifB (decide (p2<(0:Int))) (R (.tuple #[zu 0,.bool false]) w7) (ldS w7 ((zB w1).add 4) λx6=>ifB (decide (p2≥(x6.l:Int))) (R (.tuple #[zu 0,.bool false]) w7) (m4 () w7))) (λs5 w8=>ldS w8 ((zB w1).add 4) λx7=>(0<=p2/\p2<(x7.l:Int))/\ze x7.a λa8=>ldI w8 (a8.add p2.toNat) .u32 λx9=>R (.tuple #[zu x9,.bool true]) w8)
theorem za6(p0)(p1)(p2)(R)(w)(h:Zm p0 p1 p2 R w):Calls Tryz.prog 37 #[.pointer p0,.int .u32 p1,.int .i64 p2] w (Ret R):=lwC Zw Tryz.func37 (by kernel_rfl) (by kernel_rfl) h
def Zx:Ann:=(.q (.seq none (.q (.cond (.q .nil) .nil)) (.q (.seq none (.q (.cond (.q .nil) .nil)) (.q (.seq none (.q (.one (.loop ⟨[0,5],[(7,(.b (.int .i64))),(8,(.b (.int .i64)))]⟩ (.seq none (.q .c) (.seq none (.one (.q (.q (.cond (.q .nil) .nil)))) .nil))))) (.q .nil)))))))
def Zn(p0:Option Addr)(p1:Int)(R:VWP)(w:World):Prop:=db 58 #[.pointer p0,zu p1] w λx2 w1=>ifB (!x2) (R (zi 0) w1) (dY 57 #[.pointer p0,zu p1] w1 λx4 x5 w2=>dX w2 #[zu 0,zb 0,.bool false,zu 0,.slice none 0 0] 115 (zu x4.1) (zb x4.2.1) (.bool x4.2.2.1) (zu x4.2.2.2.1) (x4.2.2.2.2.1.zw) λw8=>ldI w8 ((zB w2).add 1) .u8 λx6=>ifB (decide (x6<=(3:Int))) (R (zi 1) w8) (zn (S:=Int×Int×Unit) (λs7 w9 n8=>ldS w9 ((zB w2).add 4) λx9=>ifB (decide (s7.2.1<(x9.l:Int))) (ldS w9 ((zB w2).add 4) λx10=>(0<=s7.2.1/\s7.2.1<(x10.l:Int))/\ze x10.a λa11=>ldI w9 (a11.add s7.2.1.toNat) .u32 λx12=>dm 38 #[.pointer p0,zu x12] w9 λx14 w10=>ifB (decide ((IntKind.i64.wrap (s7.1+x14))>4096)) (R (zi 4097) w10) (n8 ((IntKind.i64.wrap (s7.1+x14)),(IntKind.i64.wrap (s7.2.1+(1:Int))),()) w10)) (R (zi s7.1) w9)) (0,0,()) w8))
theorem y4(p0)(p1)(R)(w)(h:Zn p0 p1 R w):Calls Tryz.prog 38 #[.pointer p0,.int .u32 p1] w (Ret R):=lwC Zx Tryz.func38 (by kernel_rfl) (by kernel_rfl) h
def zcf:Ann:=(.q (.q (.seq none (.q (.cond (.q .nil) .nil)) (.q (.seq none (.q (.one (.loop ⟨[1,3,5],[(6,(.b (.int .i64)))]⟩ (.seq none (.q .c) (.seq (some ⟨[1,3,5,6],[]⟩) (.one (.seq none (.q .c) (.q (.seq (some ⟨[1,3,5,6,7],[(8,(.b (.int .i64)))]⟩) (.q .c) (.seq none (.q (.cond (.q .nil) .nil)) (.q .nil)))))) .nil))))) (.q .nil))))))
def zbK(p0:(Int×Int×Sl×Unit))(R:VWP)(w:World):Prop:=Nw (w.alloc (.cells #[zu p0.1,zu p0.2.1,p0.2.2.1.zw] 25)) λw1=>Nw (w1.alloc (.cells #[zi 0,zi 0] 56)) λw2=>dc w2 (zB w) λx1 x2 x3=>dl 73 #[.agg #[zu x1,zu x2,x3.zw]] w2 λx5 w3=>dg w3 #[zi 0,zi 0] 56 (zi x5.1) (zi x5.2.1) λw6=>ldI w6 (zB w3) .i64 λx6=>ifB (x6 !=0) (dd w6.drew (zB w3) λx7 x8=>df w6.drew (zB w1) (zi x7) (zi x8) λw8=>dd w8 (zB w1) λx9 x10=>R (.tuple #[.pointer none,.agg #[zi x9,zi x10]]) w8) (Nw (w6.alloc (.cells #[.slice none 0 0] 149)) λw9=>zn (S:=Int×Unit) (λs11 w10 n12=>ldS w10 ((zB w).add 2) λx13=>ifB (decide (s11.1<(x13.l:Int))) (zl (S:=Unit) (λm14=>ldS w10 ((zB w).add 2) λx16=>(0<=s11.1/\s11.1<(x16.l:Int))/\ze x16.a λa17=>ldI w10 (a17.add (s11.1.toNat *4)) .u16 λx18=>db 74 #[zh x18] w10 λx20 w11=>ifB (!x20) (m14 () w11) (dc w11 (zB w) λx21 x22 x23=>dx51 75 #[.pointer (some (zB w6)),.agg #[zu x21,zu x22,x23.zw],zi s11.1] w11 λx25 x26 w12=>dX w12 #[zu 0,zb 0,.bool false,zu 0,.slice none 0 0] 115 (zu x25.1) (zb x25.2.1) (.bool x25.2.2.1) (zu x25.2.2.2.1) (x25.2.2.2.2.1.zw) λw18=>zl (S:=Int×Unit) (λm27=>ifB (x26==0) (dc w18 (zB w) λx29 x30 x31=>db 76 #[.agg #[zu x29,zu x30,x31.zw],zi s11.1] w18 λx33 w19=>ifB x33 (m27 (101,()) w19) (m27 (x26,()) w19)) (m27 (x26,()) w18)) (λs28 w20=>ifB (s28.1 !=0) (df w20 (zB w1) (zi s28.1) (zi s11.1) λw22=>dd w22 (zB w1) λx34 x35=>R (.tuple #[.pointer none,.agg #[zi x34,zi x35]]) w22) (ldS w20 ((zB w).add 2) λx36=>(0<=s11.1/\s11.1<(x36.l:Int))/\ze x36.a λa37=>ldI w20 ((a37.add (s11.1.toNat *4)).add 2) .u32 λx38=>Wr w20 (zB w12)/\Nw (w20.setCell (zB w12) (zu x38)) λw23=>ldS w23.drew (zB w6) λx39=>dZ w23.drew (zB w12) λx40 x41 x42 x43 x44=>Nw (w23.drew.alloc (.cells #[zu x40,zb x41,.bool x42,zu x43,x44.zw] 115)) λw24=>w24.cell? (zB w6)=some (x39.zw)/\zr Tryz.prog 147 (x39.zw) (.slice (some (blk w23.drew.heap.size)) 1 1) w24 λr45 w25=>Wr w25 (zB w6)/\Nw (w25.setCell (zB w6) (r45.zw)) λw26=>m14 () w26)))) (λs15 w27=>n12 ((IntKind.i64.wrap (s11.1+(1:Int))),()) w27)) (df w10 (zB w1) (zi 0) (zi 0) λw29=>dd w29 (zB w1) λx46 x47=>R (.tuple #[.pointer (some (zB w6)),.agg #[zi x46,zi x47]]) w29)) (0,()) w9)
theorem zew(p0)(R)(w)(h:zbK p0 R w):Calls Tryz.prog 53 #[.agg #[.int .u32 p0.1,.int .u32 p0.2.1,.slice p0.2.2.1.a p0.2.2.1.l p0.2.2.1.c]] w (Ret R):=lwC zcf Tryz.func53 (by kernel_rfl) (by kernel_rfl) h
def Zu:Ann:=(.q (.seq none (.q (.cond (.q .nil) .nil)) (.seq none (.q (.one (.loop ⟨[0,1,4],[(6,(.b (.int .i64)))]⟩ (.seq none (.q .c) (.seq none (.one (.q (.cond (.q .nil) .nil))) .nil))))) (.q .nil))))
def Zk(p0:Option Addr)(p1:Int)(R:VWP)(w:World):Prop:=Nw (w.alloc (.cells #[zu 0,zb 0,.bool false,zu 0,.slice none 0 0] 115)) λw1=>ifB (Option.isNone p0) (dN w1 (zB w) (zu 0) (zb 0) (.bool false) (zu 0) (.slice none 0 0) λw6=>dZ w6 (zB w) λx1 x2 x3 x4 x5=>R (.tuple #[.agg #[zu x1,zb x2,.bool x3,zu x4,x5.zw],.bool false]) w6) (zn (S:=Int×Unit) (λs6 w7 n7=>ze p0 λa8=>ldS w7 a8 λx9=>ifB (decide (s6.1<(x9.l:Int))) (ze p0 λa10=>ldS w7 a10 λx11=>(0<=s6.1/\s6.1<(x11.l:Int))/\ze x11.a λa12=>ldI w7 (a12.add (s6.1.toNat *5)) .u32 λx13=>ifB (x13==p1) (ze p0 λa14=>ldS w7 a14 λx15=>(0<=s6.1/\s6.1<(x15.l:Int))/\ze x15.a λa16=>dZ w7 (a16.add (s6.1.toNat *5)) λx17 x18 x19 x20 x21=>dN w7 (zB w) (zu x17) (zb x18) (.bool x19) (zu x20) (x21.zw) λw12=>dZ w12 (zB w) λx22 x23 x24 x25 x26=>R (.tuple #[.agg #[zu x22,zb x23,.bool x24,zu x25,x26.zw],.bool true]) w12) (n7 ((IntKind.i64.wrap (s6.1+(1:Int))),()) w7)) (dN w7 (zB w) (zu 0) (zb 0) (.bool false) (zu 0) (.slice none 0 0) λw17=>dZ w17 (zB w) λx27 x28 x29 x30 x31=>R (.tuple #[.agg #[zu x27,zb x28,.bool x29,zu x30,x31.zw],.bool false]) w17)) (0,()) w1)
theorem za4(p0)(p1)(R)(w)(h:Zk p0 p1 R w):Calls Tryz.prog 57 #[.pointer p0,.int .u32 p1] w (Ret R):=lwC Zu Tryz.func57 (by kernel_rfl) (by kernel_rfl) h
def Ze:Ann:=(.q (.q (.q .nil)))
def yY(p0:Option Addr)(p1:Int)(R:VWP)(w:World):Prop:=dA 77 #[.pointer p0,zu p1] w λx2 w1=>ifB (decide (x2≥(2:Int))) (R (.bool (decide (x2<=(6:Int)))) w1) (R (.bool false) w1)
theorem YS(p0)(p1)(R)(w)(h:yY p0 p1 R w):Calls Tryz.prog 58 #[.pointer p0,.int .u32 p1] w (Ret R):=lwC Ze Tryz.func58 (by kernel_rfl) (by kernel_rfl) h
def YC:Ann:=(.q (.q .nil))
def Y7(p0:Int)(R:VWP)(w:World):Prop:=ifB (decide (p0≥(19:Int))) (R (.bool (decide (p0<=(33:Int)))) w) (R (.bool false) w)
theorem zcX(p0)(R)(w)(h:Y7 p0 R w):Calls Tryz.prog 74 #[.int .u16 p0] w (Ret R):=lwC YC Tryz.func74 (by kernel_rfl) (by kernel_rfl) h
def ZH:Ann:=(.q (.q (.seq none (.q (.one (.q (.cond (.q .nil) (.q (.cond (.q .nil) (.q (.cond (.q .nil) (.q (.cond (.q .nil) (.q (.cond (.q .nil) (.q (.cond (.q .nil) (.q (.cond (.seq none (.q (.cond (.q .nil) .nil)) (.q (.q (.q .nil)))) .nil)))))))))))))))) (.q .nil))))
def ZC(p0:Option Addr)(p1:(Int×Int×Sl×Unit))(p2:Int)(R:VWP)(w:World):Prop:=Nw (w.alloc (.cells #[zu p1.1,zu p1.2.1,p1.2.2.1.zw] 25)) λw1=>Nw (w1.alloc (.cells #[zu 0,zb 0,.bool false,zu 0,.slice none 0 0] 115)) λw2=>ldS w2 ((zB w).add 2) λx1=>(0<=p2/\p2<(x1.l:Int))/\ze x1.a λa2=>da w2 (a2.add (p2.toNat *4)) λx3 x4 x5 x6=>dh w2 #[zh 0,zu 0,zu 0,.slice none 0 0] 52 (zh x3) (zu x4) (zu x5) (x6.zw) λw7=>ldI w7 (zB w2) .u16 λx7=>ifB (x7==19) (dN w7 (zB w1) (zu 0) (zb 1) (.bool false) (zu 0) (.slice none 0 0) λw12=>dZ w12 (zB w1) λx8 x9 x10 x11 x12=>R (.tuple #[.agg #[zu x8,zb x9,.bool x10,zu x11,x12.zw],zi 0]) w12) (ifB (x7==20) (dN w7 (zB w1) (zu 0) (zb 2) (.bool false) (zu 0) (.slice none 0 0) λw17=>dZ w17 (zB w1) λx13 x14 x15 x16 x17=>R (.tuple #[.agg #[zu x13,zb x14,.bool x15,zu x16,x17.zw],zi 0]) w17) (ifB (x7==21) (da w7 (zB w2) λx18 x19 x20 x21=>dx51 105 #[.agg #[zh x18,zu x19,zu x20,x21.zw]] w7 λx23 x24 w18=>dN w18 (zB w1) (zu x23.1) (zb x23.2.1) (.bool x23.2.2.1) (zu x23.2.2.2.1) (x23.2.2.2.2.1.zw) λw23=>dZ w23 (zB w1) λx25 x26 x27 x28 x29=>R (.tuple #[.agg #[zu x25,zb x26,.bool x27,zu x28,x29.zw],zi x24]) w23) (ifB (x7==23) (da w7 (zB w2) λx30 x31 x32 x33=>dx51 106 #[.pointer p0,.agg #[zh x30,zu x31,zu x32,x33.zw]] w7 λx35 x36 w24=>dN w24 (zB w1) (zu x35.1) (zb x35.2.1) (.bool x35.2.2.1) (zu x35.2.2.2.1) (x35.2.2.2.2.1.zw) λw29=>dZ w29 (zB w1) λx37 x38 x39 x40 x41=>R (.tuple #[.agg #[zu x37,zb x38,.bool x39,zu x40,x41.zw],zi x36]) w29) (ifB (x7==28) (dc w7 (zB w) λx42 x43 x44=>da w7 (zB w2) λx45 x46 x47 x48=>dx51 107 #[.pointer p0,.agg #[zu x42,zu x43,x44.zw],.agg #[zh x45,zu x46,zu x47,x48.zw],zi p2] w7 λx50 x51 w30=>dN w30 (zB w1) (zu x50.1) (zb x50.2.1) (.bool x50.2.2.1) (zu x50.2.2.2.1) (x50.2.2.2.2.1.zw) λw35=>dZ w35 (zB w1) λx52 x53 x54 x55 x56=>R (.tuple #[.agg #[zu x52,zb x53,.bool x54,zu x55,x56.zw],zi x51]) w35) (ifB (x7==30) (da w7 (zB w2) λx57 x58 x59 x60=>dx51 108 #[.pointer p0,.agg #[zh x57,zu x58,zu x59,x60.zw]] w7 λx62 x63 w36=>dN w36 (zB w1) (zu x62.1) (zb x62.2.1) (.bool x62.2.2.1) (zu x62.2.2.2.1) (x62.2.2.2.2.1.zw) λw41=>dZ w41 (zB w1) λx64 x65 x66 x67 x68=>R (.tuple #[.agg #[zu x64,zb x65,.bool x66,zu x67,x68.zw],zi x63]) w41) (ifB (x7==32) (ldS w7 ((zB w2).add 3) λx69=>(0<=(1:Int)/\1<(x69.l:Int))/\ze x69.a λa70=>ldI w7 ((a70.add (1*3)).add 1) .u32 λx71=>db 58 #[.pointer p0,zu x71] w7 λx73 w42=>ifB (!x73) (dN w42 (zB w1) (zu 0) (zb 0) (.bool false) (zu 0) (.slice none 0 0) λw47=>dZ w47 (zB w1) λx74 x75 x76 x77 x78=>R (.tuple #[.agg #[zu x74,zb x75,.bool x76,zu x77,x78.zw],zi 100]) w47) (ldS w42 ((zB w2).add 3) λx79=>(0<=(0:Int)/\0<(x79.l:Int))/\ze x79.a λa80=>ldI w42 ((a80.add (0*3)).add 1) .u32 λx81=>dX w42 #[zu 0,zb 0,.bool false,zu 0,.slice none 0 0] 115 (zu 0) (zb 7) (.bool false) (zu x81) (.slice none 0 0) λw53=>ldS w53.drew ((zB w42).add 4) λx82=>ldS w53.drew ((zB w2).add 3) λx83=>(0<=(1:Int)/\1<(x83.l:Int))/\ze x83.a λa84=>ldI w53.drew ((a84.add (1*3)).add 1) .u32 λx85=>Nw (w53.drew.alloc (.cells #[zu x85] 22)) λw54=>w54.cell? ((zB w42).add 4)=some (x82.zw)/\zr Tryz.prog 30 (x82.zw) (.slice (some (blk w53.drew.heap.size)) 1 1) w54 λr86 w55=>Wr w55 ((zB w42).add 4)/\Nw (w55.setCell ((zB w42).add 4) (r86.zw)) λw56=>dZ w56 (zB w42) λx87 x88 x89 x90 x91=>dN w56 (zB w1) (zu x87) (zb x88) (.bool x89) (zu x90) (x91.zw) λw61=>dZ w61 (zB w1) λx92 x93 x94 x95 x96=>R (.tuple #[.agg #[zu x92,zb x93,.bool x94,zu x95,x96.zw],zi 0]) w61)) (da w7 (zB w2) λx97 x98 x99 x100=>dx51 109 #[.pointer p0,.agg #[zh x97,zu x98,zu x99,x100.zw]] w7 λx102 x103 w62=>dN w62 (zB w1) (zu x102.1) (zb x102.2.1) (.bool x102.2.2.1) (zu x102.2.2.2.1) (x102.2.2.2.2.1.zw) λw67=>dZ w67 (zB w1) λx104 x105 x106 x107 x108=>R (.tuple #[.agg #[zu x104,zb x105,.bool x106,zu x107,x108.zw],zi x103]) w67)))))))
theorem zbw(p0)(p1)(p2)(R)(w)(h:ZC p0 p1 p2 R w):Calls Tryz.prog 75 #[.pointer p0,.agg #[.int .u32 p1.1,.int .u32 p1.2.1,.slice p1.2.2.1.a p1.2.2.1.l p1.2.2.1.c],.int .i64 p2] w (Ret R):=lwC ZH Tryz.func75 (by kernel_rfl) (by kernel_rfl) h
def zaw:Ann:=(.q (.q (.seq (some ⟨[1,2,5],[]⟩) (.q (.cond (.q .nil) .nil)) (.seq none (.q (.one (.loop ⟨[1,2,5],[(6,(.b (.int .i64)))]⟩ (.seq none (.q .c) (.seq (some ⟨[1,2,5,6],[]⟩) (.one (.q (.seq (some ⟨[1,2,5,6,7],[]⟩) (.q .c) (.q (.seq none (.q (.one (.loop ⟨[1,2,5,6,7],[(8,(.b .bool)),(9,(.b (.int .i64)))]⟩ (.seq none (.q .c) (.seq (some ⟨[1,2,5,6,7,9],[(8,(.b .bool))]⟩) (.one .nil) .nil))))) (.q (.cond (.q .nil) .nil))))))) .nil))))) (.q .nil)))))
def zah(p0:(Int×Int×Sl×Unit))(p1:Int)(R:VWP)(w:World):Prop:=Nw (w.alloc (.cells #[zu p0.1,zu p0.2.1,p0.2.2.1.zw] 25)) λw1=>ldS w1 ((zB w).add 2) λx1=>(0<=p1/\p1<(x1.l:Int))/\ze x1.a λa2=>da w1 (a2.add (p1.toNat *4)) λx3 x4 x5 x6=>dh w1 #[zh 0,zu 0,zu 0,.slice none 0 0] 52 (zh x3) (zu x4) (zu x5) (x6.zw) λw6=>zl (S:=Unit) (λm7=>ldI w6 (zB w1) .u16 λx9=>ifB (x9==28) (R (.bool false) w6) (ldI w6 (zB w1) .u16 λx10=>ifB (x10==30) (R (.bool false) w6) (m7 () w6))) (λs8 w7=>zn (S:=Int×Unit) (λs11 w8 n12=>ifB (decide (s11.1<p1)) (zl (S:=Unit) (λm13=>ldS w8 ((zB w).add 2) λx15=>(0<=s11.1/\s11.1<(x15.l:Int))/\ze x15.a λa16=>da w8 (a16.add (s11.1.toNat *4)) λx17 x18 x19 x20=>dh w8 #[zh 0,zu 0,zu 0,.slice none 0 0] 52 (zh x17) (zu x18) (zu x19) (x20.zw) λw13=>zl (S:=Unit) (λm21=>ldI w13 (zB w8) .u16 λx23=>ldI w13 (zB w1) .u16 λx24=>ifB (x23 !=x24) (m13 () w13) (ldS w13 ((zB w8).add 3) λx25=>ldS w13 ((zB w1).add 3) λx26=>ifB ((x25.l:Int) !=(x26.l:Int)) (m13 () w13) (m21 () w13))) (λs22 w14=>zn (S:=Bool×Int×Unit) (λs27 w15 n28=>ldS w15 ((zB w1).add 3) λx29=>ifB (decide (s27.2.1<(x29.l:Int))) (zl (S:=Bool×Unit) (λm30=>ifB s27.1 (ldS w15.drew ((zB w8).add 3) λx32=>(0<=s27.2.1/\s27.2.1<(x32.l:Int))/\ze x32.a λa33=>dw w15.drew (a33.add (s27.2.1.toNat *3)) λx34 x35 x36=>ldS w15.drew ((zB w1).add 3) λx37=>(0<=s27.2.1/\s27.2.1<(x37.l:Int))/\ze x37.a λa38=>dw w15.drew (a38.add (s27.2.1.toNat *3)) λx39 x40 x41=>m30 ((x34==x39&&(x35==x40&&(x36==x41&&true))),()) w15.drew) (m30 (false,()) w15.drew)) (λs31 w16=>n28 (s31.1,(IntKind.i64.wrap (s27.2.1+(1:Int))),()) w16)) (ifB s27.1 (R (.bool true) w15) (m13 () w15))) (true,0,()) w14)) (λs14 w17=>n12 ((IntKind.i64.wrap (s11.1+(1:Int))),()) w17)) (R (.bool false) w8)) (0,()) w7)
theorem zdn(p0)(p1)(R)(w)(h:zah p0 p1 R w):Calls Tryz.prog 76 #[.agg #[.int .u32 p0.1,.int .u32 p0.2.1,.slice p0.2.2.1.a p0.2.2.1.l p0.2.2.1.c],.int .i64 p1] w (Ret R):=lwC zaw Tryz.func76 (by kernel_rfl) (by kernel_rfl) h
def Zv:Ann:=(.q (.q (.q .nil)))
def Zl(p0:Option Addr)(p1:Int)(R:VWP)(w:World):Prop:=dY 57 #[.pointer p0,zu p1] w λx2 x3 w1=>dX w1 #[zu 0,zb 0,.bool false,zu 0,.slice none 0 0] 115 (zu x2.1) (zb x2.2.1) (.bool x2.2.2.1) (zu x2.2.2.2.1) (x2.2.2.2.2.1.zw) λw7=>ldI w7 ((zB w1).add 1) .u8 λx4=>R (zb x4) w7
theorem za5(p0)(p1)(R)(w)(h:Zl p0 p1 R w):Calls Tryz.prog 77 #[.pointer p0,.int .u32 p1] w (Ret R):=lwC Zv Tryz.func77 (by kernel_rfl) (by kernel_rfl) h
def Zd:Ann:=(.q (.q (.q .nil)))
def yX(p0:Option Addr)(p1:Int)(R:VWP)(w:World):Prop:=dY 57 #[.pointer p0,zu p1] w λx2 x3 w1=>dX w1 #[zu 0,zb 0,.bool false,zu 0,.slice none 0 0] 115 (zu x2.1) (zb x2.2.1) (.bool x2.2.2.1) (zu x2.2.2.2.1) (x2.2.2.2.2.1.zw) λw7=>ldS w7 ((zB w1).add 4) λx4=>R (zi (x4.l:Int)) w7
theorem YR(p0)(p1)(R)(w)(h:yX p0 p1 R w):Calls Tryz.prog 78 #[.pointer p0,.int .u32 p1] w (Ret R):=lwC Zd Tryz.func78 (by kernel_rfl) (by kernel_rfl) h
def Zc:Ann:=(.q (.q (.q .nil)))
def yW(p0:Option Addr)(p1:Int)(R:VWP)(w:World):Prop:=dY 57 #[.pointer p0,zu p1] w λx2 x3 w1=>dX w1 #[zu 0,zb 0,.bool false,zu 0,.slice none 0 0] 115 (zu x2.1) (zb x2.2.1) (.bool x2.2.2.1) (zu x2.2.2.2.1) (x2.2.2.2.2.1.zw) λw7=>ldI w7.drew ((zB w1).add 3) .u32 λx4=>ldI w7.drew ((zB w1).add 1) .u8 λx5=>R (.tuple #[zu x4,.bool (x5==7)]) w7.drew
theorem YQ(p0)(p1)(R)(w)(h:yW p0 p1 R w):Calls Tryz.prog 80 #[.pointer p0,.int .u32 p1] w (Ret R):=lwC Zc Tryz.func80 (by kernel_rfl) (by kernel_rfl) h
def zbn:Ann:=(.q (.seq (some ⟨[1,2],[]⟩) (.q (.cond (.q .nil) .nil)) (.q .nil)))
def zaW(p0:(Int×Int×Int×Sl×Unit))(R:VWP)(w:World):Prop:=Nw (w.alloc (.cells #[zh p0.1,zu p0.2.1,zu p0.2.2.1,p0.2.2.2.1.zw] 52)) λw1=>Nw (w1.alloc (.cells #[zu 0,zb 0,.bool false,zu 0,.slice none 0 0] 115)) λw2=>zl (S:=Unit) (λm1=>ldS w2 ((zB w).add 3) λx3=>(0<=(0:Int)/\0<(x3.l:Int))/\ze x3.a λa4=>ldI w2 ((a4.add (0*3)).add 1) .u32 λx5=>ifB (x5 !=32) (dN w2 (zB w1) (zu 0) (zb 0) (.bool false) (zu 0) (.slice none 0 0) λw7=>dZ w7 (zB w1) λx6 x7 x8 x9 x10=>R (.tuple #[.agg #[zu x6,zb x7,.bool x8,zu x9,x10.zw],zi 102]) w7) (ldS w2 ((zB w).add 3) λx11=>(0<=(1:Int)/\1<(x11.l:Int))/\ze x11.a λa12=>ldI w2 ((a12.add (1*3)).add 1) .u32 λx13=>ifB (decide (x13>(1:Int))) (dN w2 (zB w1) (zu 0) (zb 0) (.bool false) (zu 0) (.slice none 0 0) λw12=>dZ w12 (zB w1) λx14 x15 x16 x17 x18=>R (.tuple #[.agg #[zu x14,zb x15,.bool x16,zu x17,x18.zw],zi 102]) w12) (m1 () w2))) (λs2 w13=>ldS w13 ((zB w).add 3) λx19=>(0<=(1:Int)/\1<(x19.l:Int))/\ze x19.a λa20=>ldI w13 ((a20.add (1*3)).add 1) .u32 λx21=>dN w13 (zB w1) (zu 0) (zb 3) (.bool (x21==1)) (zu 0) (.slice none 0 0) λw18=>dZ w18 (zB w1) λx22 x23 x24 x25 x26=>R (.tuple #[.agg #[zu x22,zb x23,.bool x24,zu x25,x26.zw],zi 0]) w18)
theorem zdS(p0)(R)(w)(h:zaW p0 R w):Calls Tryz.prog 105 #[.agg #[.int .u16 p0.1,.int .u32 p0.2.1,.int .u32 p0.2.2.1,.slice p0.2.2.2.1.a p0.2.2.2.1.l p0.2.2.2.1.c]] w (Ret R):=lwC zbn Tryz.func105 (by kernel_rfl) (by kernel_rfl) h
def yO:Ann:=(.q (.q (.seq (some ⟨[3,4,6],[]⟩) (.q (.cond (.q .nil) .nil)) (.q (.seq (some ⟨[4,6,7],[]⟩) (.q (.cond (.q .nil) .nil)) (.q (.seq none (.q (.one (.loop ⟨[4,6,7,8],[(9,(.b (.int .u32)))]⟩ (.seq none (.q .c) (.seq none (.one .nil) .nil))))) (.q .nil))))))))
def yL(p0:Option Addr)(p1:(Int×Int×Int×Sl×Unit))(R:VWP)(w:World):Prop:=Nw (w.alloc (.cells #[zh p1.1,zu p1.2.1,zu p1.2.2.1,p1.2.2.2.1.zw] 52)) λw1=>Nw (w1.alloc (.cells #[zu 0,zb 0,.bool false,zu 0,.slice none 0 0] 115)) λw2=>ldS w2 ((zB w).add 3) λx1=>(0<=(0:Int)/\0<(x1.l:Int))/\ze x1.a λa2=>ldI w2 ((a2.add (0*3)).add 1) .u32 λx3=>zl (S:=Unit) (λm4=>dA 77 #[.pointer p0,zu x3] w2 λx7 w3=>ifB (x7 !=2) (dA 77 #[.pointer p0,zu x3] w3 λx9 w4=>ifB (x9 !=3) (dN w4 (zB w1) (zu 0) (zb 0) (.bool false) (zu 0) (.slice none 0 0) λw9=>dZ w9 (zB w1) λx10 x11 x12 x13 x14=>R (.tuple #[.agg #[zu x10,zb x11,.bool x12,zu x13,x14.zw],zi 100]) w9) (m4 () w4)) (m4 () w3)) (λs5 w10=>ldS w10 ((zB w).add 3) λx15=>(0<=(1:Int)/\1<(x15.l:Int))/\ze x15.a λa16=>ldI w10 ((a16.add (1*3)).add 1) .u32 λx17=>zl (S:=Unit) (λm18=>ifB (decide (x17<(2:Int))) (dN w10 (zB w1) (zu 0) (zb 0) (.bool false) (zu 0) (.slice none 0 0) λw15=>dZ w15 (zB w1) λx20 x21 x22 x23 x24=>R (.tuple #[.agg #[zu x20,zb x21,.bool x22,zu x23,x24.zw],zi 102]) w15) (ifB (decide (x17>(4:Int))) (dN w10 (zB w1) (zu 0) (zb 0) (.bool false) (zu 0) (.slice none 0 0) λw20=>dZ w20 (zB w1) λx25 x26 x27 x28 x29=>R (.tuple #[.agg #[zu x25,zb x26,.bool x27,zu x28,x29.zw],zi 102]) w20) (m18 () w10))) (λs19 w21=>dX w21 #[zu 0,zb 0,.bool false,zu 0,.slice none 0 0] 115 (zu 0) (zb 4) (.bool false) (zu 0) (.slice none 0 0) λw27=>zn (S:=Int×Unit) (λs30 w28 n31=>ifB (decide (s30.1<x17)) (ldS w28 ((zB w21).add 4) λx32=>Nw (w28.alloc (.cells #[zu x3] 22)) λw29=>zr Tryz.prog 30 (x32.zw) (.slice (some (zB w28)) 1 1) w29 λr33 w30=>Wr w30 ((zB w21).add 4)/\Nw (w30.setCell ((zB w21).add 4) (r33.zw)) λw31=>n31 ((IntKind.u32.wrap (s30.1+(1:Int))),()) w31) (dZ w28 (zB w21) λx34 x35 x36 x37 x38=>dN w28 (zB w1) (zu x34) (zb x35) (.bool x36) (zu x37) (x38.zw) λw36=>dZ w36 (zB w1) λx39 x40 x41 x42 x43=>R (.tuple #[.agg #[zu x39,zb x40,.bool x41,zu x42,x43.zw],zi 0]) w36)) (0,()) w27))
theorem YK(p0)(p1)(R)(w)(h:yL p0 p1 R w):Calls Tryz.prog 106 #[.pointer p0,.agg #[.int .u16 p1.1,.int .u32 p1.2.1,.int .u32 p1.2.2.1,.slice p1.2.2.2.1.a p1.2.2.2.1.l p1.2.2.2.1.c]] w (Ret R):=lwC yO Tryz.func106 (by kernel_rfl) (by kernel_rfl) h
def Zf:Ann:=(.q (.q (.seq none (.q (.cond (.q .nil) .nil)) (.q (.seq none (.q (.cond (.q .nil) .nil)) (.q (.seq none (.q (.one (.loop ⟨[0,8,10,11,12],[(13,(.b (.int .i64)))]⟩ (.seq none (.q .c) (.seq none (.one .nil) .nil))))) (.q .nil))))))))
def yZ(p0:Option Addr)(p1:(Int×Int×Sl×Unit))(p2:(Int×Int×Int×Sl×Unit))(p3:Int)(R:VWP)(w:World):Prop:=Nw (w.alloc (.cells #[zu p1.1,zu p1.2.1,p1.2.2.1.zw] 25)) λw1=>Nw (w1.alloc (.cells #[zh p2.1,zu p2.2.1,zu p2.2.2.1,p2.2.2.2.1.zw] 52)) λw2=>Nw (w2.alloc (.cells #[zu 0,zb 0,.bool false,zu 0,.slice none 0 0] 115)) λw3=>ldS w3 ((zB w1).add 3) λx1=>(0<=(0:Int)/\0<(x1.l:Int))/\ze x1.a λa2=>ldI w3 ((a2.add (0*3)).add 1) .u32 λx3=>db 58 #[.pointer p0,zu x3] w3 λx5 w4=>ifB (!x5) (dN w4 (zB w2) (zu 0) (zb 0) (.bool false) (zu 0) (.slice none 0 0) λw9=>dZ w9 (zB w2) λx6 x7 x8 x9 x10=>R (.tuple #[.agg #[zu x6,zb x7,.bool x8,zu x9,x10.zw],zi 100]) w9) (dc w4.drew (zB w) λx11 x12 x13=>ldS w4.drew ((zB w1).add 3) λx14=>(0<=(1:Int)/\1<(x14.l:Int))/\ze x14.a λa15=>ldI w4.drew ((a15.add (1*3)).add 1) .u32 λx16=>dm 140 #[.pointer p0,.agg #[zu x11,zu x12,x13.zw],zu x16,zi p3] w4.drew λx18 w10=>ifB (x18==0) (dN w10 (zB w2) (zu 0) (zb 0) (.bool false) (zu 0) (.slice none 0 0) λw15=>dZ w15 (zB w2) λx19 x20 x21 x22 x23=>R (.tuple #[.agg #[zu x19,zb x20,.bool x21,zu x22,x23.zw],zi 102]) w15) (dX w10 #[zu 0,zb 0,.bool false,zu 0,.slice none 0 0] 115 (zu 0) (zb 5) (.bool false) (zu 0) (.slice none 0 0) λw21=>zn (S:=Int×Unit) (λs24 w22 n25=>ifB (decide (s24.1<x18)) (ldS w22 ((zB w10).add 4) λx26=>Nw (w22.alloc (.cells #[zu x3] 22)) λw23=>zr Tryz.prog 30 (x26.zw) (.slice (some (zB w22)) 1 1) w23 λr27 w24=>Wr w24 ((zB w10).add 4)/\Nw (w24.setCell ((zB w10).add 4) (r27.zw)) λw25=>n25 ((IntKind.i64.wrap (s24.1+(1:Int))),()) w25) (dZ w22.drew (zB w10) λx28 x29 x30 x31 x32=>dZ w22.drew (zB w10) λx33 x34 x35 x36 x37=>dm 141 #[.pointer p0,.agg #[zu x33,zb x34,.bool x35,zu x36,x37.zw]] w22.drew λx39 w26=>w26.cell? ((zB w10).add 0)=some (zu x28)/\w26.cell? ((zB w10).add 1)=some (zb x29)/\w26.cell? ((zB w10).add 2)=some (.bool x30)/\w26.cell? ((zB w10).add 3)=some (zu x31)/\w26.cell? ((zB w10).add 4)=some (x32.zw)/\dN w26 (zB w2) (zu x28) (zb x29) (.bool x30) (zu x31) (x32.zw) λw31=>dZ w31 (zB w2) λx40 x41 x42 x43 x44=>R (.tuple #[.agg #[zu x40,zb x41,.bool x42,zu x43,x44.zw],zi x39]) w31)) (0,()) w21))
theorem YT(p0)(p1)(p2)(p3)(R)(w)(h:yZ p0 p1 p2 p3 R w):Calls Tryz.prog 107 #[.pointer p0,.agg #[.int .u32 p1.1,.int .u32 p1.2.1,.slice p1.2.2.1.a p1.2.2.1.l p1.2.2.1.c],.agg #[.int .u16 p2.1,.int .u32 p2.2.1,.int .u32 p2.2.2.1,.slice p2.2.2.2.1.a p2.2.2.2.1.l p2.2.2.2.1.c],.int .i64 p3] w (Ret R):=lwC Zf Tryz.func107 (by kernel_rfl) (by kernel_rfl) h
def yA:Ann:=(.q (.seq (some ⟨[0,3,4],[]⟩) (.q (.cond (.q .nil) .nil)) (.q (.seq none (.q (.one (.loop ⟨[0,3,4,6],[(7,(.b (.int .i64)))]⟩ (.seq none (.q .c) (.seq none (.one (.seq none (.q (.cond (.q .nil) .nil)) .nil)) .nil))))) (.q .nil)))))
def y7(p0:Option Addr)(p1:(Int×Int×Int×Sl×Unit))(R:VWP)(w:World):Prop:=Nw (w.alloc (.cells #[zh p1.1,zu p1.2.1,zu p1.2.2.1,p1.2.2.2.1.zw] 52)) λw1=>Nw (w1.alloc (.cells #[zu 0,zb 0,.bool false,zu 0,.slice none 0 0] 115)) λw2=>zl (S:=Unit) (λm1=>ldS w2 ((zB w).add 3) λx3=>ifB ((x3.l:Int)==0) (dN w2 (zB w1) (zu 0) (zb 0) (.bool false) (zu 0) (.slice none 0 0) λw7=>dZ w7 (zB w1) λx4 x5 x6 x7 x8=>R (.tuple #[.agg #[zu x4,zb x5,.bool x6,zu x7,x8.zw],zi 102]) w7) (ldS w2 ((zB w).add 3) λx9=>ifB (decide ((x9.l:Int)>256)) (dN w2 (zB w1) (zu 0) (zb 0) (.bool false) (zu 0) (.slice none 0 0) λw12=>dZ w12 (zB w1) λx10 x11 x12 x13 x14=>R (.tuple #[.agg #[zu x10,zb x11,.bool x12,zu x13,x14.zw],zi 102]) w12) (m1 () w2))) (λs2 w13=>dX w13 #[zu 0,zb 0,.bool false,zu 0,.slice none 0 0] 115 (zu 0) (zb 6) (.bool false) (zu 0) (.slice none 0 0) λw19=>zn (S:=Int×Unit) (λs15 w20 n16=>ldS w20 ((zB w).add 3) λx17=>ifB (decide (s15.1<(x17.l:Int))) (ldS w20 ((zB w).add 3) λx18=>(0<=s15.1/\s15.1<(x18.l:Int))/\ze x18.a λa19=>ldI w20 ((a19.add (s15.1.toNat *3)).add 1) .u32 λx20=>db 58 #[.pointer p0,zu x20] w20 λx22 w21=>ifB (!x22) (dN w21 (zB w1) (zu 0) (zb 0) (.bool false) (zu 0) (.slice none 0 0) λw26=>dZ w26 (zB w1) λx23 x24 x25 x26 x27=>R (.tuple #[.agg #[zu x23,zb x24,.bool x25,zu x26,x27.zw],zi 100]) w26) (ldS w21.drew ((zB w13).add 4) λx28=>ldS w21.drew ((zB w).add 3) λx29=>(0<=s15.1/\s15.1<(x29.l:Int))/\ze x29.a λa30=>ldI w21.drew ((a30.add (s15.1.toNat *3)).add 1) .u32 λx31=>Nw (w21.drew.alloc (.cells #[zu x31] 22)) λw27=>w27.cell? ((zB w13).add 4)=some (x28.zw)/\zr Tryz.prog 30 (x28.zw) (.slice (some (blk w21.drew.heap.size)) 1 1) w27 λr32 w28=>Wr w28 ((zB w13).add 4)/\Nw (w28.setCell ((zB w13).add 4) (r32.zw)) λw29=>n16 ((IntKind.i64.wrap (s15.1+(1:Int))),()) w29)) (dZ w20.drew (zB w13) λx33 x34 x35 x36 x37=>dZ w20.drew (zB w13) λx38 x39 x40 x41 x42=>dm 141 #[.pointer p0,.agg #[zu x38,zb x39,.bool x40,zu x41,x42.zw]] w20.drew λx44 w30=>w30.cell? ((zB w13).add 0)=some (zu x33)/\w30.cell? ((zB w13).add 1)=some (zb x34)/\w30.cell? ((zB w13).add 2)=some (.bool x35)/\w30.cell? ((zB w13).add 3)=some (zu x36)/\w30.cell? ((zB w13).add 4)=some (x37.zw)/\dN w30 (zB w1) (zu x33) (zb x34) (.bool x35) (zu x36) (x37.zw) λw35=>dZ w35 (zB w1) λx45 x46 x47 x48 x49=>R (.tuple #[.agg #[zu x45,zb x46,.bool x47,zu x48,x49.zw],zi x44]) w35)) (0,()) w19)
theorem Y0(p0)(p1)(R)(w)(h:y7 p0 p1 R w):Calls Tryz.prog 108 #[.pointer p0,.agg #[.int .u16 p1.1,.int .u32 p1.2.1,.int .u32 p1.2.2.1,.slice p1.2.2.2.1.a p1.2.2.2.1.l p1.2.2.2.1.c]] w (Ret R):=lwC yA Tryz.func108 (by kernel_rfl) (by kernel_rfl) h
def yv:Ann:=(.q (.q (.seq none (.q (.one (.loop ⟨[0,3,4,6],[(7,(.b (.int .i64)))]⟩ (.seq none (.q .c) (.seq none (.one (.q (.seq (some ⟨[0,3,4,6,7,8],[(9,(.b .bool))]⟩) .nil (.seq none (.q (.cond (.q .nil) .nil)) .nil)))) .nil))))) (.q .nil))))
def yq(p0:Option Addr)(p1:(Int×Int×Int×Sl×Unit))(R:VWP)(w:World):Prop:=Nw (w.alloc (.cells #[zh p1.1,zu p1.2.1,zu p1.2.2.1,p1.2.2.2.1.zw] 52)) λw1=>Nw (w1.alloc (.cells #[zu 0,zb 0,.bool false,zu 0,.slice none 0 0] 115)) λw2=>dX w2 #[zu 0,zb 0,.bool false,zu 0,.slice none 0 0] 115 (zu 0) (zb 8) (.bool false) (zu 0) (.slice none 0 0) λw8=>zn (S:=Int×Unit) (λs1 w9 n2=>ldS w9 ((zB w).add 3) λx3=>ifB (decide (s1.1<(x3.l:Int))) (ldS w9 ((zB w).add 3) λx4=>(0<=s1.1/\s1.1<(x4.l:Int))/\ze x4.a λa5=>ldI w9 ((a5.add (s1.1.toNat *3)).add 1) .u32 λx6=>zl (S:=Bool×Unit) (λm7=>db 58 #[.pointer p0,zu x6] w9 λx10 w10=>ifB x10 (m7 (true,()) w10) (ifB (s1.1==0) (dA 77 #[.pointer p0,zu x6] w10 λx12 w11=>ifB (x12==1) (m7 (true,()) w11) (ifB (decide (s1.1>(0:Int))) (dA 77 #[.pointer p0,zu x6] w11 λx14 w12=>m7 ((x14==7),()) w12) (m7 (false,()) w11))) (ifB (decide (s1.1>(0:Int))) (dA 77 #[.pointer p0,zu x6] w10 λx16 w13=>m7 ((x16==7),()) w13) (m7 (false,()) w10)))) (λs8 w14=>ifB (!s8.1) (dN w14 (zB w1) (zu 0) (zb 0) (.bool false) (zu 0) (.slice none 0 0) λw19=>dZ w19 (zB w1) λx17 x18 x19 x20 x21=>R (.tuple #[.agg #[zu x17,zb x18,.bool x19,zu x20,x21.zw],zi 100]) w19) (ldS w14 ((zB w2).add 4) λx22=>Nw (w14.alloc (.cells #[zu x6] 22)) λw20=>zr Tryz.prog 30 (x22.zw) (.slice (some (zB w14)) 1 1) w20 λr23 w21=>Wr w21 ((zB w2).add 4)/\Nw (w21.setCell ((zB w2).add 4) (r23.zw)) λw22=>n2 ((IntKind.i64.wrap (s1.1+(1:Int))),()) w22))) (dZ w9 (zB w2) λx24 x25 x26 x27 x28=>dN w9 (zB w1) (zu x24) (zb x25) (.bool x26) (zu x27) (x28.zw) λw27=>dZ w27 (zB w1) λx29 x30 x31 x32 x33=>R (.tuple #[.agg #[zu x29,zb x30,.bool x31,zu x32,x33.zw],zi 0]) w27)) (0,()) w8
theorem Yd(p0)(p1)(R)(w)(h:yq p0 p1 R w):Calls Tryz.prog 109 #[.pointer p0,.agg #[.int .u16 p1.1,.int .u32 p1.2.1,.int .u32 p1.2.2.1,.slice p1.2.2.2.1.a p1.2.2.2.1.l p1.2.2.2.1.c]] w (Ret R):=lwC yv Tryz.func109 (by kernel_rfl) (by kernel_rfl) h
def yN:Ann:=(.q (.seq none (.q (.one (.loop ⟨[0,2,3,5],[(9,(.b (.int .i64)))]⟩ (.seq none (.q .c) (.seq none (.one (.q (.seq none (.q .c) (.seq (some ⟨[10],[]⟩) (.q (.cond (.q .nil) .nil)) (.q .nil))))) .nil))))) (.q .nil)))
def yK(p0:Option Addr)(p1:(Int×Int×Sl×Unit))(p2:Int)(p3:Int)(R:VWP)(w:World):Prop:=Nw (w.alloc (.cells #[zu p1.1,zu p1.2.1,p1.2.2.1.zw] 25)) λw1=>zn (S:=Int×Unit) (λs1 w2 n2=>ifB (decide (s1.1<p3)) (ldS w2 ((zB w).add 2) λx3=>(0<=s1.1/\s1.1<(x3.l:Int))/\ze x3.a λa4=>da w2 (a4.add (s1.1.toNat *4)) λx5 x6 x7 x8=>dh w2 #[zh 0,zu 0,zu 0,.slice none 0 0] 52 (zh x5) (zu x6) (zu x7) (x8.zw) λw7=>ldI w7 ((zB w2).add 2) .u32 λx9=>ifB (x9 !=p2) (n2 ((IntKind.i64.wrap (s1.1+(1:Int))),()) w7) (zl (S:=Unit) (λm10=>ldI w7 (zB w2) .u16 λx12=>ifB (x12 !=43) (R (zi 0) w7) (dc w7 (zB w) λx13 x14 x15=>ldI w7 ((zB w2).add 1) .u32 λx16=>dA 167 #[.pointer p0,.agg #[zu x13,zu x14,x15.zw],zu x16,zi s1.1] w7 λx18 w8=>ifB (x18 !=3) (R (zi 0) w8) (ldS w8 ((zB w2).add 3) λx19=>(0<=(0:Int)/\0<(x19.l:Int))/\ze x19.a λa20=>ldI w8 ((a20.add (0*3)).add 1) .u32 λx21=>ifB (decide (x21>(4096:Int))) (R (zi 0) w8) (m10 () w8)))) (λs11 w9=>ldS w9 ((zB w2).add 3) λx22=>(0<=(0:Int)/\0<(x22.l:Int))/\ze x22.a λa23=>ldI w9 ((a23.add (0*3)).add 1) .u32 λx24=>R (zi (IntKind.i64.wrap x24)) w9))) (R (zi 0) w2)) (0,()) w1
theorem YJ(p0)(p1)(p2)(p3)(R)(w)(h:yK p0 p1 p2 p3 R w):Calls Tryz.prog 140 #[.pointer p0,.agg #[.int .u32 p1.1,.int .u32 p1.2.1,.slice p1.2.2.1.a p1.2.2.1.l p1.2.2.1.c],.int .u32 p2,.int .i64 p3] w (Ret R):=lwC yN Tryz.func140 (by kernel_rfl) (by kernel_rfl) h
def Zy:Ann:=(.q (.q (.q (.q (.q (.seq none (.q (.one (.loop ⟨[0,3],[(5,(.b (.int .i64))),(6,(.b (.int .i64))),(7,(.b (.int .u32))),(8,(.b (.int .i64))),(9,(.b (.int .i64)))]⟩ (.seq none (.q .c) (.seq none (.one (.seq (some ⟨[0,3,5,9],[(6,(.b (.int .i64))),(7,(.b (.int .u32))),(8,(.b (.int .i64)))]⟩) (.q (.cond (.q (.q (.q (.q .c)))) .nil)) (.q (.q (.cond (.q .nil) .nil))))) .nil))))) (.seq none (.q (.cond (.q .nil) .nil)) (.q .nil))))))))
def Zo(p0:Option Addr)(p1:(Int×Int×Bool×Int×Sl×Unit))(R:VWP)(w:World):Prop:=Nw (w.alloc (.cells #[zu p1.1,zb p1.2.1,.bool p1.2.2.1,zu p1.2.2.2.1,p1.2.2.2.2.1.zw] 115)) λw1=>zn (S:=Int×Int×Int×Int×Int×Unit) (λs1 w2 n2=>ldS w2 ((zB w).add 4) λx3=>ifB (decide (s1.2.2.2.2.1<(x3.l:Int))) (zl (S:=Int×Int×Int×Unit) (λm4=>ldS w2 ((zB w).add 4) λx6=>(0<=s1.2.2.2.2.1/\s1.2.2.2.2.1<(x6.l:Int))/\ze x6.a λa7=>ldI w2 (a7.add s1.2.2.2.2.1.toNat) .u32 λx8=>ifB (x8 !=s1.2.2.1) (ldS w2 ((zB w).add 4) λx9=>(0<=s1.2.2.2.2.1/\s1.2.2.2.2.1<(x9.l:Int))/\ze x9.a λa10=>ldI w2 (a10.add s1.2.2.2.2.1.toNat) .u32 λx11=>dm 38 #[.pointer p0,zu x11] w2 λx13 w3=>dm 168 #[.pointer p0,zu x11] w3 λx15 w4=>ifB (decide (x15>s1.2.1)) (m4 (x15,x11,x13,()) w4) (m4 (s1.2.1,x11,x13,()) w4)) (m4 (s1.2.1,s1.2.2.1,s1.2.2.2.1,()) w2)) (λs5 w5=>ifB (decide ((IntKind.i64.wrap (s1.1+s5.2.2.1))>4096)) (R (zi 102) w5) (n2 ((IntKind.i64.wrap (s1.1+s5.2.2.1)),s5.1,s5.2.1,s5.2.2.1,(IntKind.i64.wrap (s1.2.2.2.2.1+(1:Int))),()) w5))) (ifB (decide ((IntKind.i64.wrap (s1.2.1+(1:Int)))>16)) (R (zi 4) w2) (R (zi 0) w2))) (0,0,0,0,0,()) w1
theorem za7(p0)(p1)(R)(w)(h:Zo p0 p1 R w):Calls Tryz.prog 141 #[.pointer p0,.agg #[.int .u32 p1.1,.int .u8 p1.2.1,.bool p1.2.2.1,.int .u32 p1.2.2.2.1,.slice p1.2.2.2.2.1.a p1.2.2.2.2.1.l p1.2.2.2.2.1.c]] w (Ret R):=lwC Zy Tryz.func141 (by kernel_rfl) (by kernel_rfl) h
def yo:Ann:=(.q (.seq none (.q (.one (.loop ⟨[0,2,3,5],[(9,(.b (.int .i64)))]⟩ (.seq none (.q .c) (.seq none (.one (.q (.cond (.q .nil) .nil))) .nil))))) (.q .nil)))
def ym(p0:Option Addr)(p1:(Int×Int×Sl×Unit))(p2:Int)(p3:Int)(R:VWP)(w:World):Prop:=Nw (w.alloc (.cells #[zu p1.1,zu p1.2.1,p1.2.2.1.zw] 25)) λw1=>zn (S:=Int×Unit) (λs1 w2 n2=>ifB (decide (s1.1<p3)) (ldS w2 ((zB w).add 2) λx3=>(0<=s1.1/\s1.1<(x3.l:Int))/\ze x3.a λa4=>ldI w2 ((a4.add (s1.1.toNat *4)).add 2) .u32 λx5=>ifB (x5==p2) (dA 77 #[.pointer p0,zu p2] w2 λx7 w3=>R (zb x7) w3) (n2 ((IntKind.i64.wrap (s1.1+(1:Int))),()) w2)) (R (zb 0) w2)) (0,()) w1
theorem ZW(p0)(p1)(p2)(p3)(R)(w)(h:ym p0 p1 p2 p3 R w):Calls Tryz.prog 167 #[.pointer p0,.agg #[.int .u32 p1.1,.int .u32 p1.2.1,.slice p1.2.2.1.a p1.2.2.1.l p1.2.2.1.c],.int .u32 p2,.int .i64 p3] w (Ret R):=lwC yo Tryz.func167 (by kernel_rfl) (by kernel_rfl) h
def Zt:Ann:=(.q (.q (.q (.q (.seq none (.q (.one (.loop ⟨[0,5],[(7,(.b (.int .i64))),(8,(.b (.int .u32))),(9,(.b (.int .i64)))]⟩ (.seq none (.q .c) (.seq (some ⟨[0,5,9],[(7,(.b (.int .i64))),(8,(.b (.int .u32)))]⟩) (.one (.seq none (.q .c) (.q (.q (.q .c))))) .nil))))) (.q .nil))))))
def Zj(p0:Option Addr)(p1:Int)(R:VWP)(w:World):Prop:=dY 57 #[.pointer p0,zu p1] w λx2 x3 w1=>dX w1 #[zu 0,zb 0,.bool false,zu 0,.slice none 0 0] 115 (zu x2.1) (zb x2.2.1) (.bool x2.2.2.1) (zu x2.2.2.2.1) (x2.2.2.2.2.1.zw) λw7=>zn (S:=Int×Int×Int×Unit) (λs4 w8 n5=>ldS w8 ((zB w1).add 4) λx6=>ifB (decide (s4.2.2.1<(x6.l:Int))) (zl (S:=Int×Int×Unit) (λm7=>ldS w8 ((zB w1).add 4) λx9=>(0<=s4.2.2.1/\s4.2.2.1<(x9.l:Int))/\ze x9.a λa10=>ldI w8 (a10.add s4.2.2.1.toNat) .u32 λx11=>ifB (x11==s4.2.1) (m7 (s4.1,s4.2.1,()) w8) (ldS w8 ((zB w1).add 4) λx12=>(0<=s4.2.2.1/\s4.2.2.1<(x12.l:Int))/\ze x12.a λa13=>ldI w8 (a13.add s4.2.2.1.toNat) .u32 λx14=>dm 168 #[.pointer p0,zu x14] w8 λx16 w9=>ifB (decide (x16>s4.1)) (m7 (x16,x14,()) w9) (m7 (s4.1,x14,()) w9))) (λs8 w10=>n5 (s8.1,s8.2.1,(IntKind.i64.wrap (s4.2.2.1+(1:Int))),()) w10)) (R (zi (IntKind.i64.wrap (s4.1+(1:Int)))) w8)) (0,0,0,()) w7
theorem za3(p0)(p1)(R)(w)(h:Zj p0 p1 R w):Calls Tryz.prog 168 #[.pointer p0,.int .u32 p1] w (Ret R):=lwC Zt Tryz.func168 (by kernel_rfl) (by kernel_rfl) h
end Go.Proofs
namespace Go.Proofs
open Go.Gk Go.RowKit Go.Gm
abbrev Rv:=Int×Int×Bool×Int×Sl×Unit
abbrev rvV(v:Rv):List Value:=[.int .u32 v.1,.int .u8 v.2.1,.bool v.2.2.1,.int .u32 v.2.2.2.1,.slice v.2.2.2.2.1.a v.2.2.2.2.1.l v.2.2.2.2.1.c]
abbrev rvA(v:Rv):Value:=.agg #[.int .u32 v.1,.int .u8 v.2.1,.bool v.2.2.1,.int .u32 v.2.2.2.1,.slice v.2.2.2.2.1.a v.2.2.2.2.1.l v.2.2.2.2.1.c]
theorem zgr:∀v,(rvV v).length=5:=λ_=>rfl
def rv0:Rv:=(0,0,false,0,⟨none,0,0⟩,())
structure RvOk (A:Nat->Prop) (w:World) (v:Rv) (t:Tp):Prop where
 kind:v.2.1=t.kind
 sg:v.2.2.1=t.sg
 cls:v.2.2.2.1=t.cls
 wd:WdOk A w v.2.2.2.2.1 t.full
theorem RvOk.nil(A:Nat->Prop)(w:World):RvOk A w rv0 tp0:=⟨rfl,rfl,rfl,WdOk.nil A w⟩
theorem RvOk.keep{A A':Nat->Prop}{w w':World}{v:Rv}{t:Tp}(h:RvOk A w v t)(hk:∀b,A b->b<w.heap.size->w'.heap[b]? =w.heap[b]?/\A' b)(hs:w.heap.size<=w'.heap.size):RvOk A' w' v t:=⟨h.kind,h.sg,h.cls,h.wd.keep hk hs⟩
theorem RvOk.below{A:Nat->Prop}{w w':World}{v:Rv}{t:Tp}(h:RvOk A w v t)(hb:Below w.heap.size w w'):RvOk A w' v t:=h.keep (λb h1 h2=>⟨hb.block b h2,h1⟩) hb.size
abbrev RvR(A:Nat->Prop)(w:World)(v:Rv)(p:Int×Tp):Prop:=v.1=p.1/\RvOk A w v p.2
structure IsRt (w:World) (A:Nat->Prop) (tb:Nat) (T:TyL):Prop where
 ex:∃(s:Sl) (hs:List Rv),Blk w tb 149 [.slice s.a s.l s.c]/\IsC 5 rvV w s hs/\Al2 (RvR A w) hs T/\∀y,s.a=some y->y.block<w.heap.size
section
variable {w w':World} {A:Nat->Prop} {tb:Nat} {T:TyL} {id:Int} {R:VWP}
theorem Al2.len{α β:Type}{P:α->β->Prop}:∀{l:List α} {m:List β},Al2 P l m->l.length=m.length
 |_,_,.nil=>rfl
 |_,_,.cons _ t=>by rw[List.length_cons,List.length_cons,t.len]
theorem Al2.get{α β:Type}{P:α->β->Prop}:∀{l:List α} {m:List β},Al2 P l m->∀(i:Nat) (h1:i<l.length) (h2:i<m.length),P l[i] m[i]
 |_,_,.cons h _,0,_,_=>h
 |_,_,.cons _ t,i+1,h1,h2=>t.get i (by simpa using h1) (by simpa using h2)
theorem IsRt.below(h:IsRt w A tb T)(hb:Below w.heap.size w w'):IsRt w' A tb T:=by
 obtain⟨s,hs,h1,h2,h3,h4⟩:=h
 exact⟨s,hs,h1.below hb,h2.below zgr hb,allR (λa c q=>⟨q.1,q.2.below hb⟩) h3,λy hy=>Nat.lt_of_lt_of_le (h4 y hy) hb.size⟩
theorem ziP{α:Type}:∀{L:List (Int×α)} {k:Nat} (hk:k<L.length),(∀j (hj:j<L.length),j<k->L[j].1≠id)->L[k].1=id->zv L id=some L[k].2
 | [],k,hk,_,_=>absurd hk (by simp)
 |p::r,0,_,_,h=>by
  have h:p.1=id:=h
  simp only[zv]
  rw[if_pos h.symm]
  rfl
 |p::r,k+1,hk,hn,h=>by
  have h0:p.1≠id:=hn 0 (by simp) (by omega)
  simp only[zv]
  rw[if_neg (λe=>h0 e.symm)]
  exact ziP (by simpa using hk) (λj hj hjk=>hn (j+1) (by simpa using hj) (by omega)) h
theorem zqK{α:Type}{L:List (Int×α)}(h:∀j (hj:j<L.length),L[j].1≠id):zv L id=none:=
 zfa.2 λhm=>by
  obtain⟨p,hp,e⟩:=List.mem_map.1 hm
  obtain⟨j,hj,rfl⟩:=List.mem_iff_getElem.1 hp
  exact h j hj e
theorem zs2{T:TypeId}{cs:Array Value}{v0 v1 v2 v3 v4:Value}{K:World->Prop}{w:World}(hl:cs.size=5)(hK:∀w',Blk w' w.heap.size T [v0,v1,v2,v3,v4]->Below w.heap.size w w'->w'.heap.size=w.heap.size+1->K w') :
  Nw (w.alloc (.cells cs T)) λw0=>Wr w0 (blk w.heap.size)/\Nw (w0.setCell (blk w.heap.size) v0) λw1=>Wr w1 ((blk w.heap.size).add 1)/\Nw (w1.setCell ((blk w.heap.size).add 1) v1) λw2=>Wr w2 ((blk w.heap.size).add 2)/\Nw (w2.setCell ((blk w.heap.size).add 2) v2) λw3=>Wr w3 ((blk w.heap.size).add 3)/\Nw (w3.setCell ((blk w.heap.size).add 3) v3) λw4=>
   Wr w4 ((blk w.heap.size).add 4)/\Nw (w4.setCell ((blk w.heap.size).add 4) v4) λw5=>K w5:=
 zfE (vs:=[v0,v1,v2,v3,v4]) hl hK
theorem zhz{v:Rv}{K:World->Prop}(hK:∀w',Blk w' w.heap.size 115 (rvV v)->Below w.heap.size w w'->K w') :
  Nw (w.alloc (.cells #[(.int .u32 (0:Int)),(.int .u8 (0:Int)),(.bool false),(.int .u32 (0:Int)),(.slice none 0 0)] 115)) λw0=>Wr w0 (blk w.heap.size)/\Nw (w0.setCell (blk w.heap.size) (.int .u32 v.1)) λw1=>Wr w1 ((blk w.heap.size).add 1)/\Nw (w1.setCell ((blk w.heap.size).add 1) (.int .u8 v.2.1)) λw2=>Wr w2 ((blk w.heap.size).add 2)/\Nw (w2.setCell ((blk w.heap.size).add 2) (.bool v.2.2.1)) λw3=>
   Wr w3 ((blk w.heap.size).add 3)/\Nw (w3.setCell ((blk w.heap.size).add 3) (.int .u32 v.2.2.2.1)) λw4=>Wr w4 ((blk w.heap.size).add 4)/\Nw (w4.setCell ((blk w.heap.size).add 4) (.slice v.2.2.2.2.1.a v.2.2.2.2.1.l v.2.2.2.2.1.c)) λw5=>K w5:=
 zs2 rfl λw' h hb _=>hK w' h hb
theorem Rv.load{b:Nat}{Ty:TypeId}{v:Rv}(h:Blk w b Ty (rvV v)){φ:Int->Int->Bool->Int->Sl->Prop}(hφ:φ v.1 v.2.1 v.2.2.1 v.2.2.2.1 v.2.2.2.2.1) :
  ldI w ((blk b).add 0) .u32 λx1=>ldI w ((blk b).add 1) .u8 λx2=>ldB w ((blk b).add 2) λx3=>ldI w ((blk b).add 3) .u32 λx4=>ldS w ((blk b).add 4) λx5=>φ x1 x2 x3 x4 x5:=
 ⟨_,h.cell (n:=0) rfl,_,h.cell (n:=1) rfl,_,h.cell (n:=2) rfl,_,h.cell (n:=3) rfl,_,h.cell (n:=4) rfl,hφ⟩
theorem zaF(h:IsRt w A tb T)(hR:∀w' v,RvOk A w' v (tA T id)->Below w.heap.size w w'->R (.tuple #[rvA v,.bool (zv T id).isSome]) w') :
  cR 57 #[.pointer (some (blk tb)),.int .u32 id] w R:=by
 refine za.of (za4 _ id R w ?_) λ_ _ h=>h
 refine zm λw1 hO1 b1 z1=>zx rfl ?_
 have hO1:Blk w1 w.heap.size 115 (rvV rv0):=hO1
 obtain⟨s,hs,h1,h2,h3,h4⟩:=h
 have h1:=h1.below b1
 have h2:IsC 5 rvV w1 s hs:=h2.below zgr b1
 have hl:=h2.len
 have hl3:=h3.len
 refine zn.count hs.length h2.bound (λk w'=>w'=w1/\∀j (hj:j<T.length),j<k->T[j].1≠id) ⟨rfl,λj _ h=>by omega⟩ ?_
 rintro k w7 hk ⟨rfl,hno⟩ next hnext
 refine zf rfl ⟨s,h1.cell0 rfl,zk (λg=>?_) (λg=>?_)⟩
 ·have hkl:k<hs.length:=by dsimp only at g;omega
  have hkT:k<T.length:=by omega
  obtain⟨a,ha⟩:=h2.base hkl
  have hc:=λj hj=>h2.cell a ha k hkl j hj
  obtain⟨e1,e2⟩:=h3.get k hkl hkT
  refine zf rfl ⟨s,h1.cell0 rfl,⟨by omega,by dsimp only;omega⟩,zf ha ⟨hs[k].1,by have:=hc 0 (by decide);simpa using this,zj (λe=>?_) (λe=>hnext _ hkl ⟨rfl,λj hj hjk=>?_⟩)⟩⟩
  ·refine zf rfl ⟨s,h1.cell0 rfl,⟨by omega,by dsimp only;omega⟩,zf ha ⟨hs[k].1,?_,hs[k].2.1,?_,hs[k].2.2.1,?_,hs[k].2.2.2.1,?_,hs[k].2.2.2.2.1,?_,?_⟩⟩
   ·rw[zt];exact hc 0 (by decide)
   ·rw[zt];exact hc 1 (by decide)
   ·rw[zt];exact hc 2 (by decide)
   ·rw[zt];exact hc 3 (by decide)
   ·rw[zt];exact hc 4 (by decide)
   have hf:=ziP hkT hno (by rw[<-e1];exact e)
   have htA:tA T id=T[k].2:=by unfold tA;rw[hf];rfl
   refine st5 hO1 rfl λw12 hO12 c12=>Rv.load (v:=hs[k]) hO12 ?_
   have:=hR w12 hs[k] (by
    rw[htA]
    exact e2.keep (λc q1 q2=>⟨(c12.block c (by omega)).trans (b1.block c q2),q1⟩) (by rw[c12.size];exact b1.size)) (c12.below b1 (Nat.le_refl _))
   rw[hf]at this
   exact this
  ·by_cases e':j=k
   ·subst e'
    rw[<-e1]
    exact e
   ·exact hno j hj (by omega)
 ·have hno':=zqK (L:=T) (id:=id) λj hj=>hno j hj (by dsimp only at g;omega)
  have htA:tA T id=tp0:=by unfold tA;rw[hno'];rfl
  refine st5 hO1 rfl λw17 hO17 c17=>Rv.load (v:=rv0) hO17 ?_
  have:=hR w17 rv0 (by rw[htA];exact RvOk.nil A w17) (c17.below b1 (Nat.le_refl _))
  rw[hno']at this
  exact this
end
end Go.Proofs
namespace Go.Proofs
open Go.Gk Go.RowKit Go.Gm
section
variable {T:TyL} {id:Int}
theorem zj8(hT:TbOk T)(h:(tA T id).kind=0):tA T id=tp0:=by
 unfold tA at h⊢
 cases hl:zv T id with
 |none=>rfl
 |some t=>
  rw[hl]at h
  have h:t.kind=0:=h
  have:=(hT id t hl).kd
  omega
theorem ze8(hT:TbOk T)(id:Int):0<(tA T id).size↔2<=(tA T id).kind/\(tA T id).kind<=6:=by
 by_cases h:(tA T id).kind=0
 ·rw[zj8 hT h]
  exact⟨λq=>absurd q (by decide),λq=>absurd q (by decide)⟩
 ·exact(zdD hT h).plain
theorem zpp(hT:TbOk T)(id:Int):(tA T id).full.length=(tA T id).cnt:=by
 by_cases h:(tA T id).kind=0
 ·rw[zj8 hT h]
  rfl
 ·exact zku _ (zdD hT h)
theorem zsx(hT:TbOk T)(id k:Int):(tA T id).prt k=if k<0\/((tA T id).full.length:Int)<=k then(0,false) else((tA T id).full.getD k.toNat 0,true):=by
 rw[zpp hT]
 by_cases h:k<0\/((tA T id).cnt:Int)<=k
 ·rw[if_pos h]
  unfold Tp.prt
  rw[if_pos h]
 ·rw[if_neg h]
  obtain⟨j,rfl⟩:=Int.eq_ofNat_of_zero_le (show 0<=k by omega)
  have hk:(tA T id).kind≠0:=λe=>by
   rw[zj8 hT e]at h
   exact h (.inr (by show((0:Nat):Int)<=(j:Int);omega))
  rw[zmZ (zdD hT hk) (by omega)]
  rfl
theorem zhZ(T:TyL)(l:List Int)(p:Int):sumT T (l++[p])=sumT T l+(tA T p).size:=by
 unfold sumT
 rw[List.map_append,List.sum_append_nat]
 simp
theorem zje(T:TyL)(l:List Int)(j:Nat):sumT T (l.take j)<=sumT T l:=by
 conv=>rhs;rw[<-List.take_append_drop j l]
 unfold sumT
 rw[List.map_append,List.sum_append_nat]
 omega
theorem zc1(T:TyL)(l:List Int)(p:Int):zO T (l++[p])=max (zO T l) (tA T p).depth:=by
 unfold zO
 rw[List.foldl_append]
 rfl
end
section
variable {w w':World} {A:Nat->Prop} {tb:Nat} {T:TyL} {id:Int} {R:VWP}
theorem Ya(h:IsRt w A tb T)(hR:∀w',Below w.heap.size w w'->R (.int .u8 (tA T id).kind) w'):cR 77 #[.pointer (some (blk tb)),.int .u32 id] w R:=by
 refine za.of (za5 _ id R w ?_) λ_ _ h=>h
 refine zaF h λw1 v hv b1=>⟨v,_,rfl,zhz λw2 h2 b2=>h2.rI (n:=1) (x:=v.2.1) rfl ?_⟩
 rw[hv.kind]
 exact hR w2 (b1.on b2)
theorem yE(h:IsRt w A tb T)(hT:TbOk T)(hR:∀w',Below w.heap.size w w'->R (.bool (decide (0<(tA T id).size))) w'):cR 58 #[.pointer (some (blk tb)),.int .u32 id] w R:=by
 refine za.of (YS _ id R w ?_) λ_ _ h=>h
 have hp:=ze8 hT id
 refine Ya h λw1 b1=>⟨_,rfl,zk (λg=>?_) (λg=>?_)⟩
 ·have e:decide ((tA T id).kind<=6)=decide (0<(tA T id).size):=decide_eq_decide.2 ⟨λq=>hp.2 ⟨g,q⟩,λq=>(hp.1 q).2⟩
  rw[e]
  exact hR w1 b1
 ·have:=hR w1 b1
  rwa[decide_eq_false (λq=>g (hp.1 q).1)]at this
theorem zmL(h:IsRt w A tb T)(hT:TbOk T)(hR:∀w',Below w.heap.size w w'->R (.int .i64 ((tA T id).cnt:Int)) w'):cR 78 #[.pointer (some (blk tb)),.int .u32 id] w R:=by
 refine za.of (YR _ id R w ?_) λ_ _ h=>h
 refine zaF h λw1 v hv b1=>⟨v,_,rfl,zhz λw2 h2 b2=>h2.rS (n:=4) (x:=v.2.2.2.2.1) rfl ?_⟩
 have:=hR w2 (b1.on b2)
 rw[<-zpp hT,<-hv.wd.is.len]at this
 exact this
theorem zgO{k:Int}(h:IsRt w A tb T)(hT:TbOk T)(hR:∀w',Below w.heap.size w w'->R (.tuple #[.int .u32 ((tA T id).prt k).1,.bool ((tA T id).prt k).2]) w'):cR 37 #[.pointer (some (blk tb)),.int .u32 id,.int .i64 k] w R:=by
 refine za.of (za6 _ id k R w ?_) λ_ _ h=>h
 refine zaF h λw1 v hv b1=>⟨v,_,rfl,zhz λw2 h2 b2=>?_⟩
 have hR:=hR w2 (b1.on b2)
 rw[zsx hT]at hR
 have hl:=hv.wd.is.len
 refine zl.cut (λ(_:Unit) w'=>w2=w'/\0<=k/\k<((tA T id).full.length:Int)) ?_ ?_
 ·refine zk (λg=>?_) (λg=>h2.rS (n:=4) (x:=v.2.2.2.2.1) rfl (zk (λg2=>?_) (λg2=>⟨rfl,by omega,by omega⟩)))
  ·rw[if_pos (.inl g)]at hR
   exact hR
  ·rw[if_pos (.inr (by omega))]at hR
   exact hR
 rintro _ w3 ⟨rfl,g1,g2⟩
 rw[if_neg (by omega)]at hR
 obtain⟨j,rfl⟩:=Int.eq_ofNat_of_zero_le g1
 have hj:j<(tA T id).full.length:=by omega
 rw[Int.toNat_natCast,zA hj]at hR
 exact h2.rS (n:=4) (x:=v.2.2.2.2.1) rfl (zY (hv.wd.is.below b2) hj hR)
theorem zmK(h:IsRt w A tb T)(hR:∀w',Below w.heap.size w w'->R (.tuple #[.int .u32 (tA T id).cls,.bool ((tA T id).kind==7)]) w'):cR 80 #[.pointer (some (blk tb)),.int .u32 id] w R:=by
 refine za.of (YQ _ id R w ?_) λ_ _ h=>h
 refine zaF h λw1 v hv b1=>⟨v,_,rfl,zhz λw2 h2 b2=>h2.drew.rI (n:=3) (x:=v.2.2.2.1) rfl (h2.drew.rI (n:=1) (x:=v.2.1) rfl ?_)⟩
 rw[hv.kind,hv.cls]
 exact hR w2.drew (b1.on b2).drew
theorem zo4(hT:TbOk T):∀(n:Nat) (id:Int) (w:World) (R:VWP),(tA T id).depth<=n->IsRt w A tb T->(∀w',Below w.heap.size w w'->R (.int .i64 ((tA T id).size:Int)) w')->cR 38 #[.pointer (some (blk tb)),.int .u32 id] w R:=by
 intro n
 induction n with
 |zero=>
  intro id w R hd h hR
  refine za.of (y4 _ id R w ?_) λ_ _ h=>h
  have h0:¬0<(tA T id).size:=λq=>by
   have hk:=(ze8 hT id).1 q
   have ok:=zdD hT (id:=id) (by omega)
   by_cases e:(tA T id).kind=2\/(tA T id).kind=3
   ·have:=(ok.one e).2
    omega
   ·have:=(ok.sub (by omega)).2.2.2
    omega
  refine yE h hT λw1 b1=>⟨_,rfl,zH (zx (decide_eq_false h0) ?_)⟩
  have:=hR w1 b1
  rwa[show(tA T id).size=0 by omega]at this
 |succ n ih=>
  intro id w R hd h hR
  refine za.of (y4 _ id R w ?_) λ_ _ h=>h
  refine yE h hT λw1 b1=>⟨_,rfl,zH (zk (λg=>?_) (λg=>?_))⟩
  rotate_left
  ·have:=hR w1 b1
   rwa[show(tA T id).size=0 by omega]at this
  have hk:=(ze8 hT id).1 g
  have ok:=zdD hT (id:=id) (by omega)
  refine zaF (h.below b1) λw2 v hv b2=>⟨v,_,rfl,zhz λw8 h8 b8=>h8.rI (n:=1) (x:=v.2.1) rfl (zk (λg1=>?_) (λg1=>?_))⟩
  ·rw[hv.kind]at g1
   have:=hR w8 ((b1.on b2).on b8)
   rwa[(ok.one (by omega)).1]at this
  rw[hv.kind]at g1
  obtain⟨s1,s2,s3,s4⟩:=ok.sub (by omega)
  have hmax:=ok.max.1
  have b08:=(b1.on b2).on b8
  have hps:=hv.wd.is.below b8
  have hpl:=hps.len
  refine zn.ghost (λm (st:Int×Int×Unit) w'=>∃j:Nat,st=((sumT T ((tA T id).full.take j):Int),(j:Int),())/\j<=(tA T id).full.length/\m=(tA T id).full.length-j/\Below w8.heap.size w8 w') (tA T id).full.length ⟨0,rfl,Nat.zero_le _,rfl,Below.refl _ _⟩ ?_
  rintro _ _ w9 ⟨j,rfl,hj,rfl,b9⟩ next hnext
  refine(h8.below b9).rS (n:=4) (x:=v.2.2.2.2.1) rfl (zk (λg2=>?_) (λg2=>?_))
  ·have hjl:j<(tA T id).full.length:=by dsimp only at g2;omega
   have hbd:=hps.bound
   have hmem:=List.getElem_mem hjl
   obtain⟨_,d2⟩:=s2 _ hmem
   refine(h8.below b9).rS (n:=4) (x:=v.2.2.2.2.1) rfl (zY (hps.below b9) hjl (ih _ w9 _ (by omega) (h.below (b08.on b9)) λw10 b10=>⟨_,rfl,?_⟩))
   have e1:(tA T id).full.take (j+1)=(tA T id).full.take j++[(tA T id).full[j]]:=(List.take_succ_eq_append_getElem hjl)
   have e2:=zje T (tA T id).full (j+1)
   rw[e1,zhZ]at e2
   have e3:IntKind.i64.wrap ((sumT T ((tA T id).full.take j):Int)+((tA T (tA T id).full[j]).size:Int))=((sumT T ((tA T id).full.take (j+1)):Nat):Int):=by
    rw[e1,zhZ,zs (by omega) (by omega)]
    omega
   dsimp only
   rw[e3]
   refine zk (λg3=>absurd g3 (by rw[e1,zhZ];omega)) (λ_=>?_)
   rw[zz (by omega)]
   exact hnext ((tA T id).full.length-(j+1)) _ w10 (by omega) ⟨j+1,rfl,by omega,rfl,b9.on b10⟩
  ·have hje:j=(tA T id).full.length:=by dsimp only at g2;omega
   subst hje
   have:=hR w9 (b08.on b9)
   rw[s3]at this
   dsimp only
   rw[List.take_length]
   exact this
theorem zqY(h:IsRt w A tb T)(hT:TbOk T)(hR:∀w',Below w.heap.size w w'->R (.int .i64 ((tA T id).size:Int)) w'):cR 38 #[.pointer (some (blk tb)),.int .u32 id] w R:=zo4 hT _ id w R (Nat.le_refl _) h hR
theorem zoz(hT:TbOk T)(h0:zv T 0=none):∀(n:Nat) (id:Int) (w:World) (R:VWP),(tA T id).depth<=n->0<(tA T id).size->IsRt w A tb T->(∀w',Below w.heap.size w w'->R (.int .i64 ((tA T id).depth:Int)) w')->cR 168 #[.pointer (some (blk tb)),.int .u32 id] w R:=by
 intro n
 induction n with
 |zero=>
  intro id w R hd hs h hR
  exfalso
  have hk:=(ze8 hT id).1 hs
  have ok:=zdD hT (id:=id) (by omega)
  by_cases e:(tA T id).kind=2\/(tA T id).kind=3
  ·have:=(ok.one e).2
   omega
  ·have:=(ok.sub (by omega)).2.2.2
   omega
 |succ n ih=>
  intro id w R hd hs h hR
  refine za.of (za3 _ id R w ?_) λ_ _ h=>h
  have hk:=(ze8 hT id).1 hs
  have ok:=zdD hT (id:=id) (by omega)
  refine zaF h λw1 v hv b1=>⟨v,_,rfl,zhz λw7 h7 b7=>?_⟩
  have b07:=b1.on b7
  have hps:=hv.wd.is.below b7
  have hpl:=hps.len
  have hbd:=hps.bound
  have dmax:=ok.max.2
  have fin:(tA T id).depth=zO T (tA T id).full+1:=by
   by_cases e:(tA T id).kind=2\/(tA T id).kind=3
   ·have hf:(tA T id).full=[]:=by
     unfold Tp.full
     rw[if_neg (by have:=(ok.few (by omega)).1;omega),ok.none (by omega)]
    rw[hf,(ok.one e).2]
    rfl
   ·exact(ok.sub (by omega)).2.2.2
  have parts:∀p∈(tA T id).full,0<(tA T p).size/\(tA T p).depth<(tA T id).depth:=by
   by_cases e:(tA T id).kind=2\/(tA T id).kind=3
   ·have hf:(tA T id).full=[]:=by
     unfold Tp.full
     rw[if_neg (by have:=(ok.few (by omega)).1;omega),ok.none (by omega)]
    rw[hf]
    exact λp hp=>by cases hp
   ·exact(ok.sub (by omega)).2.1
  refine zn.ghost (λm (st:Int×Int×Int×Unit) w'=>∃(j:Nat) (last:Int),st=((zO T ((tA T id).full.take j):Int),last,(j:Int),())/\j<=(tA T id).full.length/\m=(tA T id).full.length-j/\(last=0\/last∈(tA T id).full.take j)/\Below w7.heap.size w7 w') (tA T id).full.length ⟨0,0,rfl,Nat.zero_le _,rfl,.inl rfl,Below.refl _ _⟩ ?_
  rintro _ _ w8 ⟨j,last,rfl,hj,rfl,hlast,b8⟩ next hnext
  refine(h7.below b8).rS (n:=4) (x:=v.2.2.2.2.1) rfl (zk (λg2=>?_) (λg2=>?_))
  ·have hjl:j<(tA T id).full.length:=by dsimp only at g2;omega
   have hmem:=List.getElem_mem hjl
   obtain⟨d1,d2⟩:=parts _ hmem
   have e1:(tA T id).full.take (j+1)=(tA T id).full.take j++[(tA T id).full[j]]:=(List.take_succ_eq_append_getElem hjl)
   refine zl.cut (λ(st:Int×Int×Unit) w'=>st=((zO T ((tA T id).full.take (j+1)):Int),(tA T id).full[j],())/\Below w8.heap.size w8 w') ?_ ?_
   ·refine(h7.below b8).rS (n:=4) (x:=v.2.2.2.2.1) rfl (zY (hps.below b8) hjl (zj (λe=>⟨?_,Below.refl _ _⟩) (λe=>?_)))
    ·have e:(tA T id).full[j]=last:=e
     have hm:(tA T id).full[j]∈(tA T id).full.take j:=by
      rcases hlast with q |q
      ·exfalso
       rw[e,q]at d1
       have:tA T 0=tp0:=by unfold tA;rw[h0];rfl
       rw[this]at d1
       cases d1
      ·rw[e];exact q
     have hle:=zkp (L:=T) hm
     rw[e1,zc1,Nat.max_eq_left hle,e]
    ·refine(h7.below b8).rS (n:=4) (x:=v.2.2.2.2.1) rfl (zY (hps.below b8) hjl (ih _ w8 _ (by omega) d1 (h.below (b07.on b8)) λw9 b9=>⟨_,rfl,zk (λg3=>⟨?_,b9⟩) (λg3=>⟨?_,b9⟩)⟩))
     ·dsimp only at g3
      rw[e1,zc1,Nat.max_eq_right (by omega)]
     ·dsimp only at g3
      rw[e1,zc1,Nat.max_eq_left (by omega)]
   rintro _ w10 ⟨rfl,b10⟩
   dsimp only
   rw[zz (by omega)]
   exact hnext ((tA T id).full.length-(j+1)) _ w10 (by omega) ⟨j+1,(tA T id).full[j],rfl,by omega,rfl,.inr (by rw[e1];exact List.mem_append_right _ (List.mem_singleton.2 rfl)),b8.on b10⟩
  ·have hje:j=(tA T id).full.length:=by dsimp only at g2;omega
   subst hje
   have:=hR w8 (b07.on b8)
   rw[fin]at this
   dsimp only
   rw[List.take_length,zs (by omega) (by omega)]
   exact this
theorem zs9(h:IsRt w A tb T)(hT:TbOk T)(h0:zv T 0=none)(hs:0<(tA T id).size)(hR:∀w',Below w.heap.size w w'->R (.int .i64 ((tA T id).depth:Int)) w'):cR 168 #[.pointer (some (blk tb)),.int .u32 id] w R:=zoz hT h0 _ id w R (Nat.le_refl _) hs h hR
end
end Go.Proofs
namespace Go.Proofs
open Go.Gk Go.RowKit Go.Gm
section
variable {w0 w w':World} {A:Nat->Prop} {tb b:Nat} {T:TyL} {R:VWP} {r:Sl} {D:List Int} {k:Int}
theorem Wl.chg{T':TypeId}{cs:List Value}(h:Wl w0 w r D)(c:Chg b w w')(hB:Blk w b T' cs)(hT:22≠T')(hb:w0.heap.size<=b):Wl w0 w' r D:=
 ⟨h.own.of_block λa ha=>c.block _ λe=>zaE h.own hB hT (by rw[<-e,<-(h.own.lt ha).1];exact ha),h.fr,c.below h.below hb⟩
structure Bx (w0 w:World) (b:Nat) (k:Int) (r:Sl) (D:List Int):Prop where
 wl:Wl w0 w r D
 blk:Blk w b 115 (rvV (0,k,false,0,r,()))
 lo:w0.heap.size<=b
theorem Bx.on(h:Bx w0 w b k r D)(hb:Below w.heap.size w w'):Bx w0 w' b k r D:=⟨h.wl.on hb,h.blk.below hb,h.lo⟩
theorem Bx.app(h:Bx w0 w b k r D){e:Nat}{v:Int}(hE:Blk w e 22 [.int .u32 v])(hl:D.length<=4398046511104){K:World->Prop}(hK:∀r' w',Bx w0 w' b k r' (D++[v])->(∀c T cs,22≠T->c≠b->Blk w c T cs->Blk w' c T cs)->K w') :
  zr Tryz.prog 30 (.slice r.a r.l r.c) (.slice (some (Gk.blk e)) 1 1) w λr' w2=>Wr w2 ((Gk.blk b).add 4)/\Nw (w2.setCell ((Gk.blk b).add 4) (.slice r'.a r'.l r'.c)) K:=by
 have hl2:=h.wl.len
 refine zi7 eU32 h.wl.own h.wl.below h.wl.fr (vs:=[.int .u32 v]) rfl (λu hu=>by rw[List.mem_singleton.1 hu];rfl) hE (by omega) (by omega) λr' w2 g1 g2 g3 _ g5=>?_
 have kp:∀c T cs,22≠T->Blk w c T cs->Blk w2 c T cs:=λc T cs hne hB=>hB.of_block (g5 c hB.lt (zaE h.wl.own hB hne))
 have hB2:=kp _ _ _ (by decide) h.blk
 refine⟨hB2.wr (n:=4) (by show 4<5;decide),Nw.gen λw3 e3=>?_⟩
 have c3:Chg b w2 w3:=by rw[e3];exact Chg.set _ _ _ _
 have hB3:=hB2.set 4 (Value.slice r'.a r'.l r'.c)
 rw[<-e3]at hB3
 have hW2:Wl w0 w2 r' (D++[v]):=⟨by rw[List.map_append];exact g1,g3,g2⟩
 exact hK r' w3 ⟨hW2.chg c3 hB2 (by decide) h.lo,hB3,h.lo⟩ λc T cs hT hc hB=>c3.blk (kp c T cs hT hB) hc
def fitE(T:TyL)(l:List Int):Int:=if 4096<sumT T l then 102 else if 16<zO T l+1 then 4 else 0
theorem znX{v:Rv}{l:List Int}(h:IsRt w A tb T)(hT:TbOk T)(h0:zv T 0=none)(hl:IsS (Value.int .u32) w v.2.2.2.2.1 l)(hpl:∀p∈l,0<(tA T p).size)(hR:∀w',Below w.heap.size w w'->R (.int .i64 (fitE T l)) w') :
  cR 141 #[.pointer (some (Gk.blk tb)),rvA v] w R:=by
 refine za.of (za7 _ v R w ?_) λ_ _ h=>h
 refine zm λw1 hV1 b1 z1=>?_
 have hV1:Blk w1 w.heap.size 115 (rvV v):=hV1
 have hl1:=hl.below b1
 have hln:=hl.len
 have hbd:=hl.bound
 have z0:tA T 0=tp0:=by unfold tA;rw[h0];rfl
 have dm:∀l':List Int,zO T l'<=16:=by
  have:∀(l':List Int) (d:Nat),d<=16->l'.foldl (λd p=>max d (tA T p).depth) d<=16:=by
   intro l'
   induction l' with
   |nil=>intro d h;exact h
   |cons a r ih=>
    intro d hd
    rw[List.foldl_cons]
    refine ih _ (Nat.max_le.2 ⟨hd,?_⟩)
    by_cases e:(tA T a).kind=0
    ·rw[zj8 hT e];decide
    ·exact(zdD hT e).max.2
  exact λl'=>this l' 0 (by decide)
 refine zn.ghost (λm (st:Int×Int×Int×Int×Int×Unit) w'=>∃(j:Nat) (last:Int),st=((sumT T (l.take j):Int),(zO T (l.take j):Int),last,((tA T last).size:Int),(j:Int),())/\j<=l.length/\m=l.length-j/\(last=0\/last∈l.take j)/\sumT T (l.take j)<=4096/\Below w1.heap.size w1 w') l.length
  ⟨0,0,by rw[z0];rfl,Nat.zero_le _,rfl,.inl rfl,Nat.zero_le _,Below.refl _ _⟩ ?_
 rintro _ _ w2 ⟨j,last,rfl,hj,rfl,hlast,hsum,b2⟩ next hnext
 refine(hV1.below b2).rS (n:=4) (x:=v.2.2.2.2.1) rfl (zk (λg=>?_) (λg=>?_))
 ·have hjl:j<l.length:=by dsimp only at g;omega
  have hmem:=List.getElem_mem hjl
  have hpos:=hpl _ hmem
  have e1:l.take (j+1)=l.take j++[l[j]]:=List.take_succ_eq_append_getElem hjl
  have sz:=zdU hT l[j]
  refine zl.cut (λ(st:Int×Int×Int×Unit) w'=>st=((zO T (l.take (j+1)):Int),l[j],((tA T l[j]).size:Int),())/\Below w2.heap.size w2 w') ?_ ?_
  ·refine(hV1.below b2).rS (n:=4) (x:=v.2.2.2.2.1) rfl (zY (hl1.below b2) hjl (zp (λe=>?_) (λe=>⟨?_,Below.refl _ _⟩)))
   ·refine(hV1.below b2).rS (n:=4) (x:=v.2.2.2.2.1) rfl (zY (hl1.below b2) hjl (zqY (h.below (b1.on b2)) hT λw3 b3=>⟨_,rfl,zs9 ((h.below (b1.on b2)).below b3) hT h0 hpos λw4 b4=>⟨_,rfl,zk (λg3=>⟨?_,b3.on b4⟩) (λg3=>⟨?_,b3.on b4⟩)⟩⟩))
    ·dsimp only at g3
     rw[e1,zc1,Nat.max_eq_right (by omega)]
    ·dsimp only at g3
     rw[e1,zc1,Nat.max_eq_left (by omega)]
   ·have e:l[j]=last:=e
    have hm:l[j]∈l.take j:=by
     rcases hlast with q |q
     ·exfalso
      rw[e,q,z0]at hpos
      cases hpos
     ·rw[e];exact q
    have hle:=zkp (L:=T) hm
    rw[e1,zc1,Nat.max_eq_left hle,e]
  rintro _ w5 ⟨rfl,b5⟩
  have e3:IntKind.i64.wrap ((sumT T (l.take j):Int)+((tA T l[j]).size:Int))=((sumT T (l.take (j+1)):Nat):Int):=by
   rw[e1,zhZ,zs (by omega) (by omega)]
   omega
  dsimp only
  rw[e3]
  refine zk (λg3=>?_) (λg3=>?_)
  ·have:=hR w5 ((b1.on b2).on b5)
   unfold fitE at this
   have ht:=zje T l (j+1)
   rwa[if_pos (by omega)]at this
  ·rw[zz (by omega)]
   exact hnext (l.length-(j+1)) _ w5 (by omega) ⟨j+1,l[j],rfl,by omega,rfl,.inr (by rw[e1];exact List.mem_append_right _ (List.mem_singleton.2 rfl)),by omega,b2.on b5⟩
 ·have hje:j=l.length:=by dsimp only at g;omega
  subst hje
  rw[List.take_length]at hsum
  have hd:=dm l
  have:=hR w2 (b1.on b2)
  unfold fitE at this
  rw[if_neg (by omega)]at this
  dsimp only
  rw[List.take_length,zs (by omega) (by omega)]
  refine zk (λg3=>?_) (λg3=>?_)
  ·rwa[if_pos (by omega)]at this
  ·rwa[if_neg (by omega)]at this
end
def RdR(R:VWP)(w:World)(p:Tp×Int):Prop:=∀w' v,(p.2=0->RvOk (λb=>w.heap.size<=b) w' v p.1)->Below w.heap.size w w'->R (.tuple #[rvA v,.int .i64 p.2]) w'
section
variable {w w':World} {A:Nat->Prop} {tb k:Nat} {T:TyL} {R:VWP} {pl:List PI} {t:Sl} {bd:Int}
theorem argN{w':World}{al:List Ag}(hI:IsAg w' t al){j:Nat}(hj:j<al.length){φ:Int->Prop}(hφ:φ (al.getD j ag0).2.1):(0<=(j:Int)/\(j:Int)<(t.l:Int))/\ze t.a λa=>ldI w' ((a.add (j*3)).add 1) .u32 φ:=by
 obtain⟨a,ha⟩:=hI.base hj
 have hc:=hI.cell a ha j hj 1 (by decide)
 have hl:=hI.len
 rw[zA hj]at hφ
 exact⟨⟨by omega,by omega⟩,zf ha ⟨al[j].2.1,by rw[zt];exact hc,hφ⟩⟩
theorem zb5{b:Nat}{cs:List Value}{e:Int}{p:Tp}{w0:World}(hB:Blk w b 115 cs)(hl:cs.length=5)(hw:Below w0.heap.size w0 w)(hb:w0.heap.size<=b)(he:e≠0)(hR:RdR R w0 (p,e)) :
  Wr w (blk b)/\Nw (w.setCell (blk b) (.int .u32 (0:Int))) λw1=>Wr w1 ((blk b).add 1)/\Nw (w1.setCell ((blk b).add 1) (.int .u8 (0:Int))) λw2=>Wr w2 ((blk b).add 2)/\Nw (w2.setCell ((blk b).add 2) (.bool false)) λw3=>Wr w3 ((blk b).add 3)/\Nw (w3.setCell ((blk b).add 3) (.int .u32 (0:Int))) λw4=>Wr w4 ((blk b).add 4)/\Nw (w4.setCell ((blk b).add 4) (.slice none 0 0)) λw5=>
   ldI w5 ((blk b).add 0) .u32 λx1=>ldI w5 ((blk b).add 1) .u8 λx2=>ldB w5 ((blk b).add 2) λx3=>ldI w5 ((blk b).add 3) .u32 λx4=>ldS w5 ((blk b).add 4) λx5=>R (.tuple #[.agg #[.int .u32 x1,.int .u8 x2,.bool x3,.int .u32 x4,.slice x5.a x5.l x5.c],.int .i64 e]) w5:=
 st5 hB hl λw5 h5 c5=>Rv.load (v:=rv0) h5 (hR w5 rv0 (λq=>absurd q he) (c5.below hw hb))
theorem zgg{b:Nat}{cs:List Value}{v:Rv}{p:Tp×Int}{w0:World}(hB:Blk w b 115 cs)(hl:cs.length=5)(hw:Below w0.heap.size w0 w)(hb:w0.heap.size<=b)(hv:p.2=0->∀w',Chg b w w'->RvOk (λb=>w0.heap.size<=b) w' v p.1)(hR:RdR R w0 p) :
  Wr w (blk b)/\Nw (w.setCell (blk b) (.int .u32 v.1)) λw1=>Wr w1 ((blk b).add 1)/\Nw (w1.setCell ((blk b).add 1) (.int .u8 v.2.1)) λw2=>Wr w2 ((blk b).add 2)/\Nw (w2.setCell ((blk b).add 2) (.bool v.2.2.1)) λw3=>Wr w3 ((blk b).add 3)/\Nw (w3.setCell ((blk b).add 3) (.int .u32 v.2.2.2.1)) λw4=>Wr w4 ((blk b).add 4)/\Nw (w4.setCell ((blk b).add 4) (.slice v.2.2.2.2.1.a v.2.2.2.2.1.l v.2.2.2.2.1.c)) λw5=>
   ldI w5 ((blk b).add 0) .u32 λx1=>ldI w5 ((blk b).add 1) .u8 λx2=>ldB w5 ((blk b).add 2) λx3=>ldI w5 ((blk b).add 3) .u32 λx4=>ldS w5 ((blk b).add 4) λx5=>R (.tuple #[.agg #[.int .u32 x1,.int .u8 x2,.bool x3,.int .u32 x4,.slice x5.a x5.l x5.c],.int .i64 p.2]) w5:=
 st5 hB hl λw5 h5 c5=>Rv.load (v:=v) h5 (hR w5 v (λq=>hv q w5 c5) (c5.below hw hb))
theorem zoy{al:List Ag}{x:Ins}(hI:IsAg w x.2.2.2.1 al)(hl:al.length=2)(hR:RdR R w ({tp0 with kind:=3,size:=1,depth:=1,sg:=(al.getD 1 ag0).2.1==1},if (al.getD 0 ag0).2.1≠32\/1<(al.getD 1 ag0).2.1 then 102 else 0)) :
  cR 105 #[inA x] w R:=by
 refine za.of (zdS x R w ?_) λ_ _ h=>h
 refine zm λw1 hX1 b1 z1=>zm λw2 hO2 b2 z2=>?_
 have hX2:Blk w2 w.heap.size 52 (inV x):=Blk.below hX1 b2
 have hO2:Blk w2 w1.heap.size 115 (rvV rv0):=hO2
 have b02:=b1.on b2
 have s1:=b1.size
 have hI2:IsAg w2 x.2.2.2.1 al:=IsC.below zG hI b02
 generalize hn0:(al.getD 0 ag0).2.1=n0 at hR
 generalize hn1:(al.getD 1 ag0).2.1=n1 at hR
 refine zl.cut (λ(_:Unit) w'=>w2=w'/\¬(n0≠32\/1<n1)) ?_ ?_
 ·refine hX2.rS (n:=3) (x:=x.2.2.2.1) rfl (argN hI2 (j:=0) (by omega) ?_)
  rw[hn0]
  refine zp (λg=>?_) (λg=>?_)
  ·rw[if_pos (.inl g)]at hR
   exact zb5 hO2 rfl b02 s1 (by decide) hR
  refine hX2.rS (n:=3) (x:=x.2.2.2.1) rfl (argN hI2 (j:=1) (by omega) ?_)
  rw[hn1]
  refine zk (λg2=>?_) (λg2=>⟨rfl,λq=>?_⟩)
  ·rw[if_pos (.inr g2)]at hR
   exact zb5 hO2 rfl b02 s1 (by decide) hR
  ·rcases q with q |q
   ·exact q g
   ·exact g2 q
 rintro _ w13 ⟨rfl,g⟩
 rw[if_neg g]at hR
 refine hX2.rS (n:=3) (x:=x.2.2.2.1) rfl (argN hI2 (j:=1) (by omega) ?_)
 rw[hn1]
 exact zgg (v:=(0,3,n1==1,0,⟨none,0,0⟩,())) hO2 rfl b02 s1 (λ_ w' _=>⟨rfl,rfl,rfl,WdOk.nil _ _⟩) hR
end
end Go.Proofs
namespace Go.Proofs
open Go.Gk Go.RowKit Go.Gm
section
variable {w w':World} {A:Nat->Prop} {tb k:Nat} {T:TyL} {R:VWP} {pl:List PI} {t:Sl} {bd:Int}
theorem zqr{w0 wb:World}{b bo:Nat}{cs:List Value}{kd:Int}{r:Sl}{D:List Int}{p:Tp×Int}(h:Bx wb w b kd r D)(hO:Blk w bo 115 cs)(hl:cs.length=5)(hw:Below w0.heap.size w0 w)(hb:w0.heap.size<=bo)(hbo:bo<wb.heap.size)(hp:p.2=0->p.1.kind=kd/\p.1.sg=false/\p.1.cls=0/\p.1.full=D)(hR:RdR R w0 p) :
  Wr w (blk bo)/\Nw (w.setCell (blk bo) (.int .u32 (0:Int))) λw1=>Wr w1 ((blk bo).add 1)/\Nw (w1.setCell ((blk bo).add 1) (.int .u8 kd)) λw2=>Wr w2 ((blk bo).add 2)/\Nw (w2.setCell ((blk bo).add 2) (.bool false)) λw3=>Wr w3 ((blk bo).add 3)/\Nw (w3.setCell ((blk bo).add 3) (.int .u32 (0:Int))) λw4=>Wr w4 ((blk bo).add 4)/\Nw (w4.setCell ((blk bo).add 4) (.slice r.a r.l r.c)) λw5=>
   ldI w5 ((blk bo).add 0) .u32 λx1=>ldI w5 ((blk bo).add 1) .u8 λx2=>ldB w5 ((blk bo).add 2) λx3=>ldI w5 ((blk bo).add 3) .u32 λx4=>ldS w5 ((blk bo).add 4) λx5=>R (.tuple #[.agg #[.int .u32 x1,.int .u8 x2,.bool x3,.int .u32 x4,.slice x5.a x5.l x5.c],.int .i64 p.2]) w5:=by
 refine zgg (v:=(0,kd,false,0,r,())) hO hl hw hb (λq w' c=>?_) hR
 obtain⟨q1,q2,q3,q4⟩:=hp q
 have hown:=h.wl.own.of_block (w':=w') λa ha=>c.block _ (by have:=h.wl.fr a ha;omega)
 exact⟨q1.symm,q2.symm,q3.symm,by rw[q4];exact WdOk.own hown λy hy=>by have:=h.wl.fr y hy;omega⟩
theorem Bx.new{kd:Int}{K:World->Prop}(hK:∀w',Bx w w' w.heap.size kd ⟨none,0,0⟩ []->K w') :
  Nw (w.alloc (.cells #[(.int .u32 (0:Int)),(.int .u8 (0:Int)),(.bool false),(.int .u32 (0:Int)),(.slice none 0 0)] 115)) λw0=>Wr w0 (Gk.blk w.heap.size)/\Nw (w0.setCell (Gk.blk w.heap.size) (.int .u32 (0:Int))) λw1=>Wr w1 ((Gk.blk w.heap.size).add 1)/\Nw (w1.setCell ((Gk.blk w.heap.size).add 1) (.int .u8 kd)) λw2=>Wr w2 ((Gk.blk w.heap.size).add 2)/\Nw (w2.setCell ((Gk.blk w.heap.size).add 2) (.bool false)) λw3=>
   Wr w3 ((Gk.blk w.heap.size).add 3)/\Nw (w3.setCell ((Gk.blk w.heap.size).add 3) (.int .u32 (0:Int))) λw4=>Wr w4 ((Gk.blk w.heap.size).add 4)/\Nw (w4.setCell ((Gk.blk w.heap.size).add 4) (.slice none 0 0)) λw5=>K w5:=
 zhz (v:=(0,kd,false,0,⟨none,0,0⟩,())) λw' h hb=>hK w' ⟨⟨Own.nil _ _ _,λa ha=>(by cases ha),hb⟩,h,Nat.le_refl _⟩
theorem zl6(n:Nat)(p:Int):List.replicate n p++[p]=List.replicate (n+1) p:=by
 rw[List.replicate_succ']
theorem zmj{x:Ins}{al:List Ag}(h:IsRt w A tb T)(hT:TbOk T)(hI:IsAg w x.2.2.2.1 al)(hl:al.length=2)(hR:RdR R w (vecT T (al.getD 0 ag0).2.1 (al.getD 1 ag0).2.1)) :
  cR 106 #[.pointer (some (blk tb)),inA x] w R:=by
 refine za.of (YK _ x R w ?_) λ_ _ h=>h
 refine zm λw1 hX1 b1 z1=>zm λw2 hO2 b2 z2=>?_
 have hX2:Blk w2 w.heap.size 52 (inV x):=Blk.below hX1 b2
 have hO2:Blk w2 w1.heap.size 115 (rvV rv0):=hO2
 have b02:=b1.on b2
 have s1:=b1.size
 have hI2:IsAg w2 x.2.2.2.1 al:=IsC.below zG hI b02
 generalize hn0:(al.getD 0 ag0).2.1=n0 at hR
 generalize hn1:(al.getD 1 ag0).2.1=n1 at hR
 unfold vecT at hR
 refine hX2.rS (n:=3) (x:=x.2.2.2.1) rfl (argN hI2 (j:=0) (by omega) ?_)
 rw[hn0]
 have h2:=h.below b02
 refine zl.cut (λ(_:Unit) w'=>Below w2.heap.size w2 w'/\¬((tA T n0).kind≠2/\(tA T n0).kind≠3)) ?_ ?_
 ·refine Ya h2 λw3 b3=>⟨_,rfl,zp (λg=>?_) (λg=>⟨b3,λq=>q.1 g⟩)⟩
  refine Ya (h2.below b3) λw4 b4=>⟨_,rfl,zp (λg2=>?_) (λg2=>⟨b3.on b4,λq=>q.2 g2⟩)⟩
  rw[if_pos ⟨g,g2⟩]at hR
  exact zb5 ((hO2.below b3).below b4) rfl ((b02.on b3).on b4) s1 (by decide) hR
 rintro _ w10 ⟨b10,g⟩
 rw[if_neg g]at hR
 have b010:=b02.on b10
 have hX10:=hX2.below b10
 have hO10:=hO2.below b10
 have hI10:IsAg w10 x.2.2.2.1 al:=IsC.below zG hI b010
 refine hX10.rS (n:=3) (x:=x.2.2.2.1) rfl (argN hI10 (j:=1) (by omega) ?_)
 rw[hn1]
 refine zl.cut (λ(_:Unit) w'=>w10=w'/\¬(n1<2\/4<n1)) ?_ ?_
 ·refine zk (λg1=>?_) (λg1=>zk (λg2=>?_) (λg2=>⟨rfl,by omega⟩))
  ·rw[if_pos (.inl g1)]at hR
   exact zb5 hO10 rfl b010 s1 (by decide) hR
  ·rw[if_pos (.inr g2)]at hR
   exact zb5 hO10 rfl b010 s1 (by decide) hR
 rintro _ w21 ⟨rfl,g1⟩
 rw[if_neg g1]at hR
 obtain⟨n,rfl⟩:=Int.eq_ofNat_of_zero_le (show 0<=n1 by omega)
 rw[Int.toNat_natCast]at hR
 have ok:=zdD hT (id:=n0) (by omega)
 have hd:=(ok.one (by omega)).2
 have hw:whT {tp0 with kind:=4,part:=n0,times:=n} n (tA T n0).depth=({tp0 with kind:=4,part:=n0,times:=n,size:=n,depth:=2},0):=by
  unfold whT
  rw[hd,if_neg (by omega),if_neg (by omega)]
 rw[hw]at hR
 have lt10:w1.heap.size<w10.heap.size:=hO10.lt
 refine Bx.new λw27 hB27=>?_
 refine zn.ghost (λm (st:Int×Unit) w'=>∃(j:Nat) (r:Sl),st=((j:Int),())/\j<=n/\m=n-j/\Bx w10 w' w10.heap.size 4 r (List.replicate j n0)) n ⟨0,_,rfl,Nat.zero_le _,rfl,hB27⟩ ?_
 rintro _ _ w28 ⟨j,r,rfl,hj,rfl,hB⟩ next hnext
 refine zk (λg2=>?_) (λg2=>?_)
 ·have hjn:j<n:=by dsimp only at g2;omega
  refine hB.blk.rS (n:=4) (x:=r) rfl (zm λw29 hE29 b29 z29=>?_)
  have hE29:Blk w29 w28.heap.size 22 [.int .u32 n0]:=hE29
  refine(hB.on b29).app hE29 (by rw[List.length_replicate];omega) λr' w31 hB31 _=>?_
  dsimp only
  rw[show IntKind.u32.wrap ((j:Int)+1)=((j+1:Nat):Int) from zoG (by omega) (by omega)]
  refine hnext (n-(j+1)) _ w31 (by omega) ⟨j+1,r',rfl,by omega,rfl,?_⟩
  rw[<-zl6]
  exact hB31
 ·have hje:j=n:=by dsimp only at g2;omega
  subst hje
  refine Rv.load (v:=(0,4,false,0,r,())) hB.blk ?_
  refine zqr (p:=({tp0 with kind:=4,part:=n0,times:=j,size:=j,depth:=2},0)) hB (hO10.below hB.wl.below) rfl (b010.on hB.wl.below) s1 lt10 (λ_=>⟨rfl,rfl,rfl,?_⟩) hR
  unfold Tp.full
  exact if_pos (by show 0<j;omega)
def kaP(T:TyL)(pl:List PI)(id:Int)(k:Nat):Int:=if 0<=zE pl id k then(tA T id).kind else 0
def lenP(T:TyL)(pl:List PI)(id:Int)(k:Nat):Int:=if 0<=zE pl id k then
  (if (ix pl (zE pl id k).toNat).1≠43\/kaP T pl (ix pl (zE pl id k).toNat).2.1 (zE pl id k).toNat≠3\/4096<cN (ix pl (zE pl id k).toNat) then 0 else cN (ix pl (zE pl id k).toNat)) else 0
theorem ziQ{id:Int}{n k:Nat}(h0:id≠0)(hk:k<n)(hno:∀j,j<k->(ix pl j).2.2.1≠id)(he:(ix pl k).2.2.1=id):zE pl id n=(k:Int):=by
 unfold zE
 have m:mk1 pl id k=true:=by
  unfold mk1
  rw[show(pl.getD k pi0).2.2.1=id from he]
  simp[h0]
 rw[List.find?_range_eq_some.2 ⟨m,List.mem_range.2 hk,λj hj=>by
  unfold mk1
  have:((pl.getD j pi0).2.2.1==id)=false:=beq_eq_false_iff_ne.2 (hno j hj)
  rw[this]
  rfl⟩]
theorem zk6{id:Int}{n:Nat}(hno:∀j,j<n->(ix pl j).2.2.1≠id):¬0<=zE pl id n:=λh=>by
 obtain⟨k,k1,k2⟩:=Yg.1 h
 unfold mk1 at k2
 rw[Bool.and_eq_true,beq_iff_eq]at k2
 exact hno k k1 k2.1
variable {x:Mo}
theorem zjv{id:Int}{at_:Nat}(h:IsRt w A tb T)(hN:IsPl w x.2.2.1 pl)(h0:id≠0)(hat:at_<=pl.length)(hR:∀w',Below w.heap.size w w'->R (.int .u8 (kaP T pl id at_)) w') :
  cR 167 #[.pointer (some (blk tb)),moA x,.int .u32 id,.int .i64 (at_:Int)] w R:=by
 refine za.of (ZW _ x id at_ R w ?_) λ_ _ h=>h
 refine zm λw1 hB1 b1 z1=>?_
 have hB1:Blk w1 w.heap.size 25 (moV x):=hB1
 have hnl:=hN.len
 have hbd:pl.length<=9223372036854775807:=by have:=hN.cap;have:=hN.max;omega
 refine zn.count at_ (by omega) (λk w'=>w'=w1/\∀j,j<k->(ix pl j).2.2.1≠id) ⟨rfl,λj h=>by omega⟩ ?_
 rintro k w2 hk ⟨rfl,hno⟩ next hnext
 refine zk (λg=>?_) (λg=>?_)
 ·have hka:k<at_:=by dsimp only at g;omega
  have hkl:k<pl.length:=by omega
  refine hB1.rS (n:=2) (x:=x.2.2.1) rfl ?_
  obtain⟨a,ha⟩:∃a,x.2.2.1.a=some a:=by
   cases ha:x.2.2.1.a with
   |none=>have:=(hN.below b1).nil ha;have:=(hN.below b1).cap;omega
   |some a=>exact⟨a,rfl⟩
  obtain⟨t',hc,_⟩:=(hN.below b1).elem a ha k hkl
  refine⟨⟨by omega,by dsimp only;omega⟩,zf ha ⟨pl[k].2.2.1,by rw[zt];exact hc 2 (by decide),zj (λe=>?_) (λe=>hnext _ hka ⟨rfl,λj hj=>?_⟩)⟩⟩
  ·refine Ya (h.below b1) λw3 b3=>⟨_,rfl,?_⟩
   have:=hR w3 (b1.on b3)
   unfold kaP at this
   rw[ziQ h0 hka hno (by rw[zK hkl];exact e),if_pos (by omega)]at this
   exact this
  ·by_cases e':j=k
   ·subst e'
    rw[zK hkl]
    exact e
   ·exact hno j (by omega)
 ·have:=hR w2 b1
  unfold kaP at this
  rwa[if_neg (zk6 λj hj=>hno j (by dsimp only at g;omega))]at this
end
end Go.Proofs
namespace Go.Proofs
open Go.Gk Go.RowKit Go.Gm
section
variable {w w':World} {A:Nat->Prop} {tb k:Nat} {T:TyL} {R:VWP} {pl:List PI} {t:Sl} {bd:Int} {x:Mo}
theorem zqO{id:Int}{n:Nat}(h:0<=zE pl id n):∃j,j<n/\zE pl id n=(j:Int)/\(ix pl j).2.2.1=id:=by
 unfold zE at h⊢
 cases hf:(List.range n).find? (mk1 pl id) with
 |none=>rw[hf]at h;exact absurd h (by decide)
 |some j=>
  have h1:=List.find?_some hf
  have h2:=List.mem_range.1 (List.mem_of_find?_eq_some hf)
  unfold mk1 at h1
  rw[Bool.and_eq_true,beq_iff_eq]at h1
  exact⟨j,h2,rfl,h1.1⟩
theorem zlR{id:Int}{at_:Nat}(h:IsRt w A tb T)(hN:IsPl w x.2.2.1 pl)(hp:PlOk pl)(hs:(zF bd pl).1=0)(h0:id≠0)(hat:at_<=pl.length)(hR:∀w',Below w.heap.size w w'->R (.int .i64 (lenP T pl id at_)) w') :
  cR 140 #[.pointer (some (blk tb)),moA x,.int .u32 id,.int .i64 (at_:Int)] w R:=by
 refine za.of (YJ _ x id at_ R w ?_) λ_ _ h=>h
 refine zm λw1 hB1 b1 z1=>?_
 have hB1:Blk w1 w.heap.size 25 (moV x):=hB1
 have hnl:=hN.len
 have hplen:=hp.len
 refine zn.ghost (λm (st:Int×Unit) w'=>∃k:Nat,st=((k:Int),())/\k<=at_/\m=at_-k/\Below w1.heap.size w1 w'/\∀j,j<k->(ix pl j).2.2.1≠id) at_ ⟨0,rfl,Nat.zero_le _,rfl,Below.refl _ _,λj h=>by omega⟩ ?_
 rintro _ _ w2 ⟨k,rfl,hk,rfl,b2,hno⟩ next hnext
 refine zk (λg=>?_) (λg=>?_)
 rotate_left
 ·have:=hR w2 (b1.on b2)
  unfold lenP at this
  rwa[if_neg (zk6 λj hj=>hno j (by dsimp only at g;omega))]at this
 have hka:k<at_:=by dsimp only at g;omega
 have hkl:k<pl.length:=by omega
 have hix:=zK hkl
 have b02:=b1.on b2
 have hB2:=hB1.below b2
 refine hB2.rS (n:=2) (x:=x.2.2.1) rfl (YF hN b02 hkl λt hI0=>box4 rfl λw7 hI7 b7 z7=>?_)
 have hI7:Blk w7 w2.heap.size 52 (inV (mkIn pl[k] t)):=hI7
 have b07:=b02.on b7
 refine hI7.rI (n:=2) (x:=pl[k].2.2.1) rfl (zp (λe=>?_) (λe=>?_))
 ·dsimp only
  rw[zz (by omega)]
  refine hnext (at_-(k+1)) _ w7 (by omega) ⟨k+1,rfl,by omega,rfl,b2.on b7,λj hj=>?_⟩
  by_cases e':j=k
  ·subst e'
   rw[hix]
   exact e
  ·exact hno j (by omega)
 have hm:=ziQ (pl:=pl) h0 hka hno (by rw[hix];exact e)
 unfold lenP at hR
 rw[hm,if_pos (by omega),Int.toNat_natCast]at hR
 have hI:IsAg w7 t pl[k].2.2.2:=IsC.below zG hI0 b07
 have eO:(ix pl k).1=pl[k].1:=by rw[hix]
 have eT:(ix pl k).2.1=pl[k].2.1:=by rw[hix]
 have eC:cN (ix pl k)=(pl[k].2.2.2.getD 0 ag0).2.1:=by rw[hix]
 refine zl.cut (λ(_:Unit) w'=>Below w7.heap.size w7 w'/\¬((ix pl k).1≠43\/kaP T pl (ix pl k).2.1 k≠3\/4096<cN (ix pl k))/\(ix pl k).1=43) ?_ ?_
 ·refine hI7.rI0 (x:=pl[k].1) rfl (zp (λg1=>?_) (λg1=>?_))
  ·have:=hR w7 b07
   rwa[if_pos (.inl (by rw[eO];exact g1))]at this
  have e43:(ix pl k).1=43:=by rw[eO];exact g1
  obtain⟨_,_,_,_,_,_,_,hty,_⟩:=zcw hs hkl e43 zcv
  have hty:=hty rfl
  refine Mo.load (hB2.below b7) (hI7.rI (n:=1) (x:=pl[k].2.1) rfl (zjv (x:=x) (h.below b07) (hN.below b07) (by rw[<-eT];exact hty) (Nat.le_of_lt hkl) λw8 b8=>⟨_,rfl,zp (λg2=>?_) (λg2=>?_)⟩))
  ·have:=hR w8 (b07.on b8)
   rwa[if_pos (.inr (.inl (by rw[eT];exact g2)))]at this
  have hl1:(ix pl k).2.2.2.length=1:=zZ hs hkl e43 zcv
  rw[hix]at hl1
  refine(hI7.below b8).rS (n:=3) (x:=t) rfl (argN (IsC.below zG hI b8) (j:=0) (by omega) (zk (λg3=>?_) (λg3=>⟨b8,?_,e43⟩)))
  ·have:=hR w8 (b07.on b8)
   rwa[if_pos (.inr (.inr (by rw[eC];exact g3)))]at this
  ·rintro(q |q |q)
   ·exact q e43
   ·exact q (by rw[eT];exact g2)
   ·exact g3 (by rw[<-eC];exact q)
 rintro _ w9 ⟨b9,hgood,e43⟩
 rw[if_neg hgood]at hR
 have hl1:(ix pl k).2.2.2.length=1:=zZ hs hkl e43 zcv
 rw[hix]at hl1
 have hrng:0<=cN (ix pl k):=by
  have:=(zjN hp hkl (j:=0) (by rw[hix];omega)).1
  exact this
 refine(hI7.below b9).rS (n:=3) (x:=t) rfl (argN (IsC.below zG hI b9) (j:=0) (by omega) ?_)
 have:=hR w9 (b07.on b9)
 rw[<-eC,zs (by omega) (by omega)]
 exact this
theorem zr6(hp:PlOk pl)(hs:(zF bd pl).1=0)(hf:∀j,j<pl.length->fltP pl j=0){id:Int}(hk:k<=pl.length) :
  (lenP T pl id k=0↔((mdP pl id k).1≠43\/(tA T (mdP pl id k).2.1).kind≠3\/cN (mdP pl id k)<1\/4096<cN (mdP pl id k)))/\(lenP T pl id k≠0->lenP T pl id k=cN (mdP pl id k)):=by
 unfold lenP mdP
 by_cases h:0<=zE pl id k
 ·rw[if_pos h,if_pos h]
  obtain⟨j,j1,j2,j3⟩:=zqO h
  rw[j2,Int.toNat_natCast]
  have hj:j<pl.length:=by omega
  by_cases e43:(ix pl j).1=43
  ·have hl1:(ix pl j).2.2.2.length=1:=zZ hs hj e43 zcv
   have hrng:0<=cN (ix pl j):=(zjN hp hj (j:=0) (by omega)).1
   obtain⟨_,_,_,_,_,_,_,hty,_⟩:=zcw hs hj e43 zcv
   have hty:=hty rfl
   have hka:kaP T pl (ix pl j).2.1 j=(tA T (ix pl j).2.1).kind:=by
    unfold kaP
    refine if_pos ?_
    have h0:=hf j hj
    unfold fltP at h0
    split at h0
    ·cases h0
    split at h0
    ·cases h0
    split at h0
    ·cases h0
    rename_i _ _ hn
    refine Classical.byContradiction λq=>hn ⟨zkz (by rw[zL];omega),List.any_eq_true.2 ⟨(ix pl j).2.1,?_,decide_eq_true (by omega)⟩⟩
    unfold zcs idsP idsN
    exact List.mem_append_left _ (by rw[if_neg hty];exact List.mem_singleton.2 rfl)
   rw[hka]
   by_cases hb:(ix pl j).1≠43\/(tA T (ix pl j).2.1).kind≠3\/4096<cN (ix pl j)
   ·rw[if_pos hb]
    exact⟨⟨λ_=>by omega,λ_=>rfl⟩,λq=>absurd rfl q⟩
   ·rw[if_neg hb]
    exact⟨⟨λq=>by omega,λq=>by omega⟩,λ_=>rfl⟩
  ·rw[if_pos (.inl e43)]
   exact⟨⟨λ_=>.inl e43,λ_=>rfl⟩,λq=>absurd rfl q⟩
 ·rw[if_neg h,if_neg h]
  exact⟨⟨λ_=>.inl (by decide),λ_=>rfl⟩,λq=>absurd rfl q⟩
end
end Go.Proofs
