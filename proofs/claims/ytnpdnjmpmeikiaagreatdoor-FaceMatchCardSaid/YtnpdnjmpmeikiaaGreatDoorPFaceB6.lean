/- FaceB, part 6; made small by a program. -/
import Derived.Test.YtnpdnjmpmeikiaaGreatDoorProg
import Derived.Laws.CopyRow
import Derived.WideKeyRuns
import Derived.Test.YtnpdnjmpmeikiaaGreatDoorPFaceB5
set_option linter.unusedVariables false
set_option linter.unusedSectionVars false
namespace Go.Proofs
open Go.Gk Go.RowKit Go.Gm
noncomputable def wdP(T:TyL)(pl:List PI)(k:Nat):List Int:=((wdsC T (cnsC T pl k).1 pl k).getD ([],0)).1
noncomputable def vaP(T:TyL)(pl:List PI)(k:Nat):Vn:=(varC T (cnsC T pl k).1 pl k).1
section
variable {bd:Int} {pl:List PI} {k:Nat} {T:TyL} {C:CnL}
theorem zcM(W:yP bd pl)(id:Int):∀n,n<=pl.length->(∀c,zC (cnsC T pl n).1 id=some c↔∃k,k<n/\isC (ix pl k).1=true/\(ix pl k).2.2.1=id/\c=((ix pl k).2.1,wdP T pl k))/\
  (∀v,zC (cnsC T pl n).2 id=some v↔∃k,k<n/\(zt (ix pl k)=7/\(ix pl k).1=59)/\(ix pl k).2.2.1=id/\v=vaP T pl k)
 | 0,_=>⟨λc=>⟨λh=>(by cases h),λ⟨k,h,_⟩=>(by omega)⟩,λc=>⟨λh=>(by cases h),λ⟨k,h,_⟩=>(by omega)⟩⟩
 |n+1,hn=>by
  obtain⟨h1,h2⟩:=zcM W id n (by omega)
  rcases zc1 T pl n with h | ⟨h,h7,h59⟩ | ⟨h,hq⟩
  ·obtain⟨p,hp⟩:=YB T (cnsC T pl n).1 h
   rw[Y2 h hp]
   have hw:wdP T pl n=p.1:=by unfold wdP;rw[hp];rfl
   have hnew:=znd (T:=T) W (by omega:n<pl.length) h
   constructor
   ·intro c
    dsimp only
    rw[zc2]
    split
    ·rename_i e
     subst e
     constructor
     ·intro q
      cases q
      exact⟨n,by omega,h,rfl,by rw[hw]⟩
     ·rintro⟨k,k1,k2,k3,rfl⟩
      have:k=n:=Classical.byContradiction λhne=>W.new n (by omega) (zrb W.shape (by omega) h) k (by omega) (by omega) k3
      subst this
      rw[hw]
    ·rename_i e
     rw[h1 c]
     constructor
     ·rintro⟨k,k1,k2⟩
      exact⟨k,by omega,k2⟩
     ·rintro⟨k,k1,k2,k3,k4⟩
      refine⟨k,?_,k2,k3,k4⟩
      have:k≠n:=by rintro rfl;exact e k3.symm
      omega
   ·intro v
    dsimp only
    rw[h2 v]
    constructor
    ·rintro⟨k,k1,k2⟩
     exact⟨k,by omega,k2⟩
    ·rintro⟨k,k1,k2,k3⟩
     refine⟨k,?_,k2,k3⟩
     have:k≠n:=by
      rintro rfl
      rw[Zk]at h
      omega
     omega
  ·rw[zd4 h7 h59]
   constructor
   ·intro c
    dsimp only
    rw[h1 c]
    constructor
    ·rintro⟨k,k1,k2⟩
     exact⟨k,by omega,k2⟩
    ·rintro⟨k,k1,k2,k3⟩
     refine⟨k,?_,k2,k3⟩
     have:k≠n:=by
      rintro rfl
      rw[h]at k2
      cases k2
     omega
   ·intro v
    dsimp only
    rw[zc2]
    split
    ·rename_i e
     subst e
     constructor
     ·intro q
      cases q
      exact⟨n,by omega,⟨h7,h59⟩,rfl,rfl⟩
     ·rintro⟨k,k1,k2,k3,rfl⟩
      have:k=n:=Classical.byContradiction λhne=>W.new n (by omega) (zrx W (by omega) h59) k (by omega) (by omega) k3
      subst this
      rfl
    ·rename_i e
     rw[h2 v]
     constructor
     ·rintro⟨k,k1,k2⟩
      exact⟨k,by omega,k2⟩
     ·rintro⟨k,k1,k2,k3,k4⟩
      refine⟨k,?_,k2,k3,k4⟩
      have:k≠n:=by rintro rfl;exact e k3.symm
      omega
  ·rw[zbf h hq]
   constructor
   ·intro c
    rw[h1 c]
    constructor
    ·rintro⟨k,k1,k2⟩
     exact⟨k,by omega,k2⟩
    ·rintro⟨k,k1,k2,k3⟩
     refine⟨k,?_,k2,k3⟩
     have:k≠n:=by
      rintro rfl
      rw[h]at k2
      cases k2
     omega
   ·intro v
    rw[h2 v]
    constructor
    ·rintro⟨k,k1,k2⟩
     exact⟨k,by omega,k2⟩
    ·rintro⟨k,k1,k2,k3⟩
     refine⟨k,?_,k2,k3⟩
     have:k≠n:=by
      rintro rfl
      exact hq k2
     omega
theorem zrY(W:yP bd pl){id:Int}{c:Cn}{n m:Nat}(hnm:n<=m)(hm:m<=pl.length)(h:zC (cnsC T pl n).1 id=some c):zC (cnsC T pl m).1 id=some c:=by
 obtain⟨k,k1,k2⟩:=((zcM W id n (by omega)).1 c).1 h
 exact((zcM W id m hm).1 c).2 ⟨k,by omega,k2⟩
theorem zqD{n:Nat}(h:(catC T C pl k n).2=0):∀j,j<n->∃w,zC C (agI pl k j)=some (((tA T (ix pl k).2.1).prt (j:Int)).1,w):=by
 induction n with
 |zero=>intro j hj;omega
 |succ n ih=>
  intro j hj
  unfold catC at h
  by_cases h1:(catC T C pl k n).2≠0
  ·rw[if_pos h1]at h;exact absurd h h1
  rw[if_neg h1]at h
  by_cases h2:(ofC C (agI pl k n) ((tA T (ix pl k).2.1).prt (n:Int)).1).2≠0
  ·rw[if_pos h2]at h;exact absurd h h2
  by_cases e:j=n
  ·subst e
   have h2:=Classical.not_not.1 h2
   unfold ofC at h2
   cases hl:zC C (agI pl k j) with
   |none=>rw[hl]at h2;cases h2
   |some c=>
    rw[hl]at h2
    have h2:(if c.1≠((tA T (ix pl k).2.1).prt (j:Int)).1 then(([]:List Int),(111:Int)) else(c.2,0)).2=0:=h2
    by_cases h3:c.1≠((tA T (ix pl k).2.1).prt (j:Int)).1
    ·rw[if_pos h3]at h2;cases h2
    ·refine⟨c.2,?_⟩
     rw[<-Classical.not_not.1 h3]
  ·exact ih (Classical.not_not.1 h1) j (by omega)
theorem zpf{id ty:Int}{w:List Int}(h:zC C id=some (ty,w)):ofC C id ty=(w,0):=by
 unfold ofC
 rw[h]
 exact if_neg (λq=>q rfl)
theorem zpC{n:Nat}(h:(catC T C pl k n).2=0):(catC T C pl k n).1=(List.range n).flatMap λj=>((zC C (agI pl k j)).getD (0,[])).2:=by
 induction n with
 |zero=>rfl
 |succ n ih=>
  obtain⟨w,hw⟩:=zqD h n (by omega)
  have ho:=zpf hw
  have h1:(catC T C pl k n).2=0:=by
   refine Classical.byContradiction λq=>?_
   unfold catC at h
   rw[if_pos q]at h
   exact q h
  unfold catC
  rw[if_neg (λq=>q h1),ho,if_neg (λq=>q rfl),ih h1,List.range_succ,List.flatMap_append]
  simp only[List.flatMap_cons,List.flatMap_nil,List.append_nil]
  rw[hw]
  rfl
theorem CnOk.whole(h:CnOk bd pl)(hp:PlOk pl)(h0:0<=bd):yP bd pl:=h.ty.whole hp h0
theorem zsM(hb:badC (tyL pl) pl k=0)(hc:isC (ix pl k).1=true):wdsC (tyL pl) (cnsC (tyL pl) pl k).1 pl k=some (wdP (tyL pl) pl k,0):=by
 unfold badC at hb
 rw[if_pos (zoH hc)]at hb
 unfold errC at hb
 rw[if_neg (λe=>by rw[Zk]at hc;omega)]at hb
 obtain⟨p,hp⟩:=YB (tyL pl) (cnsC (tyL pl) pl k).1 hc
 rw[hp]at hb⊢
 have hb:p.2=0:=hb
 unfold wdP
 rw[hp]
 show some p=some (p.1,0)
 rw[<-hb]
theorem CnOk.var(h:CnOk bd pl)(hk:k<pl.length)(h7:zt (ix pl k)=7)(h59:(ix pl k).1=59):(varC (tyL pl) (cnsC (tyL pl) pl k).1 pl k).2=0:=by
 have hb:=h.no k hk
 unfold badC at hb
 rw[if_pos h7]at hb
 unfold errC at hb
 rwa[if_pos h59]at hb
theorem zoD(t:Tp)(h:TpOk T t):t.full.length=t.cnt:=by
 unfold Tp.full Tp.cnt
 by_cases e:t.kind=4\/t.kind=5
 ·obtain⟨h1,h2,h3⟩:=h.many e
  rw[if_pos h1,List.length_replicate,h3]
  rfl
 ·obtain⟨h1,h2⟩:=h.few e
  rw[h1,if_neg (by omega),Nat.zero_add]
theorem ztm{t:Tp}(h:TpOk T t){j:Nat}(hj:j<t.cnt):t.prt (j:Int)=(t.full.getD j 0,true):=by
 unfold Tp.prt
 rw[if_neg (by omega)]
 unfold Tp.full
 by_cases e:0<t.times
 ·rw[if_pos e,if_pos e]
  have hk:t.kind=4\/t.kind=5:=Classical.byContradiction λhn=>by have:=(h.few hn).1;omega
  have:t.cnt=t.times:=by unfold Tp.cnt;rw[(h.many hk).2.2];rfl
  rw[zp (by rw[List.length_replicate];omega),List.getElem_replicate]
 ·rw[if_neg e,if_neg e,Int.toNat_natCast]
theorem zl0{α:Type}(l:List α)(d:α):(List.range l.length).map (λj=>l.getD j d)=l:=by
 refine List.ext_getElem (by simp) λi h1 h2=>?_
 rw[List.getElem_map,List.getElem_range]
 exact zp h2
theorem znx(hT:TbOk T){id:Int}(h:(tA T id).kind≠0):TpOk T (tA T id):=zpx hT h
theorem zvB(h:TyOk bd pl)(hp:PlOk pl)(h0:0<=bd):∀k,k<pl.length->(∀j,j<=k->badC (tyL pl) pl j=0)->isC (ix pl k).1=true->(wdP (tyL pl) pl k).length=(tA (tyL pl) (ix pl k).2.1).size:=by
 have W:=h.whole hp h0
 have hT:TbOk (tyL pl):=h.tb hp h0 (Nat.le_refl pl.length)
 intro k
 induction k using Nat.strongRecOn with
 |_ k ih=>
  intro hk hno hc
  have hw:=zsM (hno k (Nat.le_refl k)) hc
  generalize hwd:wdP (tyL pl) pl k=wd at hw⊢
  unfold wdsC at hw
  by_cases e1:(ix pl k).1=1\/(ix pl k).1=46
  ·rw[if_pos e1]at hw
   injection hw with hw
   split at hw
   ·cases hw
   ·cases hw
    exact List.length_replicate
  rw[if_neg e1]at hw
  by_cases e2:(ix pl k).1=41\/(ix pl k).1=42
  ·rw[if_pos e2]at hw
   injection hw with hw
   by_cases e:(tA (tyL pl) (ix pl k).2.1).kind≠2
   ·rw[if_pos e]at hw;cases hw
   rw[if_neg e]at hw
   have e:=Classical.not_not.1 e
   have h1:=((znx hT (id:=(ix pl k).2.1) (by omega)).one (by omega)).1
   rw[h1]
   cases hw
   split<;>rfl
  rw[if_neg e2]at hw
  by_cases e3:(ix pl k).1=43
  ·rw[if_pos e3]at hw
   injection hw with hw
   by_cases e:(tA (tyL pl) (ix pl k).2.1).kind≠3
   ·rw[if_pos e]at hw;cases hw
   rw[if_neg e]at hw
   have e:=Classical.not_not.1 e
   have h1:=((znx hT (id:=(ix pl k).2.1) (by omega)).one (by omega)).1
   rw[h1]
   cases hw
   rfl
  rw[if_neg e3]at hw
  by_cases e4:(ix pl k).1=44
  ·rw[if_pos e4]at hw
   injection hw with hw
   by_cases e:¬(4<=(tA (tyL pl) (ix pl k).2.1).kind/\(tA (tyL pl) (ix pl k).2.1).kind<=6)
   ·rw[if_pos e]at hw;cases hw
   rw[if_neg e]at hw
   have e:=Classical.not_not.1 e
   by_cases e5:(ix pl k).2.2.2.length≠(tA (tyL pl) (ix pl k).2.1).cnt
   ·rw[if_pos e5]at hw;cases hw
   rw[if_neg e5]at hw
   have e5:=Classical.not_not.1 e5
   have htp:=znx hT (id:=(ix pl k).2.1) (by omega)
   generalize ht:tA (tyL pl) (ix pl k).2.1=t at e e5 htp hw⊢
   have hc0:(catC (tyL pl) (cnsC (tyL pl) pl k).1 pl k (ix pl k).2.2.2.length).2=0:=by rw[hw]
   have hcw:=zpC hc0
   rw[hw]at hcw
   have hcw:wd=_:=hcw
   rw[hcw,List.length_flatMap,(htp.sub e).2.2.1,sumT]
   congr 1
   rw[e5,<-zoD t htp]
   conv=>rhs;rw[<-zl0 t.full 0]
   rw[List.map_map]
   refine List.map_congr_left λj hj=>?_
   have hj:=List.mem_range.1 hj
   rw[zoD t htp]at hj
   obtain⟨w',hw'⟩:=zqD hc0 j (by omega)
   rw[hw']
   show w'.length=(tA (tyL pl) (t.full.getD j 0)).size
   obtain⟨k',k1,k2,k3,k4⟩:=((zcM (T:=tyL pl) W (agI pl k j) k (by omega)).1 _).1 hw'
   injection k4 with k4 k5
   rw[k5,ih k' k1 (by omega) (λj hj=>hno j (by omega)) k2,<-k4,ht,ztm htp hj]
  rw[if_neg e4]at hw
  cases hw
theorem zj5(hT:TbOk T)(id:Int):(tA T id).size<=4096:=by
 unfold tA
 cases h:zC T id with
 |none=>exact Nat.zero_le _
 |some t=>exact(hT id t h).max.1
theorem zoh(h:TyOk bd pl)(hp:PlOk pl)(h0:0<=bd){n:Nat}(hn:n<=pl.length)(hno:∀j,j<n->badC (tyL pl) pl j=0){id:Int}{c:Cn}(hc:zC (cnsC (tyL pl) pl n).1 id=some c):c.2.length=(tA (tyL pl) c.1).size:=by
 obtain⟨k,k1,k2,k3,rfl⟩:=((zcM (h.whole hp h0) id n hn).1 c).1 hc
 exact zvB h hp h0 k (by omega) (λj hj=>hno j (by omega)) k2
theorem zpe{m:Nat}(h:∀id c,zC C id=some c->c.2.length<=m)(id ty:Int):(ofC C id ty).1.length<=m:=by
 unfold ofC
 cases hl:zC C id with
 |none=>exact Nat.zero_le _
 |some c=>
  dsimp only
  split
  ·exact Nat.zero_le _
  ·exact h id c hl
theorem zmj{m:Nat}(h:∀id c,zC C id=some c->c.2.length<=m):∀n,(catC T C pl k n).1.length<=n*m
 | 0=>Nat.zero_le _
 |n+1=>by
  have ih:=zmj h n
  have e:(n+1)*m=n*m+m:=Nat.succ_mul n m
  unfold catC
  split
  ·omega
  ·split
   ·exact Nat.zero_le _
   ·rw[List.length_append]
    have:=zpe h (agI pl k n) ((tA T (ix pl k).2.1).prt (n:Int)).1
    omega
end
end Go.Proofs
namespace Go.Proofs
open Go.Gk
set_option linter.unusedVariables false
set_option linter.unusedSectionVars false
set_option maxRecDepth 100000
def zim:Ann:=(.q (.q (.seq none (.q (.cond (.q .nil) .nil)) (.q (.q (.q (.seq none (.q (.one (.loop ⟨[1,3,6,8,9],[(10,(.b (.int .i64)))]⟩ (.seq none (.q .c) (.seq none (.one (.q (.q (.cond (.q .nil) .nil)))) .nil))))) (.q .nil))))))))
def zhZ(p0:(Int×Int×Sl×Unit))(R:VWP)(w:World):Prop:=Nw (w.alloc (.cells #[zu p0.1,zu p0.2.1,p0.2.2.1.zw] 25)) λw1=>Nw (w1.alloc (.cells #[zi 0,zi 0] 29)) λw2=>da w2 (zB w) λx1 x2 x3=>dI 34 #[.agg #[zu x1,zu x2,x3.zw]] w2 λx5 x6 w3=>df w3 #[zi 0,zi 0] 29 (zi x6.1) (zi x6.2.1) λw6=>ldI w6 (zB w3) .i64 λx7=>ifB (x7 !=0) (db w6.drew (zB w3) λx8 x9=>de w6.drew (zB w1) (zi x8) (zi x9) λw8=>db w8 (zB w1) λx10 x11=>R (.tuple #[.pointer none,.agg #[zi x10,zi x11]]) w8) (da w6 (zB w) λx12 x13 x14=>dh 35 #[.agg #[zu x12,zu x13,x14.zw]] w6 λx16 x17 w9=>Nw (w9.alloc (.cells (List.toArray (List.replicate 20 (zi 0))) 82)) λw10=>Nw (w10.alloc (.cells #[zi 0,zi 0] 29)) λw11=>dd w11 (zB w9) (zi x16.1) (zi x16.2.1) (zi x16.2.2.1) (zi x16.2.2.2.1) (zi x16.2.2.2.2.1) (zi x16.2.2.2.2.2.1) (zi x16.2.2.2.2.2.2.1) (zi x16.2.2.2.2.2.2.2.1) (zi x16.2.2.2.2.2.2.2.2.1) (zi x16.2.2.2.2.2.2.2.2.2.1) (zi x16.2.2.2.2.2.2.2.2.2.2.1) (zi x16.2.2.2.2.2.2.2.2.2.2.2.1) (zi x16.2.2.2.2.2.2.2.2.2.2.2.2.1) (zi x16.2.2.2.2.2.2.2.2.2.2.2.2.2.1) (zi x16.2.2.2.2.2.2.2.2.2.2.2.2.2.2.1) (zi x16.2.2.2.2.2.2.2.2.2.2.2.2.2.2.2.1) (zi x16.2.2.2.2.2.2.2.2.2.2.2.2.2.2.2.2.1) (zi x16.2.2.2.2.2.2.2.2.2.2.2.2.2.2.2.2.2.1) (zi x16.2.2.2.2.2.2.2.2.2.2.2.2.2.2.2.2.2.2.1) (zi x16.2.2.2.2.2.2.2.2.2.2.2.2.2.2.2.2.2.2.2.1) λw31=>de w31 (zB w10) (zi x17.1) (zi x17.2.1) λw33=>Nw (w33.alloc (.map #[] 0)) λw34=>Nw (w34.alloc (.map #[] 0)) λw35=>Nw (w35.alloc (.cells #[.pointer x5,.slice none 0 0,.map (some w33.heap.size),.slice none 0 0,.map (some w34.heap.size)] 88)) λw36=>di 36 #[.pointer (some (zB w35))] w36 λx19 w37=>(0<=(7:Int)/\(7:Int)<10)/\ldI w37 ((zB w9).add (7*2)) .i64 λx20=>zl (S:=Int×Unit) (λs21 w38 n22=>(0<=(7:Int)/\(7:Int)<10)/\ldI w38 (((zB w9).add (7*2)).add 1) .i64 λx23=>ifB (decide (s21.1<x23)) (ldS w38 ((zB w).add 2) λx24=>(0<=s21.1/\s21.1<(x24.l:Int))/\zc x24.a λa25=>dc w38 (a25.add (s21.1.toNat *4)) λx26 x27 x28 x29=>dl 37 #[.pointer (some (zB w35)),.agg #[zh x26,zu x27,zu x28,x29.zw],.map x19] w38 λx31 w39=>ifB (x31 !=0) (de w39 (zB w1) (zi x31) (zi s21.1) λw41=>db w41 (zB w1) λx32 x33=>R (.tuple #[.pointer none,.agg #[zi x32,zi x33]]) w41) (n22 ((IntKind.i64.wrap (s21.1+(1:Int))),()) w39)) (de w38 (zB w1) (zi 0) (zi 0) λw43=>db w43 (zB w1) λx34 x35=>R (.tuple #[.pointer (some (zB w35)),.agg #[zi x34,zi x35]]) w43)) (x20,()) w37)
theorem zjj(p0)(R)(w)(h:zhZ p0 R w):Calls Tryz.prog 10 #[.agg #[.int .u32 p0.1,.int .u32 p0.2.1,.slice p0.2.2.1.a p0.2.2.1.l p0.2.2.1.c]] w (Ret R):=lwC zim Tryz.func10 (by kernel_rfl) (by kernel_rfl) h
def zbK:Ann:=(.q (.seq none (.q (.cond (.q .nil) .nil)) (.q .nil)))
def zbx(p0:Option Addr)(R:VWP)(w:World):Prop:=ifB (Option.isNone p0) (R (.pointer none) w) (zc p0 λa1=>ldP w a1 λx2=>R (.pointer x2) w)
theorem zej(p0)(R)(w)(h:zbx p0 R w):Calls Tryz.prog 15 #[.pointer p0] w (Ret R):=lwC zbK Tryz.func15 (by kernel_rfl) (by kernel_rfl) h
def zaN:Ann:=(.q (.q .nil))
def za9(p0:Option Addr)(R:VWP)(w:World):Prop:=Nw (w.alloc (.map #[] 0)) λw1=>updW Tryz.prog 89 (.map (some w.heap.size)) (zh 1) (.func (.func 62) #[.pointer p0] #[]) w1 λw2=>updW Tryz.prog 89 (.map (some w.heap.size)) (zh 46) (.func (.func 62) #[.pointer p0] #[]) w2 λw3=>updW Tryz.prog 89 (.map (some w.heap.size)) (zh 41) (.func (.func 63) #[.pointer p0] #[]) w3 λw4=>updW Tryz.prog 89 (.map (some w.heap.size)) (zh 42) (.func (.func 63) #[.pointer p0] #[]) w4 λw5=>updW Tryz.prog 89 (.map (some w.heap.size)) (zh 43) (.func (.func 64) #[.pointer p0] #[]) w5 λw6=>updW Tryz.prog 89 (.map (some w.heap.size)) (zh 44) (.func (.func 65) #[.pointer p0] #[]) w6 λw7=>R (.map (some w.heap.size)) w7
theorem zdC(p0)(R)(w)(h:za9 p0 R w):Calls Tryz.prog 36 #[.pointer p0] w (Ret R):=lwC zaN Tryz.func36 (by kernel_rfl) (by kernel_rfl) h
def zdx:Ann:=(.q (.seq none (.q (.cond (.q (.q (.q (.q .nil)))) .nil)) (.q (.seq none (.q (.cond (.q .nil) .nil)) (.q (.q (.q (.q .nil))))))))
def zdp(p0:Option Addr)(p1:(Int×Int×Int×Sl×Unit))(p2:Option Nat)(R:VWP)(w:World):Prop:=Nw (w.alloc (.cells #[zh p1.1,zu p1.2.1,zu p1.2.2.1,p1.2.2.2.1.zw] 44)) λw1=>ldI w1 (zB w) .u16 λx1=>ifB (x1==59) (dc w1 (zB w) λx2 x3 x4 x5=>dU 66 #[.pointer p0,.agg #[zh x2,zu x3,zu x4,x5.zw]] w1 λx7 x8 w2=>dT w2 #[zu 0,zu 0,.slice none 0 0] 157 (zu x7.1) (zu x7.2.1) (x7.2.2.1.zw) λw6=>zc p0 λa9=>ldS w6.drew (a9.add 3) λx10=>ldI w6.drew ((zB w).add 2) .u32 λx11=>Nw (w6.drew.alloc (.cells #[zu x11] 22)) λw7=>w7.cell? (a9.add 3)=some (x10.zw)/\zA Tryz.prog 56 (x10.zw) (.slice (some (blk w6.drew.heap.size)) 1 1) w7 λr12 w8=>zc p0 λa13=>Wr w8 (a13.add 3)/\Nw (w8.setCell (a13.add 3) (r12.zw)) λw9=>zc p0 λa14=>ldM w9.drew (a14.add 4) λx15=>ldI w9.drew ((zB w).add 2) .u32 λx16=>da w9.drew (zB w2) λx17 x18 x19=>updW Tryz.prog 86 (.map x15) (zu x16) (.agg #[zu x17,zu x18,x19.zw]) w9.drew λw10=>R (zi x8) w10) (ldI w1 (zB w) .u16 λx20=>zax Tryz.prog 89 (.map p2) (zh x20) BK.raw w1 λ(x21:Value)=>zeV x21 λb22=>ifB b22 (R (zi 0) w1) (dc w1 (zB w) λx23 x24 x25 x26=>zL Tryz.prog Tryz.fs x21 [(.agg #[zh x23,zu x24,zu x25,x26.zw])] w1 λv27 w11=>∃x28:Sl,∃x29:Int,v27=(.tuple #[x28.zw,zi x29])/\zc p0 λa30=>ldS w11.drew (a30.add 1) λx31=>ldI w11.drew ((zB w).add 2) .u32 λx32=>Nw (w11.drew.alloc (.cells #[zu x32] 22)) λw12=>w12.cell? (a30.add 1)=some (x31.zw)/\zA Tryz.prog 56 (x31.zw) (.slice (some (blk w11.drew.heap.size)) 1 1) w12 λr33 w13=>zc p0 λa34=>Wr w13 (a34.add 1)/\Nw (w13.setCell (a34.add 1) (r33.zw)) λw14=>zc p0 λa35=>ldM w14.drew (a35.add 2) λx36=>ldI w14.drew ((zB w).add 2) .u32 λx37=>ldI w14.drew ((zB w).add 1) .u32 λx38=>updW Tryz.prog 85 (.map x36) (zu x37) (.agg #[zu x38,x28.zw]) w14.drew λw15=>R (zi x29) w15))
theorem zf5(p0)(p1)(p2)(R)(w)(h:zdp p0 p1 p2 R w):Calls Tryz.prog 37 #[.pointer p0,.agg #[.int .u16 p1.1,.int .u32 p1.2.1,.int .u32 p1.2.2.1,.slice p1.2.2.2.1.a p1.2.2.2.1.l p1.2.2.2.1.c],.map p2] w (Ret R):=lwC zdx Tryz.func37 (by kernel_rfl) (by kernel_rfl) h
def zao:Ann:=(.q (.seq none (.q (.cond (.q .nil) .nil)) (.q .nil)))
def zad(p0:Option Addr)(p1:(Int×Int×Int×Sl×Unit))(R:VWP)(w:World):Prop:=Nw (w.alloc (.cells #[zh p1.1,zu p1.2.1,zu p1.2.2.1,p1.2.2.2.1.zw] 44)) λw1=>zc p0 λa1=>ldP w1.drew a1 λx2=>ldI w1.drew ((zB w).add 1) .u32 λx3=>dK 102 #[.pointer x2,zu x3] w1.drew λx5 w2=>ifB (!x5) (R (.tuple #[.slice none 0 0,zi 100]) w2) (zc p0 λa6=>ldP w2.drew a6 λx7=>ldI w2.drew ((zB w).add 1) .u32 λx8=>dl 46 #[.pointer x7,zu x8] w2.drew λx10 w3=>(0<=x10/\x10<=x10/\4*x10<=281474976710656/\x10<=9223372036854775807)/\Nw (w3.alloc (.cells (madeCells #[zu 0] (x10.toNat *1)) 22)) λw4=>R (.tuple #[.slice (some (zB w3)) x10.toNat x10.toNat,zi 0]) w4)
theorem zdc(p0)(p1)(R)(w)(h:zad p0 p1 R w):Calls Tryz.prog 62 #[.pointer p0,.agg #[.int .u16 p1.1,.int .u32 p1.2.1,.int .u32 p1.2.2.1,.slice p1.2.2.2.1.a p1.2.2.2.1.l p1.2.2.2.1.c]] w (Ret R):=lwC zao Tryz.func62 (by kernel_rfl) (by kernel_rfl) h
def zbM:Ann:=(.q (.seq none (.q (.cond (.q .nil) .nil)) (.seq none (.q (.cond (.q .nil) .nil)) (.q .nil))))
def zbz(p0:Option Addr)(p1:(Int×Int×Int×Sl×Unit))(R:VWP)(w:World):Prop:=Nw (w.alloc (.cells #[zh p1.1,zu p1.2.1,zu p1.2.2.1,p1.2.2.2.1.zw] 44)) λw1=>ldI w1 ((zB w).add 1) .u32 λx1=>Nw (w1.alloc (.cells #[zb 2] 5)) λw2=>dK 103 #[.pointer p0,zu x1,.slice (some (zB w1)) 1 1] w2 λx3 w3=>ifB (!x3) (R (.tuple #[.slice none 0 0,zi 100]) w3) (ldI w3 (zB w) .u16 λx4=>ifB (x4==41) (Nw (w3.alloc (.cells #[zu 1] 22)) λw4=>R (.tuple #[.slice (some (zB w3)) 1 1,zi 0]) w4) (Nw (w3.alloc (.cells #[zu 0] 22)) λw5=>R (.tuple #[.slice (some (zB w3)) 1 1,zi 0]) w5))
theorem zem(p0)(p1)(R)(w)(h:zbz p0 p1 R w):Calls Tryz.prog 63 #[.pointer p0,.agg #[.int .u16 p1.1,.int .u32 p1.2.1,.int .u32 p1.2.2.1,.slice p1.2.2.2.1.a p1.2.2.2.1.l p1.2.2.2.1.c]] w (Ret R):=lwC zbM Tryz.func63 (by kernel_rfl) (by kernel_rfl) h
def zaO:Ann:=(.q (.seq none (.q (.cond (.q .nil) .nil)) (.q .nil)))
def zaA(p0:Option Addr)(p1:(Int×Int×Int×Sl×Unit))(R:VWP)(w:World):Prop:=Nw (w.alloc (.cells #[zh p1.1,zu p1.2.1,zu p1.2.2.1,p1.2.2.2.1.zw] 44)) λw1=>ldI w1 ((zB w).add 1) .u32 λx1=>Nw (w1.alloc (.cells #[zb 3] 5)) λw2=>dK 103 #[.pointer p0,zu x1,.slice (some (zB w1)) 1 1] w2 λx3 w3=>ifB (!x3) (R (.tuple #[.slice none 0 0,zi 100]) w3) (ldS w3 ((zB w).add 3) λx4=>(0<=(0:Int)/\0<(x4.l:Int))/\zc x4.a λa5=>ldI w3 ((a5.add (0*3)).add 1) .u32 λx6=>Nw (w3.alloc (.cells #[zu x6] 22)) λw4=>R (.tuple #[.slice (some (zB w3)) 1 1,zi 0]) w4)
theorem zdD(p0)(p1)(R)(w)(h:zaA p0 p1 R w):Calls Tryz.prog 64 #[.pointer p0,.agg #[.int .u16 p1.1,.int .u32 p1.2.1,.int .u32 p1.2.2.1,.slice p1.2.2.2.1.a p1.2.2.2.1.l p1.2.2.2.1.c]] w (Ret R):=lwC zaO Tryz.func64 (by kernel_rfl) (by kernel_rfl) h
def Yw:Ann:=(.q (.seq none (.q (.cond (.q .nil) .nil)) (.seq none (.q (.cond (.q .nil) .nil)) (.q (.seq none (.q (.one (.loop ⟨[0,3,31,32],[(6,(.b .slice)),(33,(.b (.int .i64)))]⟩ (.q (.seq none .c (.seq none (.one (.q (.q (.q (.seq none (.q (.cond (.q .nil) .nil)) .nil))))) .nil)))))) (.q .nil))))))
def Yr(p0:Option Addr)(p1:(Int×Int×Int×Sl×Unit))(R:VWP)(w:World):Prop:=Nw (w.alloc (.cells #[zh p1.1,zu p1.2.1,zu p1.2.2.1,p1.2.2.2.1.zw] 44)) λw1=>ldI w1 ((zB w).add 1) .u32 λx1=>Nw (w1.alloc (.cells #[zb 4,zb 5,zb 6] 5)) λw2=>dK 103 #[.pointer p0,zu x1,.slice (some (zB w1)) 3 3] w2 λx3 w3=>ifB (!x3) (R (.tuple #[.slice none 0 0,zi 100]) w3) (ldS w3.drew ((zB w).add 3) λx4=>zc p0 λa5=>ldP w3.drew a5 λx6=>ldI w3.drew ((zB w).add 1) .u32 λx7=>dl 104 #[.pointer x6,zu x7] w3.drew λx9 w4=>w4.cell? ((zB w).add 3)=some (x4.zw)/\ifB ((x4.l:Int) !=x9) (R (.tuple #[.slice none 0 0,zi 111]) w4) (ldS w4 ((zB w).add 3) λx10=>zl (S:=Sl×Int×Unit) (λs11 w5 n12=>ifB (decide (s11.2.1<(x10.l:Int))) ((0<=s11.2.1/\s11.2.1<(x10.l:Int))/\zc x10.a λa13=>dm w5 (a13.add (s11.2.1.toNat *3)) λx14 x15 x16=>Nw (w5.alloc (.cells #[zb 0,zu 0,.string (BM #[])] 123)) λw6=>dn w6 (zB w5) (zb x14) (zu x15) (.string x16) λw9=>zc p0 λa17=>ldP w9.drew a17 λx18=>ldI w9.drew ((zB w).add 1) .u32 λx19=>dV 105 #[.pointer x18,zu x19,zi s11.2.1] w9.drew λx21 x22 w10=>ldI w10 ((zB w5).add 1) .u32 λx23=>dy 106 #[.pointer p0,zu x23,zu x21] w10 λx25 x26 w11=>ifB (x26 !=0) (R (.tuple #[.slice none 0 0,zi x26]) w11) (zA Tryz.prog 56 (s11.1.zw) (x25.zw) w11 λr27 w12=>n12 (r27,(IntKind.i64.wrap (s11.2.1+(1:Int))),()) w12)) (R (.tuple #[s11.1.zw,zi 0]) w5)) ((Sl.mk none 0 0),0,()) w4))
theorem zcn(p0)(p1)(R)(w)(h:Yr p0 p1 R w):Calls Tryz.prog 65 #[.pointer p0,.agg #[.int .u16 p1.1,.int .u32 p1.2.1,.int .u32 p1.2.2.1,.slice p1.2.2.2.1.a p1.2.2.2.1.l p1.2.2.2.1.c]] w (Ret R):=lwC Yw Tryz.func65 (by kernel_rfl) (by kernel_rfl) h
def a_consts_Pool_holds:Ann:=(.q (.q (.seq none (.q (.cond (.q .nil) .nil)) (.q (.q (.seq (some ⟨[0,3,4,8],[]⟩) (.q (.cond (.q .nil) .nil)) (.seq none (.q (.cond (.q (.q .nil)) .nil)) (.q (.q (.q .nil))))))))))
def L_consts_Pool_holds(p0:Option Addr)(p1:(Int×Int×Int×Sl×Unit))(R:VWP)(w:World):Prop:=Nw (w.alloc (.cells #[zh p1.1,zu p1.2.1,zu p1.2.2.1,p1.2.2.2.1.zw] 44)) λw1=>Nw (w1.alloc (.cells #[zu 0,zu 0,.slice none 0 0] 157)) λw2=>zc p0 λa1=>ldP w2.drew a1 λx2=>ldI w2.drew ((zB w).add 1) .u32 λx3=>dV 107 #[.pointer x2,zu x3] w2.drew λx5 x6 w3=>ifB (!x6) (dn w3 (zB w1) (zu 0) (zu 0) (.slice none 0 0) λw6=>da w6 (zB w1) λx7 x8 x9=>R (.tuple #[.agg #[zu x7,zu x8,x9.zw],zi 100]) w6) (ldS w3 ((zB w).add 3) λx10=>(0<=(0:Int)/\0<(x10.l:Int))/\zc x10.a λa11=>ldI w3 ((a11.add (0*3)).add 1) .u32 λx12=>dT w3 #[zu 0,zu 0,.slice none 0 0] 157 (zu x12) (zu 0) (.slice none 0 0) λw10=>zc p0 λa13=>ldP w10.drew a13 λx14=>ldI w10.drew ((zB w).add 1) .u32 λx15=>dV 105 #[.pointer x14,zu x15,zi 0] w10.drew λx17 x18 w11=>Wr w11 ((zB w3).add 1)/\Nw (w11.setCell ((zB w3).add 1) (zu x17)) λw12=>zo (S:=Unit) (λm19=>ldI w12 (zB w3) .u32 λx21=>ifB (x5 !=x21) (dn w12 (zB w1) (zu 0) (zu 0) (.slice none 0 0) λw15=>da w15 (zB w1) λx22 x23 x24=>R (.tuple #[.agg #[zu x22,zu x23,x24.zw],zi 112]) w15) (ldS w12 ((zB w).add 3) λx25=>ifB (decide ((x25.l:Int)>1)) (ifB (x5==1) (dn w12 (zB w1) (zu 0) (zu 0) (.slice none 0 0) λw18=>da w18 (zB w1) λx26 x27 x28=>R (.tuple #[.agg #[zu x26,zu x27,x28.zw],zi 112]) w18) (m19 () w12)) (m19 () w12))) (λs20 w19=>ldS w19 ((zB w).add 3) λx29=>ifB ((x29.l:Int)==1) (zc p0 λa30=>ldP w19.drew a30 λx31=>ldI w19.drew ((zB w3).add 1) .u32 λx32=>dl 46 #[.pointer x31,zu x32] w19.drew λx34 w20=>(0<=x34/\x34<=x34/\4*x34<=281474976710656/\x34<=9223372036854775807)/\Nw (w20.alloc (.cells (madeCells #[zu 0] (x34.toNat *1)) 22)) λw21=>Wr w21 (((zB w3).add 1).add 1)/\Nw (w21.setCell (((zB w3).add 1).add 1) (.slice (some (zB w20)) x34.toNat x34.toNat)) λw22=>da w22 (zB w3) λx35 x36 x37=>dn w22 (zB w1) (zu x35) (zu x36) (x37.zw) λw25=>da w25 (zB w1) λx38 x39 x40=>R (.tuple #[.agg #[zu x38,zu x39,x40.zw],zi 0]) w25) (ldS w19.drew ((zB w).add 3) λx41=>(0<=(1:Int)/\1<(x41.l:Int))/\zc x41.a λa42=>ldI w19.drew ((a42.add (1*3)).add 1) .u32 λx43=>ldI w19.drew ((zB w3).add 1) .u32 λx44=>dy 106 #[.pointer p0,zu x43,zu x44] w19.drew λx46 x47 w26=>Wr w26 (((zB w3).add 1).add 1)/\Nw (w26.setCell (((zB w3).add 1).add 1) (x46.zw)) λw27=>da w27 (zB w3) λx48 x49 x50=>dn w27 (zB w1) (zu x48) (zu x49) (x50.zw) λw30=>da w30 (zB w1) λx51 x52 x53=>R (.tuple #[.agg #[zu x51,zu x52,x53.zw],zi x47]) w30)))
theorem zek(p0)(p1)(R)(w)(h:L_consts_Pool_holds p0 p1 R w):Calls Tryz.prog 66 #[.pointer p0,.agg #[.int .u16 p1.1,.int .u32 p1.2.1,.int .u32 p1.2.2.1,.slice p1.2.2.2.1.a p1.2.2.2.1.l p1.2.2.2.1.c]] w (Ret R):=lwC a_consts_Pool_holds Tryz.func66 (by kernel_rfl) (by kernel_rfl) h
def YK:Ann:=(.q (.seq none (.q (.cond (.q .nil) .nil)) (.q (.q .nil))))
def YD(p0:Option Addr)(p1:Int)(R:VWP)(w:World):Prop:=ifB (Option.isNone p0) (R (.tuple #[zu 0,zu 0,.slice none 0 0,.bool false]) w) (zc p0 λa1=>ldM w (a1.add 4) λx2=>zgH Tryz.prog 86 (.map x2) (zu p1) [(.int .u32),(.int .u32),.slice] w λ(x3:(Int×Int×Sl×Unit)) (b4:Bool)=>dT w #[zu 0,zu 0,.slice none 0 0] 157 (zu x3.1) (zu x3.2.1) (x3.2.2.1.zw) λw4=>ldI w4.drew (zB w) .u32 λx5=>ldI w4.drew ((zB w).add 1) .u32 λx6=>ldS w4.drew (((zB w).add 1).add 1) λx7=>dj 126 #[x7.zw] w4.drew λx9 w5=>w5.cell? ((zB w).add 1)=some (zu x6)/\w5.cell? (zB w)=some (zu x5)/\R (.tuple #[zu x5,zu x6,x9.zw,.bool b4]) w5)
theorem zcN(p0)(p1)(R)(w)(h:YD p0 p1 R w):Calls Tryz.prog 88 #[.pointer p0,.int .u32 p1] w (Ret R):=lwC YK Tryz.func88 (by kernel_rfl) (by kernel_rfl) h
def zbL:Ann:=(.q (.q .nil))
def zby(p0:Option Addr)(p1:Int)(p2:Sl)(R:VWP)(w:World):Prop:=zc p0 λa1=>ldP w a1 λx2=>dw 113 #[.pointer x2,zu p1] w λx4 w1=>dK 136 #[p2.zw,zb x4] w1 λx6 w2=>R (.bool x6) w2
theorem zel(p0)(p1)(p2)(R)(w)(h:zby p0 p1 p2 R w):Calls Tryz.prog 103 #[.pointer p0,.int .u32 p1,.slice p2.a p2.l p2.c] w (Ret R):=lwC zbL Tryz.func103 (by kernel_rfl) (by kernel_rfl) h
def zeb:Ann:=(.q (.q (.seq none (.one (.q (.cond (.q .nil) (.q (.cond (.q .nil) .nil))))) (.q .nil))))
def zdT(p0:Option Addr)(p1:Int)(p2:Int)(R:VWP)(w:World):Prop:=zc p0 λa1=>ldM w (a1.add 2) λx2=>zgH Tryz.prog 85 (.map x2) (zu p1) [(.int .u32),.slice] w λ(x3:(Int×Sl×Unit)) (b4:Bool)=>df w #[zu 0,.slice none 0 0] 155 (zu x3.1) (x3.2.1.zw) λw3=>ifB (!b4) (R (.tuple #[.slice none 0 0,zi 110]) w3) (ldI w3 (zB w) .u32 λx5=>ifB (x5 !=p2) (R (.tuple #[.slice none 0 0,zi 111]) w3) (ldS w3 ((zB w).add 1) λx6=>R (.tuple #[x6.zw,zi 0]) w3))
theorem zfY(p0)(p1)(p2)(R)(w)(h:zdT p0 p1 p2 R w):Calls Tryz.prog 106 #[.pointer p0,.int .u32 p1,.int .u32 p2] w (Ret R):=lwC zeb Tryz.func106 (by kernel_rfl) (by kernel_rfl) h
def zfs:Ann:=(.q (.q (.q (.q .nil))))
def zbq(p0:Sl)(R:VWP)(w:World):Prop:=(0<=(p0.l:Int)/\(p0.l:Int)<=(p0.l:Int)/\4*(p0.l:Int)<=281474976710656/\(p0.l:Int)<=9223372036854775807)/\Nw (w.alloc (.cells (madeCells #[zu 0] (p0.l*1)) 22)) λw1=>zom Tryz.prog #[56,56] (.slice (some (zB w)) p0.l p0.l) (p0.zw) w1 λx1 w2=>R (.slice (some (zB w)) p0.l p0.l) w2
theorem zgS(p0)(R)(w)(h:zbq p0 R w):Calls Tryz.prog 126 #[.slice p0.a p0.l p0.c] w (Ret R):=lwC zfs Tryz.func126 (by kernel_rfl) (by kernel_rfl) h
end Go.Proofs
namespace Go.Proofs
open Go.Gk
set_option linter.unusedVariables false
set_option linter.unusedSectionVars false
set_option maxRecDepth 100000
def Zf:Ann:=(.q (.q .nil))
def Ze(p0:Sl)(p1:Int)(R:VWP)(w:World):Prop:=dl 166 #[p0.zw,zb p1] w λx2 w1=>R (.bool (decide (x2≥(0:Int)))) w1
theorem Yn(p0)(p1)(R)(w)(h:Ze p0 p1 R w):Calls Tryz.prog 136 #[.slice p0.a p0.l p0.c,.int .u8 p1] w (Ret R):=lwC Zf Tryz.func136 (by kernel_rfl) (by kernel_rfl) h
def yN:Ann:=(.q (.seq none (.q (.one (.loop ⟨[0,1,7],[(8,(.b (.int .i64)))]⟩ (.q (.seq none .c (.seq none (.one (.q (.q (.cond (.q .nil) .nil)))) .nil)))))) (.q .nil)))
def yM(p0:Sl)(p1:Value)(R:VWP)(w:World):Prop:=zl (S:=Int×Unit) (λs1 w1 n2=>ifB (decide (s1.1<(p0.l:Int))) ((0<=s1.1/\s1.1<(p0.l:Int))/\zc p0.a λa3=>ldI w1 (a3.add s1.1.toNat) .u32 λx4=>zL Tryz.prog Tryz.fs p1 [(zu x4)] w1 λv5 w2=>∃x6:Bool,v5=(.bool x6)/\ifB x6 (R (zi s1.1) w2) (n2 ((IntKind.i64.wrap (s1.1+(1:Int))),()) w2)) (R (zi (-1:Int)) w1)) (0,()) w
theorem ZI(p0)(p1)(R)(w)(h:yM p0 p1 R w):Calls Tryz.prog 155 #[.slice p0.a p0.l p0.c,p1] w (Ret R):=lwC yN Tryz.func155 (by kernel_rfl) (by kernel_rfl) h
def Z7:Ann:=(.q (.seq none (.q (.one (.loop ⟨[0,1,7],[(8,(.b (.int .i64)))]⟩ (.q (.seq none .c (.seq none (.one (.q (.q (.cond (.q .nil) .nil)))) .nil)))))) (.q .nil)))
def Z5(p0:Sl)(p1:Int)(R:VWP)(w:World):Prop:=zl (S:=Int×Unit) (λs1 w1 n2=>ifB (decide (s1.1<(p0.l:Int))) ((0<=s1.1/\s1.1<(p0.l:Int))/\zc p0.a λa3=>ldI w1 (a3.add s1.1.toNat) .u8 λx4=>ifB (p1==x4) (R (zi s1.1) w1) (n2 ((IntKind.i64.wrap (s1.1+(1:Int))),()) w1)) (R (zi (-1:Int)) w1)) (0,()) w
theorem YZ(p0)(p1)(R)(w)(h:Z5 p0 p1 R w):Calls Tryz.prog 166 #[.slice p0.a p0.l p0.c,.int .u8 p1] w (Ret R):=lwC Z7 Tryz.func166 (by kernel_rfl) (by kernel_rfl) h
end Go.Proofs
namespace Go.Proofs
open Go.Gk Go.RowKit Go.Gm
abbrev Cv:=Int×Sl×Unit
abbrev Vv:=Int×Int×Sl×Unit
abbrev cvK:List BK:=[(.int .u32),.slice]
abbrev vvK:List BK:=[(.int .u32),(.int .u32),.slice]
def cv0:Cv:=(0,⟨none,0,0⟩,())
def vv0:Vv:=(0,0,⟨none,0,0⟩,())
abbrev vvV(v:Vv):List Value:=[.int .u32 v.1,.int .u32 v.2.1,.slice v.2.2.1.a v.2.2.1.l v.2.2.1.c]
structure WdOk (A:Nat->Prop) (w:World) (s:Sl) (l:List Int):Prop where
 is:IsS (Value.int .u32) w s l
 loc:∀y,s.a=some y->A y.block/\y.block<w.heap.size
section
variable {A A':Nat->Prop} {w w':World} {s:Sl} {l:List Int}
theorem WdOk.keep(h:WdOk A w s l)(hk:∀b,A b->b<w.heap.size->w'.heap[b]? =w.heap[b]?/\A' b)(hs:w.heap.size<=w'.heap.size):WdOk A' w' s l:=
 ⟨h.is.of_block λa ha hlt=>(hk _ (h.loc a ha).1 hlt).1,λy hy=>⟨(hk _ (h.loc y hy).1 (h.loc y hy).2).2,by have:=(h.loc y hy).2;omega⟩⟩
theorem WdOk.below(h:WdOk A w s l)(hb:Below w.heap.size w w'):WdOk A w' s l:=h.keep (λb h1 h2=>⟨hb.block b h2,h1⟩) hb.size
theorem WdOk.mono(h:WdOk A w s l)(hA:∀b,A b->b<w.heap.size->A' b):WdOk A' w s l:=h.keep (λb h1 h2=>⟨rfl,hA b h1 h2⟩) (Nat.le_refl _)
theorem WdOk.nil(A:Nat->Prop)(w:World):WdOk A w ⟨none,0,0⟩ []:=⟨nilS _ w,λy hy=>by cases hy⟩
theorem WdOk.blk{b:Nat}(hB:Blk w b 22 (l.map (Value.int .u32)))(hA:A b)(hl:l.length<=9223372036854775807):WdOk A w ⟨some (Gk.blk b),l.length,l.length⟩ l:=
 ⟨⟨rfl,Nat.le_refl _,hl,λe=>(by cases e),λa ha i hi=>(by cases ha;exact hB.cell (by rw[List.getElem?_map,List.getElem?_eq_getElem hi];rfl))⟩,λy hy=>by cases hy;exact⟨hA,hB.lt⟩⟩
theorem WdOk.own(h:Own w 22 1 s (l.map (Value.int .u32)))(hA:∀y,s.a=some y->A y.block):WdOk A w s l:=
 ⟨h.isS,λy hy=>⟨hA y hy,(h.lt hy).2⟩⟩
end
structure CvOk (A:Nat->Prop) (w:World) (v:Cv) (c:Cn):Prop where
 ty:v.1=c.1
 wd:WdOk A w v.2.1 c.2
structure VvOk (A:Nat->Prop) (w:World) (v:Vv) (c:Vn):Prop where
 cl:v.1=c.1
 ty:v.2.1=c.2.1
 wd:WdOk A w v.2.2.1 c.2.2
def IsCn(w:World)(A:Nat->Prop)(r:Nat)(C:CnL):Prop:=∃V:List (Int×Cv),IsMq w r (aggQ cvK) V/\Al2 (λa c=>a.1=c.1/\CvOk A w a.2 c.2) V C
def IsVn(w:World)(A:Nat->Prop)(r:Nat)(C:VnL):Prop:=∃V:List (Int×Vv),IsMq w r (aggQ vvK) V/\Al2 (λa c=>a.1=c.1/\VvOk A w a.2 c.2) V C
section
variable {A A':Nat->Prop} {w w':World} {r:Nat} {C:CnL} {D:VnL}
theorem IsCn.keep(h:IsCn w A r C)(hr:w'.heap[r]? =w.heap[r]?)(hk:∀b,A b->b<w.heap.size->w'.heap[b]? =w.heap[b]?/\A' b)(hs:w.heap.size<=w'.heap.size):IsCn w' A' r C:=by
 obtain⟨V,h1,h2⟩:=h
 exact⟨V,h1.of_block hr,allR (λa c q=>⟨q.1,q.2.ty,q.2.wd.keep hk hs⟩) h2⟩
theorem IsVn.keep(h:IsVn w A r D)(hr:w'.heap[r]? =w.heap[r]?)(hk:∀b,A b->b<w.heap.size->w'.heap[b]? =w.heap[b]?/\A' b)(hs:w.heap.size<=w'.heap.size):IsVn w' A' r D:=by
 obtain⟨V,h1,h2⟩:=h
 exact⟨V,h1.of_block hr,allR (λa c q=>⟨q.1,q.2.cl,q.2.ty,q.2.wd.keep hk hs⟩) h2⟩
theorem IsCn.lt(h:IsCn w A r C):r<w.heap.size:=by obtain⟨V,h1,_⟩:=h;exact h1.lt
theorem IsVn.lt(h:IsVn w A r D):r<w.heap.size:=by obtain⟨V,h1,_⟩:=h;exact h1.lt
theorem IsCn.below(h:IsCn w A r C)(hb:Below w.heap.size w w'):IsCn w' A r C:=h.keep (hb.block r h.lt) (λb h1 h2=>⟨hb.block b h2,h1⟩) hb.size
theorem IsVn.below(h:IsVn w A r D)(hb:Below w.heap.size w w'):IsVn w' A r D:=h.keep (hb.block r h.lt) (λb h1 h2=>⟨hb.block b h2,h1⟩) hb.size
theorem uCn:Tryz.prog.underlying 85=some (.map 22 155):=by kernel_rfl
theorem uVn:Tryz.prog.underlying 86=some (.map 22 157):=by kernel_rfl
theorem zCn:∃i,Tryz.prog.info? 155=some i/\i.zero=some (aggQ cvK cv0):=by
 have h:(Tryz.prog.info? 155).map (·.zero)=some (some (aggQ cvK cv0)):=by kernel_rfl
 cases hi:Tryz.prog.info? 155 with
 |none=>rw[hi]at h;cases h
 |some i=>rw[hi]at h;exact⟨i,rfl,by injection h⟩
theorem zVn:∃i,Tryz.prog.info? 157=some i/\i.zero=some (aggQ vvK vv0):=by
 have h:(Tryz.prog.info? 157).map (·.zero)=some (some (aggQ vvK vv0)):=by kernel_rfl
 cases hi:Tryz.prog.info? 157 with
 |none=>rw[hi]at h;cases h
 |some i=>rw[hi]at h;exact⟨i,rfl,by injection h⟩
theorem IsCn.looked(h:IsCn w A r C)(id:Int):∃V:List (Int×Cv),IsMq w r (aggQ cvK) V/\(zC V id).isSome=(zC C id).isSome/\CvOk A w ((zC V id).getD cv0) ((zC C id).getD (0,[])):=by
 obtain⟨V,h1,h2⟩:=h
 refine⟨V,h1,?_⟩
 rcases zrd h2 (id:=id) with⟨e1,e2⟩ | ⟨v,t,e1,e2,e3⟩
 ·rw[e1,e2]
  exact⟨rfl,rfl,WdOk.nil A w⟩
 ·rw[e1,e2]
  exact⟨rfl,e3⟩
theorem IsVn.looked(h:IsVn w A r D)(id:Int):∃V:List (Int×Vv),IsMq w r (aggQ vvK) V/\(zC V id).isSome=(zC D id).isSome/\VvOk A w ((zC V id).getD vv0) ((zC D id).getD (0,0,[])):=by
 obtain⟨V,h1,h2⟩:=h
 refine⟨V,h1,?_⟩
 rcases zrd h2 (id:=id) with⟨e1,e2⟩ | ⟨v,t,e1,e2,e3⟩
 ·rw[e1,e2]
  exact⟨rfl,rfl,rfl,WdOk.nil A w⟩
 ·rw[e1,e2]
  exact⟨rfl,e3⟩
theorem IsCn.lookOk(h:IsCn w A r C){id:Int}{φ:HL cvK->Bool->Prop}(hφ:∀v:Cv,CvOk A w v ((zC C id).getD (0,[]))->φ v (zC C id).isSome):zgH Tryz.prog 85 (.map (some r)) (.int .u32 id) cvK w φ:=by
 obtain⟨V,h1,h2,h3⟩:=h.looked id
 exact zls (ks:=cvK) (d:=cv0) uCn Tryz.underlying22 zCn h1 (by have h4:=hφ _ h3;rw[<-h2]at h4;exact h4)
theorem IsVn.lookOk(h:IsVn w A r D){id:Int}{φ:HL vvK->Bool->Prop}(hφ:∀v:Vv,VvOk A w v ((zC D id).getD (0,0,[]))->φ v (zC D id).isSome):zgH Tryz.prog 86 (.map (some r)) (.int .u32 id) vvK w φ:=by
 obtain⟨V,h1,h2,h3⟩:=h.looked id
 exact zls (ks:=vvK) (d:=vv0) uVn Tryz.underlying22 zVn h1 (by have h4:=hφ _ h3;rw[<-h2]at h4;exact h4)
end
structure IsPq (w:World) (B pb:Nat) (A:Nat->Prop) (T:TyL) (C:CnL):Prop where
 ex:∃(tb r r2:Nat) (o1 o2:Sl),Blk w pb 88 [.pointer (some (Gk.blk tb)),.slice o1.a o1.l o1.c,.map (some r),.slice o2.a o2.l o2.c,.map (some r2)]/\IsTb w B tb T/\IsCn w A r C
theorem IsPq.below{w w':World}{B pb:Nat}{A:Nat->Prop}{T:TyL}{C:CnL}(h:IsPq w B pb A T C)(hb:Below w.heap.size w w'):IsPq w' B pb A T C:=by
 obtain⟨tb,r,r2,o1,o2,h1,h2,h3⟩:=h
 exact⟨tb,r,r2,o1,o2,h1.below hb,h2.below hb,h3.below hb⟩
theorem IsPq.drew{w:World}{B pb:Nat}{A:Nat->Prop}{T:TyL}{C:CnL}(h:IsPq w B pb A T C):IsPq w.drew B pb A T C:=h.below (Below.refl _ _).drew
section
variable {w:World} {B pb id ty:Nat} {A:Nat->Prop} {T:TyL} {C:CnL} {R:VWP}
theorem zqj{s:Sl}{l:List Int}{n:Int}(h:IsS (Value.int .u8) w s l)(hR:R (.bool (l.contains n)) w) :
  cR 136 #[.slice s.a s.l s.c,.int .u8 n] w R:=by
 refine za.of (Yn s n R w ?_) λ_ _ h=>h
 refine za.of (YZ s n _ w ?_) λ_ _ h=>h
 have hl:=h.len
 refine zl.count l.length h.bound (λk w'=>w'=w/\∀j (hj:j<l.length),j<k->l[j]≠n) ⟨rfl,λj hj hk=>absurd hk (by omega)⟩ ?_
 rintro k _ hk ⟨rfl,hn⟩ next hnext
 refine zj (λhlt=>?_) (λhge=>⟨_,rfl,?_⟩)
 ·have hlt:k<l.length:=by dsimp only at hlt;omega
  refine h.addr hlt λa _ hc=>⟨l[k],by simpa using hc,zk (λe=>⟨_,rfl,?_⟩) (λe=>hnext _ hlt ⟨rfl,λj hj hjk=>?_⟩)⟩
  ·have e0:decide ((k:Int)≥0)=l.contains n:=by
    have:l.contains n=true:=List.contains_iff_mem.2 (e▸List.getElem_mem hlt)
    rw[this]
    simp
   rw[<-e0]at hR
   exact hR
  ·by_cases e':j=k
   ·subst e';exact λh=>e h.symm
   ·exact hn j hj (by omega)
 ·have e0:l.contains n=false:=by
   cases hc:l.contains n with
   |false=>rfl
   |true=>
    obtain⟨j,hj,e⟩:=List.mem_iff_getElem.1 (List.contains_iff_mem.1 hc)
    exact absurd e (hn j hj (by dsimp only at hge;omega))
  rw[e0]at hR
  exact hR
theorem zhE{ty:Int}{s:Sl}{l:List Int}(h:IsPq w B pb A T C)(hs:IsS (Value.int .u8) w s l)(hR:∀w',Below w.heap.size w w'->R (.bool (l.contains (tA T ty).kind)) w') :
  cR 103 #[.pointer (some (blk pb)),.int .u32 ty,.slice s.a s.l s.c] w R:=by
 refine za.of (zel _ ty s R w ?_) λ_ _ h=>h
 obtain⟨tb,r,r2,o1,o2,h1,h2,h3⟩:=h
 refine ze rfl ⟨_,h1.cell0 rfl,zd9 h2 λw1 b1=>⟨_,rfl,zqj (hs.below b1) ⟨_,rfl,hR w1 b1⟩⟩⟩
theorem zrj{id ty:Int}(h:IsPq w B pb A T C)(hR:∀w' s,WdOk A w' s (ofC C id ty).1->Below w.heap.size w w'->R (.tuple #[.slice s.a s.l s.c,.int .i64 (ofC C id ty).2]) w') :
  cR 106 #[.pointer (some (blk pb)),.int .u32 id,.int .u32 ty] w R:=by
 refine za.of (zfY _ id ty R w ?_) λ_ _ h=>h
 obtain⟨tb,r,r2,o1,o2,h1,h2,h3⟩:=h
 refine ze rfl ⟨_,h1.cell (n:=2) rfl,h3.lookOk λv hv=>?_⟩
 refine box2 rfl λw1 hB1 b1 z1=>?_
 unfold ofC at hR
 cases hl:zC C id with
 |none=>
  rw[hl]at hR
  exact zR rfl (hR w1 ⟨none,0,0⟩ (WdOk.nil A w1) b1)
 |some c=>
  rw[hl]at hR hv
  have hv:CvOk A w v c:=hv
  dsimp only at hR
  refine zJ rfl (hB1.rI0 rfl (zy (λe=>?_) (λe=>hB1.rS (n:=1) (x:=v.2.1) rfl ?_)))
  ·rw[if_pos (by rw[hv.ty]at e;exact e)]at hR
   exact hR w1 ⟨none,0,0⟩ (WdOk.nil A w1) b1
  ·rw[if_neg (λq=>q (by rw[hv.ty]at e;exact e))]at hR
   exact hR w1 v.2.1 (hv.wd.below b1) b1
end
end Go.Proofs
namespace Go.Proofs
open Go.Gk Go.RowKit Go.Gm
theorem znv{α:Type}{f:α->Value}{w:World}{b:Nat}{T:TypeId}{l:List α}(hB:Blk w b T (l.map f))(hl:l.length<=9223372036854775807):IsS f w ⟨some (Gk.blk b),l.length,l.length⟩ l:=
 ⟨rfl,Nat.le_refl _,hl,λe=>(by cases e),λa ha i hi=>(by cases ha;exact hB.cell (by rw[List.getElem?_map,List.getElem?_eq_getElem hi];rfl))⟩
theorem znZ{P:Program}{t e:TypeId}{sz bytes:Nat}(he:Yq P t e sz bytes){w:World}{s:Sl}{xs:List Value}(h:Own w e sz s xs){c:Nat}{k:Sl->World->Prop}(hk:k s w):zA P t (.slice s.a s.l s.c) (.slice none 0 c) w k:=by
 obtain⟨hu,i,z,hi,rfl,rfl,hz,hzs⟩:=he
 obtain⟨hx,h2⟩:=h
 rcases h2 with rfl | ⟨b,cs,ha,hB,hc,hcm,hcs,htk⟩
 ·refine⟨⟨none,0,0⟩,w,?_,hk⟩
  simp[Builtin.append_,run_underlying hu,sizeOf,typeInfo,hi,Builtin.lenOf,Builtin.firstCells,Sl.v]
 ·obtain⟨sa,sl,sc⟩:=s
  dsimp only at ha hc
  subst ha
  refine⟨⟨some (blk b),sl,sc⟩,w,?_,hk⟩
  simp[Builtin.append_,run_underlying hu,sizeOf,typeInfo,hi,Builtin.lenOf,Builtin.firstCells,Sl.v,hc,storeCells]
theorem zvt{w:World}{n:Nat}(hn:n<=4294967296){K:World->Prop}(hK:∀w',Blk w' w.heap.size 22 (List.replicate n (.int .u32 0))->Below w.heap.size w w'->K w') :
  (0<=(n:Int)/\(n:Int)<=(n:Int)/\(4:Int)*(n:Int)<=281474976710656/\(n:Int)<=9223372036854775807)/\Nw (w.alloc (.cells (madeCells #[(.int .u32 (0:Int))] ((Int.toNat (n:Int))*1)) 22)) K:=
 ⟨⟨by omega,by omega,by omega,by omega⟩,Nw.gen λw' e=>hK w' (by rw[e];exact Blk.made w _ _ n) (by rw[e];exact(Below.refl _ _).alloc (Nat.le_refl _) _)⟩
def MkR(R:VWP)(w:World)(p:List Int×Int):Prop:=∀w' s,WdOk (λb=>w.heap.size<=b) w' s p.1->Below w.heap.size w w'->R (.tuple #[.slice s.a s.l s.c,.int .i64 p.2]) w'
section
variable {w:World} {B pb k:Nat} {A:Nat->Prop} {T:TyL} {C:CnL} {R:VWP} {pl:List PI} {t:Sl} {bd:Int}
theorem zvw(n:Nat):(List.replicate n (0:Int)).map (Value.int .u32)=List.replicate n (Value.int .u32 0):=List.map_replicate ..
theorem zlI{x:Ins}(h:IsPq w B pb A T C)(hT:TbOk T)(hR:MkR R w (if (tA T x.2.1).size=0 then([],100) else(List.replicate (tA T x.2.1).size 0,0))) :
  cR 62 #[.pointer (some (blk pb)),inA x] w R:=by
 refine za.of (zdc _ x R w ?_) λ_ _ h=>h
 refine zm λw1 hI1 b1 z1=>?_
 have hI1:Blk w1 w.heap.size 44 (inV x):=hI1
 obtain⟨tb,r,r2,o1,o2,h1,h2,h3⟩:=(h.below b1).drew
 refine ze rfl ⟨_,h1.cell0 rfl,hI1.drew.rI (n:=1) rfl (znL h2 λw2 b2=>⟨_,rfl,?_⟩)⟩
 have b02:=(b1.drew).on b2
 refine zI (zj (λg=>?_) (λg=>?_))
 ·rw[if_neg (by omega)]at hR
  refine ze rfl ⟨_,(h1.below b2).drew.cell0 rfl,(hI1.drew.below b2).drew.rI (n:=1) rfl (zg5 ((h2.below b2).below (Below.refl _ _).drew) λw3 b3=>⟨_,rfl,zvt (by have:=zj5 hT x.2.1;omega) λw4 h4 b4=>?_⟩)⟩
  have b24:=(b02.drew).on (b3.on b4)
  have:=hR w4 ⟨some (blk w3.heap.size),(tA T x.2.1).size,(tA T x.2.1).size⟩ (by
   have q:=WdOk.blk (A:=λb=>w.heap.size<=b) (l:=List.replicate (tA T x.2.1).size 0) (b:=w3.heap.size) (w:=w4) (by rw[zvw];exact h4) (by have:=b02.size;have:=b3.size;show w.heap.size<=w3.heap.size;exact Nat.le_trans ‹_› ‹_›) (by rw[List.length_replicate];have:=zj5 hT x.2.1;omega)
   rw[List.length_replicate]at q
   exact q) b24
  rw[Int.toNat_natCast]
  exact this
 ·rw[if_pos (by omega)]at hR
  exact hR w2 ⟨none,0,0⟩ (WdOk.nil _ _) b02
theorem one8{w:World}{v:Int}{K:World->Prop}(hK:∀w',IsS (Value.int .u8) w' ⟨some (blk w.heap.size),1,1⟩ [v]->Below w.heap.size w w'->K w'):Nw (w.alloc (.cells #[.int .u8 v] 5)) K:=
 zm λw1 h1 b1 _=>hK w1 (znv (l:=[v]) h1 (by simp)) b1
theorem zod{x:Ins}(h:IsPq w B pb A T C)(hR:MkR R w (if (tA T x.2.1).kind≠2 then([],100) else(if x.1=41 then [1] else [0],0))) :
  cR 63 #[.pointer (some (blk pb)),inA x] w R:=by
 refine za.of (zem _ x R w ?_) λ_ _ h=>h
 refine zm λw1 hI1 b1 z1=>?_
 have hI1:Blk w1 w.heap.size 44 (inV x):=hI1
 refine hI1.rI (n:=1) (x:=x.2.1) rfl ?_
 refine one8 λw2 hS b2=>?_
 refine zhE (s:=⟨some (blk w1.heap.size),1,1⟩) (h.below (b1.on b2)) hS λw3 b3=>?_
 refine⟨_,rfl,?_⟩
 have b03:=(b1.on b2).on b3
 refine zI (zz (λg=>?_) (λg=>?_))
 ·have g:(tA T x.2.1).kind=2:=by simpa using g
  rw[if_neg (λq=>q g)]at hR
  refine((hI1.below b2).below b3).rI0 rfl (zk (λe=>?_) (λe=>?_))
  all_goals
   refine zm λw4 h4 b4 z4=>?_
  ·have e:x.1=41:=e
   rw[if_pos e]at hR
   exact hR w4 _ (WdOk.blk (l:=[1]) h4 b03.size (by simp)) (b03.on b4)
  ·have e:¬x.1=41:=e
   rw[if_neg e]at hR
   exact hR w4 _ (WdOk.blk (l:=[0]) h4 b03.size (by simp)) (b03.on b4)
 ·have g:¬(tA T x.2.1).kind=2:=by simpa using g
  rw[if_pos g]at hR
  exact hR w3 ⟨none,0,0⟩ (WdOk.nil _ _) b03
theorem zmY{x:Ins}{al:List Ag}(h:IsPq w B pb A T C)(ha:IsAg w x.2.2.2.1 al)(hl:(tA T x.2.1).kind=3->0<al.length)(hR:MkR R w (if (tA T x.2.1).kind≠3 then([],100) else([(al.getD 0 ag0).2.1],0))) :
  cR 64 #[.pointer (some (blk pb)),inA x] w R:=by
 refine za.of (zdD _ x R w ?_) λ_ _ h=>h
 refine zm λw1 hI1 b1 z1=>?_
 have hI1:Blk w1 w.heap.size 44 (inV x):=hI1
 refine hI1.rI (n:=1) (x:=x.2.1) rfl ?_
 refine one8 λw2 hS b2=>?_
 refine zhE (s:=⟨some (blk w1.heap.size),1,1⟩) (h.below (b1.on b2)) hS λw3 b3=>?_
 refine⟨_,rfl,?_⟩
 have b03:=(b1.on b2).on b3
 refine zI (zz (λg=>?_) (λg=>?_))
 ·have g:(tA T x.2.1).kind=3:=by simpa using g
  rw[if_neg (λq=>q g)]at hR
  have hl:=hl g
  refine((hI1.below b2).below b3).rS (n:=3) (x:=x.2.2.2.1) rfl ?_
  have ha3:IsAg w3 x.2.2.2.1 al:=IsC.below zG ha b03
  obtain⟨a,he⟩:=ha3.base hl
  have hc:=ha3.cell a he 0 hl 1 (by decide)
  refine⟨⟨by decide,by have:=ha3.len;omega⟩,ze he ⟨al[0].2.1,by rw[zn];exact hc,zm λw4 h4 b4 z4=>?_⟩⟩
  rw[zp hl]at hR
  exact hR w4 _ (WdOk.blk (l:=[al[0].2.1]) h4 b03.size (by simp)) (b03.on b4)
 ·have g:¬(tA T x.2.1).kind=3:=by simpa using g
  rw[if_pos g]at hR
  exact hR w3 ⟨none,0,0⟩ (WdOk.nil _ _) b03
end
end Go.Proofs
namespace Go.Proofs
open Go.Gk Go.RowKit Go.Gm
theorem Wl.app{w0 w:World}{r s:Sl}{D l:List Int}(h:Wl w0 w r D)(hs:IsS (Value.int .u32) w s l)(hl:D.length+l.length<=4398046511104){k:Sl->World->Prop}(hk:∀r' w',Wl w0 w' r' (D++l)->(∀b T cs,22≠T->Blk w b T cs->Blk w' b T cs)->k r' w') :
  zA Tryz.prog 56 (.slice r.a r.l r.c) (.slice s.a s.l s.c) w k:=by
 obtain⟨sa,sl,sc⟩:=s
 have hl1:sl=l.length:=hs.len
 have hl2:=h.len
 cases sa with
 |none=>
  have hc:sc=0:=hs.nil rfl
  have h2:sl<=sc:=hs.cap
  have h0:sl=0:=by omega
  subst h0
  have hnil:l=[]:=List.eq_nil_of_length_eq_zero hl1.symm
  subst hnil
  exact znZ eU32 h.own (hk r w (by rw[List.append_nil];exact h) λb T cs _ q=>q)
 |some a=>
  refine yV eU32 h.own (m:=sl) (news:=l.map (Value.int .u32)) (by rw[List.length_map];omega) (λj u hj=>?_) (λu hu=>by obtain⟨x,_,rfl⟩:=List.mem_map.1 hu;rfl) (by omega) (by omega) λr' w' h1 hl' hg=>?_
  ·have hjl:j<l.length:=by have:=(List.getElem?_eq_some_iff.1 hj).1;rwa[List.length_map]at this
   rw[List.getElem?_map,List.getElem?_eq_getElem hjl]at hj
   cases hj
   exact hs.cell a rfl j hjl
  ·rw[<-List.map_append]at h1
   rcases hg with⟨e1,e2,e3⟩ | ⟨b',h3,h4,h5⟩
   ·subst e2
    refine hk r' w' ⟨h1,λa ha=>(by rw[e1]at ha;cases ha),h.below⟩ λb T cs _ q=>q
   ·have hbb:w0.heap.size<=b':=by
     rcases h4 with h4 |h4
     ·exact h.fr _ h4
     ·have:=h.below.size
      omega
    refine hk r' w' ⟨h1,λa ha=>(by rw[h3]at ha;cases ha;exact hbb),h.below.trans (zW h5 hbb h.below.size)⟩ λb T cs hne hB=>hB.of_block (h5.block _ hB.lt λe=>?_)
    have e:=Option.some.inj e
    subst e
    rcases h4 with h4 |h4
    ·exact ym h.own hB hne h4
    ·have:=hB.lt
     omega
section
variable {w:World} {B pb k:Nat} {A:Nat->Prop} {T:TyL} {C:CnL} {R:VWP} {pl:List PI} {t:Sl} {bd:Int}
theorem zoe{j:Nat}(h:(catC T C pl k j).2=0)(he:(ofC C (agI pl k j) ((tA T (ix pl k).2.1).prt (j:Int)).1).2≠0):∀n,j<n->catC T C pl k n=([],(ofC C (agI pl k j) ((tA T (ix pl k).2.1).prt (j:Int)).1).2)
 | 0,hn=>by omega
 |n+1,hn=>by
  by_cases e:j=n
  ·subst e
   show(if (catC T C pl k j).2≠0 then _ else if _≠0 then _ else _)=_
   rw[if_neg (λq=>q h),if_pos he]
  ·have ih:=zoe h he n (by omega)
   show(if (catC T C pl k n).2≠0 then catC T C pl k n else if _≠0 then _ else _)=_
   rw[ih,if_pos he]
theorem zr8{j:Nat}(h:(catC T C pl k j).2=0)(he:(ofC C (agI pl k j) ((tA T (ix pl k).2.1).prt (j:Int)).1).2=0):catC T C pl k (j+1)=((catC T C pl k j).1++(ofC C (agI pl k j) ((tA T (ix pl k).2.1).prt (j:Int)).1).1,0):=by
 show(if (catC T C pl k j).2≠0 then _ else if _≠0 then _ else _)=_
 rw[if_neg (λq=>q h),if_neg (λq=>q he)]
set_option maxHeartbeats 1000000 in
theorem zkd(h:IsPq w B pb A T C)(hT:TbOk T)(hk:k<pl.length)(ht:IsAg w t pl[k].2.2.2)(hn:pl[k].2.2.2.length<=65535)(hL:∀id c,zC C id=some c->c.2.length<=4096)
  (hR:MkR R w (if ¬(4<=(tA T (ix pl k).2.1).kind/\(tA T (ix pl k).2.1).kind<=6) then([],100) else if (ix pl k).2.2.2.length≠(tA T (ix pl k).2.1).cnt then([],111) else catC T C pl k (ix pl k).2.2.2.length)) :
  cR 65 #[.pointer (some (blk pb)),inA (mkIn pl[k] t)] w R:=by
 refine za.of (zcn _ (mkIn pl[k] t) R w ?_) λ_ _ h=>h
 have hix:=zH hk
 refine zm λw1 hI1 b1 z1=>?_
 have hI1:Blk w1 w.heap.size 44 (inV (mkIn pl[k] t)):=hI1
 refine hI1.rI (n:=1) (x:=pl[k].2.1) rfl ?_
 refine zm λw2 hS b2 z2=>?_
 have hS:IsS (Value.int .u8) w2 ⟨some (blk w1.heap.size),3,3⟩ [4,5,6]:=znv (l:=[4,5,6]) hS (by simp)
 refine zhE (s:=⟨some (blk w1.heap.size),3,3⟩) (h.below (b1.on b2)) hS λw3 b3=>?_
 refine⟨_,rfl,?_⟩
 have b03:=(b1.on b2).on b3
 have hI3:=(hI1.below b2).below b3
 have eK:([4,5,6]:List Int).contains (tA T pl[k].2.1).kind=decide (4<=(tA T (ix pl k).2.1).kind/\(tA T (ix pl k).2.1).kind<=6):=by
  rw[hix]
  generalize (tA T pl[k].2.1).kind=q
  rw[Bool.eq_iff_iff,List.contains_iff_mem,decide_eq_true_eq]
  simp only[List.mem_cons,List.not_mem_nil,or_false]
  omega
 rw[eK]
 refine zI (zj (λg=>?_) (λg=>?_))
 rotate_left
 ·rw[if_pos g]at hR
  exact hR w3 ⟨none,0,0⟩ (WdOk.nil _ _) b03
 rw[if_neg (λq=>q g)]at hR
 have P3:=(h.below b03).drew
 have P3':=P3
 obtain⟨tb,r,r2,o1,o2,h1,h2,h3⟩:=P3'
 refine hI3.drew.rS (n:=3) (x:=t) rfl (ze rfl ⟨_,h1.cell0 rfl,hI3.drew.rI (n:=1) (x:=pl[k].2.1) rfl (znK h2 hT λw4 b4=>?_)⟩)
 have b04:=(b03.drew).on b4
 have hI4:=hI3.drew.below b4
 refine⟨_,rfl,hI4.cell (n:=3) rfl,?_⟩
 have ht4:IsAg w4 t pl[k].2.2.2:=IsC.below zG ht b04
 have htl:=ht4.len
 have eL:(ix pl k).2.2.2=pl[k].2.2.2:=by rw[hix]
 rw[eL]at hR
 have eT:(ix pl k).2.1=pl[k].2.1:=by rw[hix]
 refine zy (λg2=>?_) (λg2=>?_)
 ·rw[if_pos (by rw[eT];omega)]at hR
  exact hR w4 ⟨none,0,0⟩ (WdOk.nil _ _) b04
 rw[if_neg (by rw[eT];omega)]at hR
 refine hI4.rS (n:=3) (x:=t) rfl ?_
 refine zl.ghost (λm (st:Sl×Int×Unit) w'=>∃(r:Sl) (j:Nat),st=(r,(j:Int),())/\j<=pl[k].2.2.2.length/\m=pl[k].2.2.2.length-j/\(catC T C pl k j).2=0/\Wl w4 w' r (catC T C pl k j).1/\Blk w' w.heap.size 44 (inV (mkIn pl[k] t))) pl[k].2.2.2.length ⟨⟨none,0,0⟩,0,rfl,Nat.zero_le _,rfl,rfl,Wl.nil w4,hI4⟩ ?_
 rintro _ _ w5 ⟨r,j,rfl,hj,rfl,hj0,hW,hI5⟩ next hnext
 have b05:=b04.on hW.below
 refine zj (λg=>?_) (λg=>?_)
 ·have hjl:j<pl[k].2.2.2.length:=by dsimp only at g;omega
  have eA:agI pl k j=pl[k].2.2.2[j].2.1:=by
   unfold agI
   rw[eL,zp hjl]
  refine zjm (IsC.below zG ht b05) hjl (box3 rfl λw9 h9 b9 z9=>?_)
  obtain⟨tb',r',r2',o1',o2',p1,p2,p3⟩:=((h.below b05).below b9).drew
  have hI9:=hI5.below b9
  refine ze rfl ⟨_,p1.cell0 rfl,hI9.drew.rI (n:=1) (x:=pl[k].2.1) rfl (zg4 p2 hT λw10 b10=>?_)⟩
  refine⟨_,_,rfl,(h9.drew.below b10).rI (n:=1) (x:=pl[k].2.2.2[j].2.1) rfl ?_⟩
  have b510:=((b9.drew).on b10)
  refine zrj (h.below (b05.on b510)) λw11 s hs b11=>?_
  rw[<-eT,<-eA]at hs⊢
  refine⟨s,_,rfl,zy (λhe=>?_) (λhe=>?_)⟩
  ·have:=zoe hj0 he _ hjl
   rw[this]at hR
   exact hR w11 ⟨none,0,0⟩ (WdOk.nil _ _) ((b05.on b510).on b11)
  ·have hlen:=zmj (T:=T) (pl:=pl) (k:=k) hL j
   have hlen2:=zpe hL (agI pl k j) ((tA T (ix pl k).2.1).prt (j:Int)).1
   have hmul:j*4096<=65535*4096:=Nat.mul_le_mul_right _ (by omega)
   have hsum:(catC T C pl k j).1.length+(ofC C (agI pl k j) ((tA T (ix pl k).2.1).prt (j:Int)).1).1.length<=4398046511104:=by omega
   refine((hW.on b510).on b11).app hs.is hsum λr' w12 hW12 hkeep=>?_
   dsimp only
   rw[zE (by omega)]
   refine hnext (pl[k].2.2.2.length-(j+1)) _ w12 (by omega) ⟨r',j+1,rfl,by omega,rfl,?_⟩
   rw[zr8 hj0 he]
   exact⟨rfl,hW12,hkeep _ _ _ (by decide) ((hI9.drew.below b10).below b11)⟩
 ·have hje:j=pl[k].2.2.2.length:=by dsimp only at g;omega
  subst hje
  have:=hR w5 r (WdOk.own hW.own λy hy=>Nat.le_trans b04.size (hW.fr y hy)) b05
  rw[hj0]at this
  exact this
theorem IsPq.low(h:IsPq w B pb A T C):IsPq w B pb (λb=>A b/\b<w.heap.size) T C:=by
 obtain⟨tb,r,r2,o1,o2,h1,h2,h3⟩:=h
 exact⟨tb,r,r2,o1,o2,h1,h2,h3.keep rfl (λb q1 q2=>⟨rfl,q1,q2⟩) (Nat.le_refl _)⟩
def HdR(R:VWP)(w:World)(A:Nat->Prop)(p:Vn×Int):Prop:=∀w' v,VvOk (λb=>A b\/w.heap.size<=b) w' v p.1->Below w.heap.size w w'->R (.tuple #[.agg #[.int .u32 v.1,.int .u32 v.2.1,.slice v.2.2.1.a v.2.2.1.l v.2.2.1.c],.int .i64 p.2]) w'
theorem VvOk.nil(A:Nat->Prop)(w:World):VvOk A w vv0 (0,0,[]):=⟨rfl,rfl,WdOk.nil A w⟩
theorem Vv.load{b:Nat}{Ty:TypeId}{v:Vv}(h:Blk w b Ty (vvV v)){φ:Int->Int->Sl->Prop}(hφ:φ v.1 v.2.1 v.2.2.1):ldI w ((blk b).add 0) .u32 λx1=>ldI w ((blk b).add 1) .u32 λx2=>ldS w ((blk b).add 2) λx3=>φ x1 x2 x3:=
 ⟨_,h.cell (n:=0) rfl,_,h.cell (n:=1) rfl,_,h.cell (n:=2) rfl,hφ⟩
theorem zpV(h:IsPq w B pb A T C)(hT:TbOk T)(hk:k<pl.length)(ht:IsAg w t pl[k].2.2.2)(hn:1<=pl[k].2.2.2.length)(hR:HdR R w A (varC T C pl k)) :
  cR 66 #[.pointer (some (blk pb)),inA (mkIn pl[k] t)] w R:=by
 refine za.of (zek _ (mkIn pl[k] t) R w ?_) λ_ _ h=>h
 have hix:=zH hk
 have eL:(ix pl k).2.2.2=pl[k].2.2.2:=by rw[hix]
 have eT:(ix pl k).2.1=pl[k].2.1:=by rw[hix]
 refine zm λw1 hI1 b1 z1=>?_
 have hI1:Blk w1 w.heap.size 44 (inV (mkIn pl[k] t)):=hI1
 refine zm λw2 hO2 b2 z2=>?_
 have hO2:Blk w2 w1.heap.size 157 (vvV vv0):=hO2
 have b02:=b1.on b2
 have h02:=(h.below b02).drew
 have h02':=h02
 obtain⟨tb,r,r2,o1,o2,q1,q2,q3⟩:=h02'
 refine ze rfl ⟨_,q1.cell0 rfl,(hI1.below b2).drew.rI (n:=1) (x:=pl[k].2.1) rfl (znJ q2 λw3 b3=>?_)⟩
 have b03:=(b02.drew).on b3
 have hI3:=(hI1.below b2).drew.below b3
 have hO3:=hO2.drew.below b3
 refine⟨_,_,rfl,?_⟩
 unfold varC at hR
 rw[eL,eT]at hR
 refine zI (zk (λg=>?_) (λg=>?_))
 rotate_left
 ·rw[if_pos g]at hR
  refine st3 hO3 rfl λw6 h6 c6=>Vv.load (v:=vv0) h6 ?_
  exact hR w6 vv0 (VvOk.nil _ _) (c6.below b03 (by omega))
 rw[if_neg (λq=>q g)]at hR
 have ht3:IsAg w3 t pl[k].2.2.2:=IsC.below zG ht b03
 refine hI3.rS (n:=3) (x:=t) rfl ?_
 obtain⟨a,he⟩:=ht3.base hn
 have hc:=ht3.cell a he 0 hn 1 (by decide)
 refine⟨⟨by decide,by have:=ht3.len;omega⟩,ze he ⟨pl[k].2.2.2[0].2.1,by rw[zn];exact hc,?_⟩⟩
 have eC:agI pl k 0=pl[k].2.2.2[0].2.1:=by
  unfold agI
  rw[eL,zp hn]
 rw[<-eC]
 refine box3 rfl λw10 hV10 b10 z10=>?_
 have b010:=b03.on b10
 have h010:=(h.below b010).drew
 obtain⟨tb',r',r2',o1',o2',p1,p2,p3⟩:=h010
 have hI10:=hI3.below b10
 refine ze rfl ⟨_,p1.cell0 rfl,hI10.drew.rI (n:=1) (x:=pl[k].2.1) rfl (zg4 (k:=0) p2 hT λw11 b11=>?_)⟩
 refine⟨_,_,rfl,?_⟩
 have hV11:=hV10.drew.below b11
 refine⟨hV11.wr (n:=1) (by show 1<3;decide),Nw.gen λw12 e12=>?_⟩
 have c12:Chg w3.heap.size w11 w12:=by rw[e12];exact Chg.set _ _ _ _
 have hV12:Blk w12 w3.heap.size 157 (vvV (agI pl k 0,((tA T pl[k].2.1).prt 0).1,⟨none,0,0⟩,())):=by rw[e12];exact hV11.set 1 _
 have b011:=(b010.drew).on b11
 have s03:=b03.size
 have b012:Below w.heap.size w w12:=c12.below b011 (by omega)
 have lt3:w1.heap.size<w3.heap.size:=hO3.lt
 have hI12:Blk w12 w.heap.size 44 (inV (mkIn pl[k] t)):=c12.blk (hI10.drew.below b11) (by omega)
 have hO12:Blk w12 w1.heap.size 157 (vvV vv0):=c12.blk ((hO3.below b10).drew.below b11) (by omega)
 have htl:=ht3.len
 generalize hS:(tA T pl[k].2.1).prt 0=pr at hV12 hR⊢
 refine zo.cut (λ(_:Unit) w'=>w12=w'/\¬((tA T pl[k].2.1).cls≠agI pl k 0\/(1<pl[k].2.2.2.length/\(tA T pl[k].2.1).cls=1))) ?_ ?_
 ·have bad:(tA T pl[k].2.1).cls≠agI pl k 0\/(1<pl[k].2.2.2.length/\(tA T pl[k].2.1).cls=1)->∀w15,Below w.heap.size w w15->R (.tuple #[.agg #[.int .u32 vv0.1,.int .u32 vv0.2.1,.slice vv0.2.2.1.a vv0.2.2.1.l vv0.2.2.1.c],.int .i64 112]) w15:=λg w15 hb=>by
   rw[if_pos g]at hR
   exact hR w15 vv0 (VvOk.nil _ _) hb
  refine hV12.rI0 rfl (zy (λg1=>?_) (λg1=>?_))
  ·exact st3 hO12 rfl λw15 h15 c15=>Vv.load (v:=vv0) h15 (bad (.inl g1) w15 (c15.below b012 (by omega)))
  refine hI12.rS (n:=3) (x:=t) rfl (zj (λg2=>zk (λg3=>?_) (λg3=>⟨rfl,?_⟩)) (λg2=>⟨rfl,?_⟩))
  ·exact st3 hO12 rfl λw15 h15 c15=>Vv.load (v:=vv0) h15 (bad (.inr ⟨by omega,g3⟩) w15 (c15.below b012 (by omega)))
  ·rintro(q |q)
   ·exact q g1
   ·exact g3 q.2
  ·rintro(q |q)
   ·exact q g1
   ·omega
 rintro _ w19 ⟨rfl,g⟩
 rw[if_neg g]at hR
 refine hI12.rS (n:=3) (x:=t) rfl (zk (λg1=>?_) (λg1=>?_))
 ·rw[if_pos (by omega)]at hR
  obtain⟨tb2,r2,r22,o12,o22,u1,u2,u3⟩:=(h.below b012).drew
  refine ze rfl ⟨_,u1.cell0 rfl,hV12.drew.rI (n:=1) rfl (zg5 u2 λw20 b20=>⟨_,rfl,?_⟩)⟩
  have hmx:=zj5 hT pr.1
  refine zvt (n:=(tA T pr.1).size) (by omega) λw21 h21 b21=>?_
  have b1221:=((Below.refl w12.heap.size w12).drew.on b20).on b21
  have hV21:=hV12.below b1221
  rw[zn]
  refine⟨hV21.wr (n:=2) (by show 2<3;decide),Nw.gen λw22 e22=>?_⟩
  have c22:Chg w3.heap.size w21 w22:=by rw[e22];exact Chg.set _ _ _ _
  have hV22:Blk w22 w3.heap.size 157 (vvV (agI pl k 0,pr.1,⟨some (Gk.blk w20.heap.size),Int.toNat ((tA T pr.1).size:Int),Int.toNat ((tA T pr.1).size:Int)⟩,())):=by rw[e22];exact hV21.set 2 _
  have hO22:=c22.blk (hO12.below b1221) (by omega)
  have lt12:=hV12.lt
  have s20:=((Below.refl w12.heap.size w12).drew.on b20).size
  have h22:Blk w22 w20.heap.size 22 (List.replicate (tA T pr.1).size (.int .u32 0)):=c22.blk h21 (by omega)
  refine Vv.load hV22 (st3 hO22 rfl λw25 h25 c25=>Vv.load (v:=(agI pl k 0,pr.1,⟨some (Gk.blk w20.heap.size),Int.toNat ((tA T pr.1).size:Int),Int.toNat ((tA T pr.1).size:Int)⟩,())) h25 ?_)
  have b022:Below w.heap.size w w22:=c22.below (b012.on b1221) (by omega)
  have h25b:Blk w25 w20.heap.size 22 ((List.replicate (tA T pr.1).size (0:Int)).map (Value.int .u32)):=by rw[zvw];exact c25.blk h22 (by omega)
  have q:=WdOk.blk (A:=λb=>A b\/w.heap.size<=b) h25b (.inr (by omega)) (by rw[List.length_replicate];have:=zj5 hT pr.1;omega)
  rw[List.length_replicate]at q
  exact hR w25 (agI pl k 0,pr.1,⟨some (Gk.blk w20.heap.size),Int.toNat ((tA T pr.1).size:Int),Int.toNat ((tA T pr.1).size:Int)⟩,()) ⟨rfl,rfl,q⟩ (c25.below b022 (by omega))
 ·rw[if_neg (by omega)]at hR
  refine hI12.drew.rS (n:=3) (x:=t) rfl ?_
  have ht12:IsAg w12.drew t pl[k].2.2.2:=IsC.below zG ht b012.drew
  have hn1:1<pl[k].2.2.2.length:=by omega
  obtain⟨a2,he2⟩:=ht12.base hn1
  have hc2:=ht12.cell a2 he2 1 hn1 1 (by decide)
  have eC2:agI pl k 1=pl[k].2.2.2[1].2.1:=by
   unfold agI
   rw[eL,zp hn1]
  refine⟨⟨by decide,by omega⟩,ze he2 ⟨pl[k].2.2.2[1].2.1,by rw[zn];exact hc2,hV12.drew.rI (n:=1) rfl ?_⟩⟩
  rw[<-eC2]
  refine zrj ((h.low.below b012).drew) λw26 s hs b26=>⟨s,_,rfl,?_⟩
  have b1226:=(Below.refl w12.heap.size w12).drew.on b26
  have hV26:=hV12.below b1226
  rw[zn]
  refine⟨hV26.wr (n:=2) (by show 2<3;decide),Nw.gen λw27 e27=>?_⟩
  have c27:Chg w3.heap.size w26 w27:=by rw[e27];exact Chg.set _ _ _ _
  have hV27:Blk w27 w3.heap.size 157 (vvV (agI pl k 0,pr.1,s,())):=by rw[e27];exact hV26.set 2 _
  have hO27:=c27.blk (hO12.below b1226) (by omega)
  refine Vv.load hV27 (st3 hO27 rfl λw30 h30 c30=>Vv.load (v:=(agI pl k 0,pr.1,s,())) h30 ?_)
  have b027:Below w.heap.size w w27:=c27.below (b012.on b1226) (by omega)
  have lt12:=hV12.lt
  refine hR w30 (agI pl k 0,pr.1,s,()) ⟨rfl,rfl,?_⟩ (c30.below b027 (by omega))
  refine(hs.keep (w':=w30) (A':=λb=>A b\/w.heap.size<=b) (λb q _=>⟨(c30.block b (by omega)).trans (c27.block b (by omega)),.inl q.1⟩) ?_)
  rw[c30.size,c27.size]
  exact Nat.le_refl _
end
end Go.Proofs
namespace Go.Proofs
open Go.Gk Go.RowKit Go.Gm
abbrev mkF(pb f:Nat):Value:=.func (.func f) #[.pointer (some (Gk.blk pb))] #[]
abbrev mkL(pb:Nat):List (Int×Value):=[(1,mkF pb 62),(46,mkF pb 62),(41,mkF pb 63),(42,mkF pb 63),(43,mkF pb 64),(44,mkF pb 65)]
abbrev zsz(w:World)(r pb:Nat):Prop:=IsMg (κ:=Int) w r (Value.int .u16) BK.raw.v (mkL pb)
theorem uMk:Tryz.prog.underlying 89=some (.map 41 153):=by kernel_rfl
theorem uU16:Tryz.prog.underlying 41=some (.int .u16):=by kernel_rfl
theorem zMk:∃i,Tryz.prog.info? 153=some i/\i.zero=some (BK.raw.v .nilFunc):=by
 have h:(Tryz.prog.info? 153).map (·.zero)=some (some .nilFunc):=by kernel_rfl
 cases hi:Tryz.prog.info? 153 with
 |none=>rw[hi]at h;cases h
 |some i=>rw[hi]at h;exact⟨i,rfl,by injection h⟩
theorem zmX{w:World}{pb:Nat}{R:VWP}(hR:∀w',zsz w' w.heap.size pb->Below w.heap.size w w'->R (.map (some w.heap.size)) w') :
  cR 36 #[.pointer (some (blk pb))] w R:=by
 refine za.of (zdC _ R w ?_) λ_ _ h=>h
 refine Nw.gen λw1 e1=>?_
 have h1:IsMg (κ:=Int) w1 w.heap.size (Value.int .u16) BK.raw.v []:=by rw[e1];exact IsMg.new w _ _
 have b1:Below w.heap.size w w1:=by rw[e1];exact(Below.refl _ _).alloc (Nat.le_refl _) _
 refine zdA (zdL .u16) uMk uU16 h1 rfl rfl λw2 h2 c2=>?_
 refine zdA (zdL .u16) uMk uU16 h2 rfl rfl λw3 h3 c3=>?_
 refine zdA (zdL .u16) uMk uU16 h3 rfl rfl λw4 h4 c4=>?_
 refine zdA (zdL .u16) uMk uU16 h4 rfl rfl λw5 h5 c5=>?_
 refine zdA (zdL .u16) uMk uU16 h5 rfl rfl λw6 h6 c6=>?_
 refine zdA (zdL .u16) uMk uU16 h6 rfl rfl λw7 h7 c7=>?_
 have n:=Nat.le_refl w.heap.size
 exact hR w7 h7 (c7.below (c6.below (c5.below (c4.below (c3.below (c2.below b1 n) n) n) n) n) n)
abbrev Al(E:Nat)(o1 o2:Sl)(b:Nat):Prop:=E<=b/\o1.a≠some (Gk.blk b)/\o2.a≠some (Gk.blk b)
structure Gp (w0 w:World) (tb:Nat) (o1 o2:Sl) (L1 L2:List Int) (C:CnL) (V:VnL):Prop where
 below:Below w0.heap.size w0 w
 sz:w0.heap.size+4<=w.heap.size
 pool:Blk w (w0.heap.size+2) 88 [.pointer (some (Gk.blk tb)),.slice o1.a o1.l o1.c,.map (some w0.heap.size),.slice o2.a o2.l o2.c,.map (some (w0.heap.size+1))]
 own1:Own w 22 1 o1 (L1.map (Value.int .u32))
 own2:Own w 22 1 o2 (L2.map (Value.int .u32))
 fr1:zK (w0.heap.size+4) o1
 fr2:zK (w0.heap.size+4) o2
 ap:∀b,o1.a=some (Gk.blk b)->o2.a≠some (Gk.blk b)
 cn:IsCn w (Al (w0.heap.size+4) o1 o2) w0.heap.size C
 vn:IsVn w (Al (w0.heap.size+4) o1 o2) (w0.heap.size+1) V
 mks:zsz w (w0.heap.size+3) (w0.heap.size+2)
section
variable {w0 w w':World} {tb B:Nat} {o1 o2:Sl} {L1 L2:List Int} {C:CnL} {V:VnL} {T:TyL}
theorem Gp.on(h:Gp w0 w tb o1 o2 L1 L2 C V)(hb:Below w.heap.size w w'):Gp w0 w' tb o1 o2 L1 L2 C V:=
 ⟨h.below.on hb,Nat.le_trans h.sz hb.size,h.pool.below hb,h.own1.below hb,h.own2.below hb,h.fr1,h.fr2,h.ap,h.cn.below hb,h.vn.below hb,h.mks.below hb⟩
theorem Gp.drew(h:Gp w0 w tb o1 o2 L1 L2 C V):Gp w0 w.drew tb o1 o2 L1 L2 C V:=h.on (Below.refl _ _).drew
theorem Gp.pq(h:Gp w0 w tb o1 o2 L1 L2 C V)(hT:IsTb w0 B tb T):IsPq w B (w0.heap.size+2) (Al (w0.heap.size+4) o1 o2) T C:=
 ⟨tb,w0.heap.size,w0.heap.size+1,o1,o2,h.pool,hT.below h.below,h.cn⟩
theorem Gp.new(h:Gp w0 w tb o1 o2 L1 L2 C V){b:Nat}(hb:w.heap.size<=b):Al (w0.heap.size+4) o1 o2 b:=
 ⟨Nat.le_trans h.sz hb,λe=>by have:=(h.own1.lt e).2;have:b<w.heap.size:=this;omega,λe=>by have:=(h.own2.lt e).2;have:b<w.heap.size:=this;omega⟩
theorem zm8{s t:Sl}{T:TypeId}{sz:Nat}{xs:List Value}(h:Own w T sz s xs)(hap:∀b,s.a=some (Gk.blk b)->t.a≠some (Gk.blk b)){a:Addr}(ha:s.a=some a)(e:t.a=some (Gk.blk a.block)):False:=by
 have:=(h.lt ha).1
 exact hap a.block (by rw[ha,this]) e
theorem Gp.push2(h:Gp w0 w tb o1 o2 L1 L2 C V){id:Int}{b:Nat}(hB:Blk w b 22 [.int .u32 id])(hl:L2.length<=4398046511104){K:World->Prop}
  (hK:∀r w',Gp w0 w' tb o1 r L1 (L2++[id]) C V->(∀c T cs,22≠T->c≠w0.heap.size+2->Blk w c T cs->Blk w' c T cs)->(∀s l,WdOk (Al (w0.heap.size+4) o1 o2) w s l->WdOk (Al (w0.heap.size+4) o1 r) w' s l)->w.heap.size<=w'.heap.size->K w') :
  zA Tryz.prog 56 (.slice o2.a o2.l o2.c) (.slice (some (blk b)) 1 1) w λr w8=>zc (some (blk (w0.heap.size+2))) λa=>Wr w8 (a.add 3)/\Nw (w8.setCell (a.add 3) (.slice r.a r.l r.c)) K:=by
 have hlo:=h.own2.1
 rw[List.length_map]at hlo
 have hsz:=h.sz
 refine zgM eU32 h.own2 (vs:=[.int .u32 id]) rfl (λu hu=>by rw[List.mem_singleton.1 hu];rfl) hB (by omega) (by omega) λr w8 b' hO ha hb' hbel hkeep=>?_
 have hge:w0.heap.size+4<=b':=by
  rcases hb' with e |e
  ·exact h.fr2 _ e
  ·omega
 have hs8:w.heap.size<=w8.heap.size:=(hbel 0 (Nat.zero_le _) (Nat.zero_le _)).size
 have nb:∀{c:Nat},c<w.heap.size->c≠b'->w8.heap[c]? =w.heap[c]?:=λh1 h2=>hkeep _ h1 h2
 have P8:=h.pool.of_block (nb h.pool.lt (by omega))
 refine ze rfl ⟨P8.wr (n:=3) (by show 3<5;decide),Nw.gen λw9 e9=>?_⟩
 have c9:Chg (w0.heap.size+2) w8 w9:=by rw[e9];exact Chg.set _ _ _ _
 have P9:=P8.set 3 (Value.slice r.a r.l r.c)
 rw[<-e9]at P9
 have s9:=c9.size
 have alA:∀c,Al (w0.heap.size+4) o1 o2 c->c<w.heap.size->w9.heap[c]? =w.heap[c]?/\Al (w0.heap.size+4) o1 r c:=λc h1 h2=>by
  have hne:c≠b':=λe=>by
   rcases hb' with e2 |e2
   ·exact h1.2.2 (by rw[e2,e])
   ·omega
  exact⟨(c9.block _ (by have:=h1.1;omega)).trans (nb h2 hne),⟨h1.1,h1.2.1,λq=>hne (by rw[ha]at q;injection q with q;injection q with q;exact q.symm)⟩⟩
 have one:∀a,o1.a=some a->a.block≠b':=λa h1 e=>by
  rcases hb' with e2 |e2
  ·exact zm8 h.own1 (h.ap) h1 (by rw[e];exact e2)
  ·have:=(h.own1.lt h1).2
   omega
 have apn:∀c,o1.a=some (Gk.blk c)->r.a≠some (Gk.blk c):=λc h1 h2=>by
  rw[ha]at h2
  have e:b'=c:=by injection h2 with h2;injection h2 with h2
  exact one _ h1 e.symm
 have old:∀c,c<w.heap.size->c≠b'->c≠w0.heap.size+2->w9.heap[c]? =w.heap[c]?:=λc h1 h2 h3=>(c9.block _ h3).trans (nb h1 h2)
 refine hK r w9 ⟨c9.below (h.below.trans (hbel _ (by omega) (by omega))) (by omega),by omega,P9,h.own1.of_block λa h1=>old _ (h.own1.lt h1).2 (one a h1) (by have:=h.fr1 a h1;omega),by rw[List.map_append];exact hO.of_block λa h1=>c9.block _ (by rw[ha]at h1;cases h1;show b'≠_;omega),h.fr1,λa h1=>(by rw[ha]at h1;cases h1;exact hge),apn,?_,?_,h.mks.of_block (old _ h.mks.lt (by omega) (by omega))⟩ (λc T cs hT hc hq=>?_) (λs l hq=>hq.keep alA (by omega)) (by omega)
 ·exact h.cn.keep (old _ h.cn.lt (by omega) (by omega)) alA (by omega)
 ·exact h.vn.keep (old _ h.vn.lt (by omega) (by omega)) alA (by omega)
 ·refine hq.of_block (old _ hq.lt (λe=>?_) hc)
  subst e
  rcases hb' with e2 |e2
  ·exact ym h.own2 hq hT e2
  ·have:=hq.lt
   omega
theorem Gp.push1(h:Gp w0 w tb o1 o2 L1 L2 C V){id:Int}{b:Nat}(hB:Blk w b 22 [.int .u32 id])(hl:L1.length<=4398046511104){K:World->Prop}
  (hK:∀r w',Gp w0 w' tb r o2 (L1++[id]) L2 C V->(∀c T cs,22≠T->c≠w0.heap.size+2->Blk w c T cs->Blk w' c T cs)->(∀s l,WdOk (Al (w0.heap.size+4) o1 o2) w s l->WdOk (Al (w0.heap.size+4) r o2) w' s l)->w.heap.size<=w'.heap.size->K w') :
  zA Tryz.prog 56 (.slice o1.a o1.l o1.c) (.slice (some (blk b)) 1 1) w λr w8=>zc (some (blk (w0.heap.size+2))) λa=>Wr w8 (a.add 1)/\Nw (w8.setCell (a.add 1) (.slice r.a r.l r.c)) K:=by
 have hlo:=h.own1.1
 rw[List.length_map]at hlo
 have hsz:=h.sz
 refine zgM eU32 h.own1 (vs:=[.int .u32 id]) rfl (λu hu=>by rw[List.mem_singleton.1 hu];rfl) hB (by omega) (by omega) λr w8 b' hO ha hb' hbel hkeep=>?_
 have hge:w0.heap.size+4<=b':=by
  rcases hb' with e |e
  ·exact h.fr1 _ e
  ·omega
 have hs8:w.heap.size<=w8.heap.size:=(hbel 0 (Nat.zero_le _) (Nat.zero_le _)).size
 have nb:∀{c:Nat},c<w.heap.size->c≠b'->w8.heap[c]? =w.heap[c]?:=λh1 h2=>hkeep _ h1 h2
 have P8:=h.pool.of_block (nb h.pool.lt (by omega))
 refine ze rfl ⟨P8.wr (n:=1) (by show 1<5;decide),Nw.gen λw9 e9=>?_⟩
 have c9:Chg (w0.heap.size+2) w8 w9:=by rw[e9];exact Chg.set _ _ _ _
 have P9:=P8.set 1 (Value.slice r.a r.l r.c)
 rw[<-e9]at P9
 have s9:=c9.size
 have alA:∀c,Al (w0.heap.size+4) o1 o2 c->c<w.heap.size->w9.heap[c]? =w.heap[c]?/\Al (w0.heap.size+4) r o2 c:=λc h1 h2=>by
  have hne:c≠b':=λe=>by
   rcases hb' with e2 |e2
   ·exact h1.2.1 (by rw[e2,e])
   ·omega
  exact⟨(c9.block _ (by have:=h1.1;omega)).trans (nb h2 hne),⟨h1.1,λq=>hne (by rw[ha]at q;injection q with q;injection q with q;exact q.symm),h1.2.2⟩⟩
 have one:∀a,o2.a=some a->a.block≠b':=λa h1 e=>by
  rcases hb' with e2 |e2
  ·exact zm8 h.own2 (λc q1 q2=>h.ap c q2 q1) h1 (by rw[e];exact e2)
  ·have:=(h.own2.lt h1).2
   omega
 have apn:∀c,o2.a=some (Gk.blk c)->r.a≠some (Gk.blk c):=λc h1 h2=>by
  rw[ha]at h2
  have e:b'=c:=by injection h2 with h2;injection h2 with h2
  exact one _ h1 e.symm
 have old:∀c,c<w.heap.size->c≠b'->c≠w0.heap.size+2->w9.heap[c]? =w.heap[c]?:=λc h1 h2 h3=>(c9.block _ h3).trans (nb h1 h2)
 refine hK r w9 ⟨c9.below (h.below.trans (hbel _ (by omega) (by omega))) (by omega),by omega,P9,by rw[List.map_append];exact hO.of_block λa h1=>c9.block _ (by rw[ha]at h1;cases h1;show b'≠_;omega),h.own2.of_block λa h1=>old _ (h.own2.lt h1).2 (one a h1) (by have:=h.fr2 a h1;omega),λa h1=>(by rw[ha]at h1;cases h1;exact hge),h.fr2,λc h1 h2=>apn c h2 h1,?_,?_,h.mks.of_block (old _ h.mks.lt (by omega) (by omega))⟩ (λc T cs hT hc hq=>?_) (λs l hq=>hq.keep alA (by omega)) (by omega)
 ·exact h.cn.keep (old _ h.cn.lt (by omega) (by omega)) alA (by omega)
 ·exact h.vn.keep (old _ h.vn.lt (by omega) (by omega)) alA (by omega)
 ·refine hq.of_block (old _ hq.lt (λe=>?_) hc)
  subst e
  rcases hb' with e2 |e2
  ·exact ym h.own1 hq hT e2
  ·have:=hq.lt
   omega
end
end Go.Proofs
namespace Go.Proofs
open Go.Gk Go.RowKit Go.Gm
section
variable {w0 w w':World} {tb B k:Nat} {o1 o2:Sl} {L1 L2:List Int} {C:CnL} {V:VnL} {T:TyL} {pl:List PI} {t:Sl} {bd:Int} {R:VWP}
theorem Gp.setV(h:Gp w0 w tb o1 o2 L1 L2 C V){id:Int}{v:Vv}{vn:Vn}(hv:VvOk (Al (w0.heap.size+4) o1 o2) w v vn){K:World->Prop}(hK:∀w',Gp w0 w' tb o1 o2 L1 L2 C (setQ V id vn)->K w') :
  updW Tryz.prog 86 (.map (some (w0.heap.size+1))) (.int .u32 id) (.agg #[.int .u32 v.1,.int .u32 v.2.1,.slice v.2.2.1.a v.2.2.1.l v.2.2.1.c]) w K:=by
 obtain⟨Vl,V1,V2⟩:=h.vn
 refine zk1 (f:=aggQ vvK) (v:=(v:Vv)) uVn znh V1 rfl λw1 V3 c=>hK w1 ?_
 have c:Chg (w0.heap.size+1) w w1:=c
 have hs:=c.size
 have al:∀b,Al (w0.heap.size+4) o1 o2 b->b<w.heap.size->w1.heap[b]? =w.heap[b]?/\Al (w0.heap.size+4) o1 o2 b:=λb h1 _=>⟨c.block _ (by have:=h1.1;omega),h1⟩
 refine⟨c.below h.below (by omega),by have:=h.sz;omega,c.blk h.pool (by omega),h.own1.of_block λa ha=>c.block _ (by have:=h.fr1 a ha;omega),h.own2.of_block λa ha=>c.block _ (by have:=h.fr2 a ha;omega),h.fr1,h.fr2,h.ap,h.cn.keep (c.block _ (by omega)) al (by omega),?_,h.mks.of_block (c.block _ (by omega))⟩
 exact⟨_,V3,setR (R:=λa c=>VvOk (Al (w0.heap.size+4) o1 o2) w1 a c) ⟨hv.cl,hv.ty,hv.wd.keep al (by omega)⟩ (allR (λa c q=>⟨q.1,q.2.cl,q.2.ty,q.2.wd.keep al (by omega)⟩) V2)⟩
theorem Gp.setC(h:Gp w0 w tb o1 o2 L1 L2 C V){id ty:Int}{s:Sl}{l:List Int}(hv:WdOk (Al (w0.heap.size+4) o1 o2) w s l){K:World->Prop}(hK:∀w',Gp w0 w' tb o1 o2 L1 L2 (setQ C id (ty,l)) V->K w') :
  updW Tryz.prog 85 (.map (some w0.heap.size)) (.int .u32 id) (.agg #[.int .u32 ty,.slice s.a s.l s.c]) w K:=by
 obtain⟨Vl,V1,V2⟩:=h.cn
 refine zk1 (f:=aggQ cvK) (v:=((ty,s,()):Cv)) uCn znh V1 rfl λw1 V3 c=>hK w1 ?_
 have c:Chg w0.heap.size w w1:=c
 have hs:=c.size
 have al:∀b,Al (w0.heap.size+4) o1 o2 b->b<w.heap.size->w1.heap[b]? =w.heap[b]?/\Al (w0.heap.size+4) o1 o2 b:=λb h1 _=>⟨c.block _ (by have:=h1.1;omega),h1⟩
 refine⟨c.below h.below (by omega),by have:=h.sz;omega,c.blk h.pool (by omega),h.own1.of_block λa ha=>c.block _ (by have:=h.fr1 a ha;omega),h.own2.of_block λa ha=>c.block _ (by have:=h.fr2 a ha;omega),h.fr1,h.fr2,h.ap,?_,h.vn.keep (c.block _ (by omega)) al (by omega),h.mks.of_block (c.block _ (by omega))⟩
 exact⟨_,V3,setR (R:=λa c=>CvOk (Al (w0.heap.size+4) o1 o2) w1 a c) ⟨rfl,hv.keep al (by omega)⟩ (allR (λa c q=>⟨q.1,q.2.ty,q.2.wd.keep al (by omega)⟩) V2)⟩
theorem zqa{pb:Nat}{op:Int}:zF (mkL pb) op=if op=1\/op=46 then some (mkF pb 62) else if op=41\/op=42 then some (mkF pb 63) else if op=43 then some (mkF pb 64) else if op=44 then some (mkF pb 65) else none:=by
 simp only[zF]
 by_cases h1:op=1
 ·subst h1;rfl
 by_cases h2:op=46
 ·subst h2;rfl
 by_cases h3:op=41
 ·subst h3;rfl
 by_cases h4:op=42
 ·subst h4;rfl
 by_cases h5:op=43
 ·subst h5;rfl
 by_cases h6:op=44
 ·subst h6;rfl
 simp[h1,h2,h3,h4,h5,h6]
theorem zpB{pb:Nat}{A:Nat->Prop}(h:IsPq w B pb A T C)(hT:TbOk T)(hs:(zx bd pl).1=0)(hk:k<pl.length)(ht:IsAg w t pl[k].2.2.2)(hL:∀id c,zC C id=some c->c.2.length<=4096){p:List Int×Int}(hp:wdsC T C pl k=some p){f:Value}(hf:zF (mkL pb) (ix pl k).1=some f)(hR:MkR R w p) :
  zL Tryz.prog Tryz.fs f [inA (mkIn pl[k] t)] w R:=by
 have hix:=zH hk
 have eL:(ix pl k).2.2.2=pl[k].2.2.2:=by rw[hix]
 have eT:(ix pl k).2.1=pl[k].2.1:=by rw[hix]
 have c1:Tryz.fs.contains 62=true:=by kernel_rfl
 have c2:Tryz.fs.contains 63=true:=by kernel_rfl
 have c3:Tryz.fs.contains 64=true:=by kernel_rfl
 have c4:Tryz.fs.contains 65=true:=by kernel_rfl
 rw[zqa]at hf
 unfold wdsC at hp
 by_cases e1:(ix pl k).1=1\/(ix pl k).1=46
 ·rw[if_pos e1]at hf hp
  cases hf
  cases hp
  unfold zL
  simp only[c1]
  exact zlI (x:=mkIn pl[k] t) h hT (by show MkR R w (if (tA T pl[k].2.1).size=0 then _ else _);rw[<-eT];exact hR)
 rw[if_neg e1]at hf hp
 by_cases e2:(ix pl k).1=41\/(ix pl k).1=42
 ·rw[if_pos e2]at hf hp
  cases hf
  cases hp
  unfold zL
  simp only[c2]
  refine zod (x:=mkIn pl[k] t) h ?_
  show MkR R w (if (tA T pl[k].2.1).kind≠2 then _ else(if pl[k].1=41 then _ else _,_))
  rw[<-eT,show pl[k].1=(ix pl k).1 by rw[hix]]
  exact hR
 rw[if_neg e2]at hf hp
 by_cases e3:(ix pl k).1=43
 ·rw[if_pos e3]at hf hp
  cases hf
  cases hp
  unfold zL
  simp only[c3]
  have hl:(ix pl k).2.2.2.length=1:=yc hs hk e3 zeU
  refine zmY (x:=mkIn pl[k] t) (al:=pl[k].2.2.2) h ht (λ_=>by rw[<-eL];omega) ?_
  show MkR R w (if (tA T pl[k].2.1).kind≠3 then _ else _)
  rw[<-eT,<-eL]
  exact hR
 rw[if_neg e3]at hf hp
 by_cases e4:(ix pl k).1=44
 ·rw[if_pos e4]at hf hp
  cases hf
  cases hp
  unfold zL
  simp only[c4]
  exact zkd h hT hk ht (YQ hs hk) hL hR
 rw[if_neg e4]at hf
 cases hf
theorem zuu(W:yP bd pl)(T:TyL){n:Nat}(hn:n<=pl.length):(cnsC T pl n).1.length<=n/\(cnsC T pl n).2.length<=n:=by
 obtain⟨h1,h2⟩:=zqF (T:=T) W n hn
 have h1:=congrArg List.length h1
 have h2:=congrArg List.length h2
 simp only[List.length_map]at h1 h2
 have a1:=List.length_filter_le (λk=>isC (ix pl k).1) (List.range n)
 have a2:=List.length_filter_le (λk=>decide (zt (ix pl k)=7/\(ix pl k).1=59)) (List.range n)
 rw[List.length_range]at a1 a2
 omega
set_option maxHeartbeats 1000000 in
theorem zrR(h:Gp w0 w tb o1 o2 ((cnsC T pl k).1.map (·.1)) ((cnsC T pl k).2.map (·.1)) (cnsC T pl k).1 (cnsC T pl k).2)(hT:IsTb w0 B tb T)(hTb:TbOk T)(hp:PlOk pl)(W:yP bd pl)(hk:k<pl.length)(h7:zt (ix pl k)=7)(ht:IsAg w t pl[k].2.2.2)
  (hL:∀id c,zC (cnsC T pl k).1 id=some c->c.2.length<=4096)
  (hR:∀w' o1' o2',Gp w0 w' tb o1' o2' ((cnsC T pl (k+1)).1.map (·.1)) ((cnsC T pl (k+1)).2.map (·.1)) (cnsC T pl (k+1)).1 (cnsC T pl (k+1)).2->R (.int .i64 (errC T (cnsC T pl k).1 pl k)) w') :
  cR 37 #[.pointer (some (blk (w0.heap.size+2))),inA (mkIn pl[k] t),.map (some (w0.heap.size+3))] w R:=by
 refine za.of (zf5 _ (mkIn pl[k] t) _ R w ?_) λ_ _ h=>h
 have hix:=zH hk
 have eR:(ix pl k).2.2.1=pl[k].2.2.1:=by rw[hix]
 have eO:(ix pl k).1=pl[k].1:=by rw[hix]
 have eT:(ix pl k).2.1=pl[k].2.1:=by rw[hix]
 have hplen:=hp.len
 obtain⟨l1,l2⟩:=zuu W T (n:=k) (by omega)
 have hs0:=h.below.size
 refine zm λw1 hI1 b1 z1=>?_
 have hI1:Blk w1 w.heap.size 44 (inV (mkIn pl[k] t)):=hI1
 have ht1:IsAg w1 t pl[k].2.2.2:=IsC.below zG ht b1
 have g1:=h.on b1
 refine hI1.rI0 (x:=pl[k].1) rfl (zk (λe=>?_) (λe=>?_))
 ·
  have e59:(ix pl k).1=59:=by rw[eO];exact e
  have hE:errC T (cnsC T pl k).1 pl k=(varC T (cnsC T pl k).1 pl k).2:=by
   unfold errC
   rw[if_pos e59]
  rw[hE,zd4 h7 e59]at hR
  dsimp only at hR
  rw[Y9,if_neg (zoi W hk e59)]at hR
  have hvl:1<=pl[k].2.2.2.length:=by
   have:=zrw W.shape hk e59
   rw[hix]at this
   omega
  refine Ins.load (x:=mkIn pl[k] t) hI1 (zpV (g1.pq hT) hTb hk ht1 hvl λw2 v hv b2=>?_)
  have g2:=g1.on b2
  have hv2:VvOk (Al (w0.heap.size+4) o1 o2) w2 v (varC T (cnsC T pl k).1 pl k).1:=⟨hv.cl,hv.ty,hv.wd.mono λb q _=>by
   rcases q with q |q
   ·exact q
   ·exact g1.new q⟩
  refine⟨v,_,rfl,box3 rfl λw6 hX6 b6 z6=>?_⟩
  have b26:=b2.on b6
  have g6:=(g2.on b6).drew
  refine ze rfl (g6.pool.rS (n:=3) (x:=o2) rfl ((hI1.below b26).drew.rI (n:=2) (x:=pl[k].2.2.1) rfl ?_))
  refine zm λw7 hE7 b7 z7=>?_
  have hE7:Blk w7 w6.drew.heap.size 22 [.int .u32 pl[k].2.2.1]:=hE7
  have g7:=g6.on b7
  have hX7:=hX6.drew.below b7
  have hI7:=(hI1.below b26).drew.below b7
  have b67:=(Below.refl w6.heap.size w6).drew.on b7
  have hv7:=(hv2.wd.below b6).below b67
  have q1:=b1.size
  have q2:=b2.size
  have hsz:=h.sz
  refine⟨g7.pool.cell (n:=3) rfl,g7.push2 hE7 (by rw[List.length_map];omega) λr w9 g9 hkeep hwd hs9=>?_⟩
  have hX9:=hkeep _ _ _ (by decide) (by omega) hX7
  have hI9:=hkeep _ _ _ (by decide) (by omega) hI7
  have hv9:=hwd _ _ hv7
  refine ze rfl ⟨_,g9.drew.pool.cell (n:=4) rfl,hI9.drew.rI (n:=2) (x:=pl[k].2.2.1) rfl (Vv.load (v:=v) hX9.drew (g9.drew.setV ⟨hv2.cl,hv2.ty,hv9.below (Below.refl _ _).drew⟩ λw10 g10=>?_))⟩
  rw[<-eR]at g10
  exact hR w10 o1 r g10
 have e59:¬(ix pl k).1=59:=by rw[eO];exact e
 refine hI1.rI0 (x:=pl[k].1) rfl (ze6 (β:=.raw) (zdL .u16) uMk uU16 zMk g1.mks rfl ?_)
 rw[<-eO]
 generalize hv:(zF (α:=BK.raw.T) (mkL (w0.heap.size+2)) (ix pl k).1).getD Value.nilFunc=v
 have hv:(zF (α:=Value) (mkL (w0.heap.size+2)) (ix pl k).1).getD Value.nilFunc=v:=hv
 cases hc:isC (ix pl k).1 with
 |false=>
  have hE:errC T (cnsC T pl k).1 pl k=0:=by
   unfold errC
   rw[if_neg e59,zmO hc]
  have hn:zF (mkL (w0.heap.size+2)) (ix pl k).1=none:=by
   rw[zqa]
   have:¬isC (ix pl k).1=true:=by rw[hc];simp
   rw[Zk]at this
   rw[if_neg (by omega),if_neg (by omega),if_neg (by omega),if_neg (by omega)]
  rw[hn]at hv
  have hv:Value.nilFunc=v:=hv
  subst hv
  rw[hE,zbf hc (λq=>e59 q.2)]at hR
  unfold zeV
  dsimp only
  exact zR rfl (hR w1 o1 o2 g1)
 |true=>
  obtain⟨p,hp'⟩:=YB T (cnsC T pl k).1 hc
  have hE:errC T (cnsC T pl k).1 pl k=p.2:=by
   unfold errC
   rw[if_neg e59,hp']
  rw[hE,Y2 hc hp']at hR
  dsimp only at hR
  rw[Y9,if_neg (znd W hk hc)]at hR
  obtain⟨f,hf,hfn⟩:∃f,zF (mkL (w0.heap.size+2)) (ix pl k).1=some f/\∃a b c,f =.func a b c:=by
   rw[zqa]
   rw[Zk]at hc
   split
   ·exact⟨_,rfl,_,_,_,rfl⟩
   split
   ·exact⟨_,rfl,_,_,_,rfl⟩
   split
   ·exact⟨_,rfl,_,_,_,rfl⟩
   split
   ·exact⟨_,rfl,_,_,_,rfl⟩
   ·omega
  rw[hf]at hv
  have hv:f=v:=hv
  subst hv
  obtain⟨fa,fb,fc,rfl⟩:=hfn
  unfold zeV
  dsimp only
  refine zJ rfl (Ins.load (x:=mkIn pl[k] t) hI1 (zpB (g1.pq hT) hTb W.shape hk ht1 hL hp' hf λw2 s hwd b2=>?_))
  have g2:=(g1.on b2).drew
  have hwd2:WdOk (Al (w0.heap.size+4) o1 o2) w2 s p.1:=hwd.mono λb q _=>g1.new q
  refine⟨s,_,rfl,ze rfl (g2.pool.rS (n:=1) (x:=o1) rfl ((hI1.below b2).drew.rI (n:=2) (x:=pl[k].2.2.1) rfl ?_))⟩
  refine zm λw7 hE7 b7 z7=>?_
  have hE7:Blk w7 w2.drew.heap.size 22 [.int .u32 pl[k].2.2.1]:=hE7
  have g7:=g2.on b7
  have hI7:=(hI1.below b2).drew.below b7
  have b27:=(Below.refl w2.heap.size w2).drew.on b7
  have hv7:=hwd2.below b27
  have q1:=b1.size
  have q2:=b2.size
  have hsz:=h.sz
  refine⟨g7.pool.cell (n:=1) rfl,g7.push1 hE7 (by rw[List.length_map];omega) λr w9 g9 hkeep hwd hs9=>?_⟩
  have hI9:=hkeep _ _ _ (by decide) (by omega) hI7
  have hv9:=hwd _ _ hv7
  refine ze rfl ⟨_,g9.drew.pool.cell (n:=2) rfl,hI9.drew.rI (n:=2) (x:=pl[k].2.2.1) rfl (hI9.drew.rI (n:=1) (x:=pl[k].2.1) rfl (g9.drew.setC (ty:=pl[k].2.1) (hv9.below (Below.refl _ _).drew) λw10 g10=>?_))⟩
  rw[<-eR,<-eT]at g10
  exact hR w10 r o2 g10
end
end Go.Proofs
namespace Go.Proofs
open Go.Gk Go.RowKit Go.Gm
section
variable {w w':World} {B B' tb pb:Nat} {T:TyL} {C:CnL} {V:VnL} {pl:List PI}
theorem IsTb.mono(h:IsTb w B tb T)(hB:B'<=B):IsTb w B' tb T:=by
 obtain⟨⟨r,o,h1,⟨Vl,v1,v2⟩,h3⟩,h4⟩:=h
 exact⟨⟨r,o,h1,⟨⟨Vl,v1,allR (λa c q=>⟨q.1,q.2.mono hB⟩) v2⟩,Nat.le_trans hB h3⟩⟩,Nat.le_trans hB h4⟩
structure IsPo (w:World) (B pb:Nat) (T:TyL) (C:CnL) (V:VnL):Prop where
 ex:∃(tb rc rv:Nat) (o1 o2:Sl),Blk w pb 88 [.pointer (some (Gk.blk tb)),.slice o1.a o1.l o1.c,.map (some rc),.slice o2.a o2.l o2.c,.map (some rv)]/\IsTb w B tb T/\IsCn w (λb=>B<=b) rc C/\IsVn w (λb=>B<=b) rv V/\
  IsS (Value.int .u32) w o1 (C.map (·.1))/\IsS (Value.int .u32) w o2 (V.map (·.1))/\zK B o1/\zK B o2/\B<=rc/\B<=rv
 lo:B<=pb
theorem IsPo.keep(h:IsPo w B pb T C V)(hb:∀k,B<=k->k<w.heap.size->w'.heap[k]? =w.heap[k]?)(hs:w.heap.size<=w'.heap.size):IsPo w' B pb T C V:=by
 obtain⟨⟨tb,rc,rv,o1,o2,h1,h2,h3,h4,h5,h6,h7,h8,h9,h10⟩,h11⟩:=h
 exact⟨⟨tb,rc,rv,o1,o2,h1.of_block (hb pb h11 h1.lt),h2.keep hb,h3.keep (hb rc h9 h3.lt) (λb q1 q2=>⟨hb b q1 q2,q1⟩) hs,h4.keep (hb rv h10 h4.lt) (λb q1 q2=>⟨hb b q1 q2,q1⟩) hs,
  h5.of_block λa ha hlt=>hb _ (h7 a ha) hlt,h6.of_block λa ha hlt=>hb _ (h8 a ha) hlt,h7,h8,h9,h10⟩,h11⟩
theorem IsPo.below(h:IsPo w B pb T C V)(hb:Below w.heap.size w w'):IsPo w' B pb T C V:=h.keep (λk _ h2=>hb.block k h2) hb.size
theorem zkM(T:TyL){n:Nat}:∀m,n<=m->(∀k,n<=k->k<m->zt (ix pl k)≠7)->cnsC T pl m=cnsC T pl n
 | 0,h,_=>by
         have:n=0:=by omega
         subst this
         rfl
 |m+1,h,hk=>by
  by_cases e:n=m+1
  ·subst e;rfl
  ·have ih:=zkM T m (by omega) λk h1 h2=>hk k h1 (by omega)
   show(if zt (ix pl m)=7 then _ else cnsC T pl m)=_
   rw[if_neg (hk m (by omega) (by omega)),ih]
theorem zoa{T:TyL}{k:Nat}(h:zt (ix pl k)≠7):badC T pl k=0:=if_neg h
end
section
variable {x:Mo} {pl:List PI} {w:World} {R:VWP}
set_option maxHeartbeats 4000000 in
theorem zrS(hN:IsPl w x.2.2.1 pl)(hp:PlOk pl)(h0:0<=x.2.1)(ht:Tab w)
  (hBad:(conE x.2.1 pl).1≠0->∀w',Below w.heap.size w w'->R (.tuple #[.pointer none,.agg #[.int .i64 (conE x.2.1 pl).1,.int .i64 (conE x.2.1 pl).2]]) w')
  (hOk:CnOk x.2.1 pl->∀w' pb,Below w.heap.size w w'->IsPo w' w.heap.size pb (tyL pl) (cnL pl) (vnL pl)->R (.tuple #[.pointer (some (blk pb)),.agg #[.int .i64 0,.int .i64 0]]) w') :
  cR 10 #[moA x] w R:=by
 refine za.of (zjj x R w ?_) λ_ _ h=>h
 refine zm λw1 hB1 b1 z1=>?_
 have hB1:Blk w1 w.heap.size 25 (moV x):=hB1
 refine zm λw2 hS2 b2 z2=>?_
 have hS2:Blk w2 w1.heap.size 29 [.int .i64 0,.int .i64 0]:=hS2
 have b02:=b1.on b2
 have out:∀{w':World} {p:Option Addr} {e a:Int},Blk w' w1.heap.size 29 [.int .i64 0,.int .i64 0]->Below w.heap.size w w'->(∀w'',Chg w1.heap.size w' w''->Below w.heap.size w w''->R (.tuple #[.pointer p,.agg #[.int .i64 e,.int .i64 a]]) w'')->
   Wr w' (blk w1.heap.size)/\Nw (w'.setCell (blk w1.heap.size) (.int .i64 e)) λw8=>Wr w8 ((blk w1.heap.size).add 1)/\Nw (w8.setCell ((blk w1.heap.size).add 1) (.int .i64 a)) λw9=>ldI w9 ((blk w1.heap.size).add 0) .i64 λx9=>ldI w9 ((blk w1.heap.size).add 1) .i64 λx10=>
    R (.tuple #[.pointer p,.agg #[.int .i64 x9,.int .i64 x10]]) w9:=λ{w' p e a} hS hb hR=>
  st2 hS rfl λw9 hS9 c9=>Sp.load hS9 (hR w9 c9 (c9.below hb (by omega)))
 have sz1:=b1.size
 refine Mo.load (hB1.below b2) (zqx (x:=x) (hN.below b02) hp h0 (ht.below b02) (λhc w3 b3=>?_) (λhTy w3 tb b3 hT=>?_))
 ·have he:=zoj hc
  refine⟨none,((typE x.2.1 pl).1,(typE x.2.1 pl).2,()),rfl,box2 rfl λw6 h6 b6 z6=>h6.rI0 rfl (zy (λ_=>?_) (λq=>absurd q hc))⟩
  have b26:=b3.on b6
  refine Sp.load h6.drew (out (hS2.below b26).drew (b02.on b26).drew λw' _ hb=>?_)
  have:=hBad (by rw[he];exact hc) w' hb
  rwa[he]at this
 refine⟨some (blk tb),(0,0,()),rfl,box2 rfl λw6 h6 b6 z6=>h6.rI0 rfl (zy (λq=>absurd rfl q) (λ_=>?_))⟩
 have b26:=b3.on b6
 have b06:=b02.on b26
 have hc:(zU x.2.1 pl).1=0:=hTy.chk
 have hty:(typE x.2.1 pl).1=0:=by rw[zgQ hTy.chk hTy.no]
 have W:=yP.of hp h0 hc
 have hs:=W.shape
 have hTb:TbOk (tyL pl):=hTy.tb hp h0 (Nat.le_refl _)
 have hlay:(layP x.2.1 pl).1=0:=(zna hc).2.1
 refine Mo.load ((hB1.below b2).below b26) (zkA (x:=x) (hN.below b06) hp λy w9 b9 hy=>⟨y,((layP x.2.1 pl).1,((layP x.2.1 pl).2:Int),()),rfl,?_⟩)
 obtain⟨hPt,_⟩:=hy hlay
 have b09:=b06.on b9
 refine zm λw10 hP10 b10 z10=>?_
 refine zm λw11 hQ11 b11 z11=>?_
 refine st20 (x:=y) (hP10.below b11) (by simp) λw31 hP31 c31=>?_
 have lt9:w9.heap.size<w11.heap.size:=by have:=b11.size;omega
 refine st2 (c31.blk hQ11 (by omega)) rfl λw33 hQ33 c33=>?_
 have b911:=b10.on b11
 have b933:Below w9.heap.size w9 w33:=c33.below (c31.below b911 (Nat.le_refl _)) (by omega)
 have b033:=b09.on b933
 have hP33:Blk w33 w9.heap.size 82 (sp20 y):=c33.blk hP31 (by omega)
 have b633:=b9.on b933
 have hT33:=(hT.below b6).below b633
 have hB33:=((hB1.below b2).below b26).below b633
 have hS33:=(hS2.below b26).below b633
 refine Nw.gen λw34 e34=>?_
 have z34:w34.heap.size=w33.heap.size+1:=by rw[e34];simp
 have b34:Below w33.heap.size w33 w34:=by rw[e34];exact(Below.refl _ _).alloc (Nat.le_refl _) _
 have hc34:IsMq w34 w33.heap.size (aggQ cvK) ([]:List (Int×Cv)):=by rw[e34];exact IsMq.new w33 _
 refine Nw.gen λw35 e35=>?_
 have z35:w35.heap.size=w34.heap.size+1:=by rw[e35];simp
 have b35:Below w34.heap.size w34 w35:=by rw[e35];exact(Below.refl _ _).alloc (Nat.le_refl _) _
 have hv35:IsMq w35 w34.heap.size (aggQ vvK) ([]:List (Int×Vv)):=by rw[e35];exact IsMq.new w34 _
 refine zm λw36 hK36 b36 z36=>?_
 have hK36:Blk w36 w35.heap.size 88 [.pointer (some (blk tb)),.slice none 0 0,.map (some w33.heap.size),.slice none 0 0,.map (some w34.heap.size)]:=hK36
 refine zmX λw37 hM37 b37=>⟨some w36.heap.size,rfl,?_⟩
 have q34:w34.heap.size=w33.heap.size+1:=by omega
 have q35:w35.heap.size=w33.heap.size+2:=by omega
 have q36:w36.heap.size=w33.heap.size+3:=by omega
 rw[q34,q35]at hK36
 rw[q34]at hv35
 rw[q35,q36]at hM37
 dsimp only[zB,Go.Gk.Sl.zw,zi,zu,zb,zh];rw[q35,q36]
 have b3637:=b36.on b37
 have b3337:=(b34.on b35).on b3637
 have start:Gp w33 w37 tb ⟨none,0,0⟩ ⟨none,0,0⟩ [] [] [] []:=
  ⟨b3337,by have:=hM37.lt;omega,hK36.below b37,Own.nil _ _ _,Own.nil _ _ _,zlv _,zlv _,λb h=>(by cases h),⟨[],hc34.below (b35.on b3637),.nil⟩,⟨[],hv35.below b3637,.nil⟩,hM37⟩
 have P:=hPt 7 (by decide)
 generalize ha:(l20 y).getD (2*7) 0=a at P
 generalize hb:(l20 y).getD (2*7+1) 0=b at P
 obtain⟨P1,P2,P3,P4⟩:=P
 obtain⟨a,rfl⟩:=Int.eq_ofNat_of_zero_le P1
 obtain⟨b,rfl⟩:=Int.eq_ofNat_of_zero_le (Int.le_trans P1 P2)
 have hP37:=hP33.below b3337
 have b037:=b033.on b3337
 have hplen:=hp.len
 refine⟨by decide,hP37.rI (n:=14) (x:=(a:Int)) (by rw[<-ha];rfl) ?_⟩
 have hcn0:cnsC (tyL pl) pl a=([],[]):=zkM (n:=0) (tyL pl) a (Nat.zero_le _) λk _ hk=>λe=>by
  have:=(P4 k (by omega)).2 e
  omega
 have hend:cnsC (tyL pl) pl pl.length=cnsC (tyL pl) pl b:=zkM (tyL pl) pl.length (by omega) λk hk1 hk2=>λe=>by
  have:=(P4 k (by omega)).2 e
  omega
 refine zl.ghost (λm (st:Int×Unit) w'=>∃(n:Nat) (o1 o2:Sl),st=((n:Int),())/\a<=n/\n<=b/\m=b-n/\Gp w33 w' tb o1 o2 ((cnsC (tyL pl) pl n).1.map (·.1)) ((cnsC (tyL pl) pl n).2.map (·.1)) (cnsC (tyL pl) pl n).1 (cnsC (tyL pl) pl n).2/\∀k,k<n->badC (tyL pl) pl k=0) (b-a)
  ⟨a,⟨none,0,0⟩,⟨none,0,0⟩,rfl,Nat.le_refl _,by omega,rfl,by rw[hcn0];exact start,λk hk=>zoa λe=>by have:=(P4 k (by omega)).2 e;omega⟩ ?_
 rintro _ _ w38 ⟨n,o1,o2,rfl,hn1,hn2,rfl,G,hno⟩ next hnext
 have hS38:=hS33.below G.below
 have hB38:=hB33.below G.below
 have b038:=b033.on G.below
 have lt1:w1.heap.size<w33.heap.size:=hS33.lt
 refine⟨by decide,?_⟩
 rw[zn]
 refine(hP33.below G.below).rI (n:=15) (x:=(b:Int)) (by rw[<-hb];rfl) (zj (λg=>?_) (λg=>?_))
 rotate_left
 ·
  have hne:n=b:=by dsimp only at g;omega
  subst hne
  refine out hS38 b038 λw' c hbw=>?_
  have hCn:CnOk x.2.1 pl:=⟨hTy,λk hk=>by
   by_cases e:k<n
   ·exact hno k e
   ·exact zoa λe2=>by have:=(P4 k hk).2 e2;omega⟩
  refine hOk hCn w' _ hbw ?_
  have s0:=b033.size
  have cb:∀k,w33.heap.size<=k->w'.heap[k]? =w38.heap[k]?:=λk hk=>c.block _ (by omega)
  have hsz:=c.size
  have e1:cnL pl=(cnsC (tyL pl) pl n).1:=congrArg Prod.fst hend
  have e2:vnL pl=(cnsC (tyL pl) pl n).2:=congrArg Prod.snd hend
  rw[e1,e2]
  have hTe:=hT33.below G.below
  have s2:=b02.size
  refine⟨⟨tb,w33.heap.size,w33.heap.size+1,o1,o2,G.pool.of_block (cb _ (by omega)),(hTe.keep λk h1 h2=>c.block _ (by omega)).mono s2,G.cn.keep (cb _ (by omega)) (λk h1 h2=>⟨cb _ (by have:=h1.1;omega),by have:=h1.1;show w.heap.size<=k;omega⟩) (by omega),G.vn.keep (cb _ (by omega)) (λk h1 h2=>⟨cb _ (by have:=h1.1;omega),by have:=h1.1;show w.heap.size<=k;omega⟩) (by omega),?_,?_,λq hq=>?_,λq hq=>?_,by omega,by omega⟩,by omega⟩
  ·exact G.own1.isS.of_block λq hq _=>cb _ (by have:=G.fr1 q hq;omega)
  ·exact G.own2.isS.of_block λq hq _=>cb _ (by have:=G.fr2 q hq;omega)
  ·have:=G.fr1 q hq
   omega
  ·have:=G.fr2 q hq
   omega
 ·have hnb:n<b:=by dsimp only at g;omega
  have hnl:n<pl.length:=by omega
  have h7:zt (ix pl n)=7:=(P4 n hnl).1 ⟨by omega,by omega⟩
  refine hB38.rS (n:=2) (x:=x.2.2.1) rfl (Z8 hN b038 hnl λt hI0=>?_)
  have hA:IsAg w38 t pl[n].2.2.2:=IsC.below zG hI0 b038
  refine zrR G hT33 hTb hp W hnl h7 hA (λid c hc=>by
   have:=zoh hTy hp h0 (Nat.le_of_lt hnl) hno hc
   rw[this]
   exact zj5 hTb _) λw39 o1' o2' G39=>⟨_,rfl,?_⟩
  have hbad:badC (tyL pl) pl n=errC (tyL pl) (cnsC (tyL pl) pl n).1 pl n:=by
   unfold badC
   rw[if_pos h7]
  rw[<-hbad]
  refine zy (λhe=>?_) (λhe=>?_)
  ·have hE:=zuw hty hnl he hno
   refine out (hS33.below G39.below) (b033.on G39.below) λw' _ hbw=>?_
   have:=hBad (by rw[hE];exact he) w' hbw
   rwa[hE]at this
  ·dsimp only
   rw[zE (by omega)]
   refine hnext (b-(n+1)) _ w39 (by omega) ⟨n+1,o1',o2',rfl,by omega,by omega,rfl,G39,λk hk=>?_⟩
   by_cases e:k=n
   ·subst e;exact he
   ·exact hno k (by omega)
end
end Go.Proofs
namespace Go.Proofs
open Go.Gk Go.RowKit Go.Gm
theorem zr5{B:Nat}{w w':World}(h:Below B w w'){g:Nat}(hg:B<=g)(cs:Array Value):Below B w (w'.setRow g cs):=
 ⟨h.os,h.tape,h.output,by simpa[World.setRow] using h.size,λk hk=>(setRow_other w' g k cs (by omega)).trans (h.block k hk)⟩
theorem zrA{w:World}{b:Nat}{s:Sl}{l:List Int}{cs:List Value}(hD:Blk w b 22 cs)(hcs:cs.length=l.length)(hs:IsS (Value.int .u32) w s l)
  {k:Int->World->Prop} (hk:∀w',Blk w' b 22 (l.map (Value.int .u32))->(∀B w0,Below B w0 w->B<=b->Below B w0 w')->k (l.length:Int) w') :
  zom Tryz.prog #[56,56] (.slice (some (Gk.blk b)) l.length l.length) (.slice s.a s.l s.c) w k:=by
 have hun:(Tryz.prog).underlying 56=some (.slice 22):=by kernel_rfl
 have hsz:((Tryz.prog).info? 22).map (·.size)=some 1:=by kernel_rfl
 obtain⟨sa,sl,sc⟩:=s
 have hl1:sl=l.length:=hs.len
 cases sa with
 |none=>
  have hc:sc=0:=hs.nil rfl
  have h2:sl<=sc:=hs.cap
  have h0:sl=0:=by omega
  subst h0
  have hnil:l=[]:=List.eq_nil_of_length_eq_zero hl1.symm
  subst hnil
  have hcs:cs=[]:=List.eq_nil_of_length_eq_zero hcs
  subst hcs
  obtain⟨i,hi,hi1⟩:∃i,(Tryz.prog).info? 22=some i/\i.size=1:=by
   cases hq:(Tryz.prog).info? 22 with
   |none=>rw[hq]at hsz;cases hsz
   |some i=>rw[hq]at hsz;exact⟨i,rfl,by injection hsz⟩
  refine⟨0,w,?_,hk w hD λB w0 h _=>h⟩
  simp[Builtin.copy_,run_underlying hun,sizeOf,typeInfo,hi,Builtin.lenOf,Builtin.firstCells,storeCells,goInt]
 |some a=>
  have hn:(l.map (Value.int .u32)).length=Nat.min sl l.length:=by rw[List.length_map,hl1];exact(Nat.min_self _).symm
  have hc:=run_copy_row (P:=Tryz.prog) w 56 56 0 22 b 0 l.length l.length a sl sc cs.toArray 22 (l.map (Value.int .u32)) hun hsz hD hn (λj v hj=>by
   have hjl:j<l.length:=by have:=(List.getElem?_eq_some_iff.1 hj).1;rwa[List.length_map]at this
   rw[List.getElem?_map,List.getElem?_eq_getElem hjl]at hj
   cases hj
   exact hs.cell a rfl j hjl) (by simp[hcs]) (λv hv=>by obtain⟨x,_,rfl⟩:=List.mem_map.1 hv;rfl)
  have e:(cs.toArray.toList.take 0++l.map (Value.int .u32)++cs.toArray.toList.drop (0+(l.map (Value.int .u32)).length))=l.map (Value.int .u32):=by
   simp[hcs]
  rw[e]at hc
  have e2:((l.map (Value.int .u32)).length:Int)=(l.length:Int):=by rw[List.length_map]
  refine⟨_,_,hc,?_⟩
  rw[e2]
  refine hk _ ?_ λB w0 hb hB=>zr5 hb hB _
  exact setRow_heap w b _ _ _ _ hD
section
variable {w w':World} {B pb:Nat} {T:TyL} {C:CnL} {V:VnL} {R:VWP}
theorem znw{s:Sl}{l:List Int}(hs:IsS (Value.int .u32) w s l)(hl:l.length<=4398046511104)(hR:∀w' b,w.heap.size<=b->Blk w' b 22 (l.map (Value.int .u32))->Below w.heap.size w w'->R (.slice (some (blk b)) l.length l.length) w') :
  cR 126 #[.slice s.a s.l s.c] w R:=by
 refine za.of (zgS s R w ?_) λ_ _ h=>h
 have hsl:=hs.len
 unfold zbq
 dsimp only[zB,Go.Gk.Sl.zw,zi,zu,zb,zh]
 rw[hsl]
 refine⟨⟨by omega,by omega,by omega,by omega⟩,Nw.gen λw1 e1=>?_⟩
 have h1:Blk w1 w.heap.size 22 (List.replicate l.length (.int .u32 0)):=by rw[e1];exact Blk.made w _ _ l.length
 have b1:Below w.heap.size w w1:=by rw[e1];exact(Below.refl _ _).alloc (Nat.le_refl _) _
 have:=zrA h1 (by rw[List.length_replicate]) (hs.below b1) (k:=λ_ w2=>R (.slice (some (blk w.heap.size)) l.length l.length) w2) λw2 h2 hb=>hR w2 w.heap.size (Nat.le_refl _) h2 (hb _ _ b1 (Nat.le_refl _))
 rw[hsl]at this
 exact this
abbrev cnA(C:CnL)(id:Int):Cn:=(zC C id).getD (0,[])
abbrev vnA(V:VnL)(id:Int):Vn:=(zC V id).getD (0,0,[])
theorem zfX{id:Int}(h:IsPo w B pb T C V)(hl:(vnA V id).2.2.length<=4398046511104)(hR:∀w' b,w.heap.size<=b->Blk w' b 22 ((vnA V id).2.2.map (Value.int .u32))->Below w.heap.size w w'->R (.tuple #[.int .u32 (vnA V id).1,.int .u32 (vnA V id).2.1,.slice (some (blk b)) (vnA V id).2.2.length (vnA V id).2.2.length,.bool (zC V id).isSome]) w') :
  cR 88 #[.pointer (some (blk pb)),.int .u32 id] w R:=by
 refine za.of (zcN _ id R w ?_) λ_ _ h=>h
 obtain⟨⟨tb,rc,rv,o1,o2,h1,h2,h3,h4,_⟩,_⟩:=h
 refine zJ rfl (ze rfl ⟨_,h1.cell (n:=4) rfl,h4.lookOk λv hv=>?_⟩)
 refine box3 rfl λw1 hB1 b1 z1=>hB1.drew.rI0 rfl (hB1.drew.rI (n:=1) (x:=v.2.1) rfl ?_)
 rw[zn]
 refine hB1.drew.rS (n:=2) (x:=v.2.2.1) rfl ?_
 have b1d:=b1.drew
 refine znw ((hv.wd.is.below b1).below (Below.refl _ _).drew) hl λw4 b hb hB4 b4=>⟨⟨some (Gk.blk b),_,_⟩,rfl,(hB1.drew.below b4).cell (n:=1) rfl,(hB1.drew.below b4).cell0 rfl,?_⟩
 have hcl:v.1=(vnA V id).1:=hv.cl
 have hty:v.2.1=(vnA V id).2.1:=hv.ty
 rw[hcl,hty]
 exact hR w4 b (Nat.le_trans b1.size hb) hB4 (b1d.on b4)
end
end Go.Proofs
namespace Go.Proofs
open Go.Gk Go.RowKit Go.Gm
end Go.Proofs
namespace Go.Proofs
open Go.Gk
set_option linter.unusedVariables false
set_option linter.unusedSectionVars false
set_option maxRecDepth 100000
end Go.Proofs
namespace Go.Proofs
open Go.Gk Go.RowKit Go.Gm
end Go.Proofs
namespace Go.Proofs
open Go.Gk Go.RowKit Go.Gm
section
variable {bd:Int} {pl:List PI} {k:Nat}
theorem zut(h:CnOk bd pl)(hp:PlOk pl)(h0:0<=bd){id:Int}{c:Cn}(hc:zC (cnL pl) id=some c):c.2.length=(tA (tyL pl) c.1).size:=
 zoh h.ty hp h0 (Nat.le_refl _) h.no hc
theorem CnOk.tb(h:CnOk bd pl)(hp:PlOk pl)(h0:0<=bd):TbOk (tyL pl):=h.ty.tb hp h0 (Nat.le_refl pl.length)
theorem zwm(h:CnOk bd pl)(hp:PlOk pl)(h0:0<=bd)(hk:k<pl.length)(hc:zt (ix pl k)=7/\(ix pl k).1=59) :
  (vaP (tyL pl) pl k).1=agI pl k 0/\(vaP (tyL pl) pl k).2.2.length=(tA (tyL pl) (vaP (tyL pl) pl k).2.1).size/\((ix pl k).2.2.2.length=2->(vaP (tyL pl) pl k).2.2=(cnA (cnL pl) (agI pl k 1)).2/\(zC (cnL pl) (agI pl k 1)).isSome=true):=by
 have W:=h.whole hp h0
 have hv:=h.var hk hc.1 hc.2
 unfold vaP
 unfold varC at hv⊢
 by_cases e1:(tA (tyL pl) (ix pl k).2.1).kind≠7
 ·rw[if_pos e1]at hv;cases hv
 rw[if_neg e1]at hv⊢
 by_cases e2:(tA (tyL pl) (ix pl k).2.1).cls≠agI pl k 0\/(1<(ix pl k).2.2.2.length/\(tA (tyL pl) (ix pl k).2.1).cls=1)
 ·rw[if_pos e2]at hv;cases hv
 rw[if_neg e2]at hv⊢
 by_cases e3:(ix pl k).2.2.2.length=1
 ·rw[if_pos e3]
  exact⟨rfl,List.length_replicate,λe=>by omega⟩
 rw[if_neg e3]at hv⊢
 generalize ((tA (tyL pl) (ix pl k).2.1).prt 0).1=ty at hv⊢
 have hv:(ofC (cnsC (tyL pl) pl k).1 (agI pl k 1) ty).2=0:=hv
 cases hl:zC (cnsC (tyL pl) pl k).1 (agI pl k 1) with
 |none=>
  unfold ofC at hv
  rw[hl]at hv
  cases hv
 |some c=>
  have hty:c.1=ty:=by
   unfold ofC at hv
   rw[hl]at hv
   refine Classical.byContradiction λq=>?_
   have hv:(if c.1≠ty then(([]:List Int),(111:Int)) else(c.2,0)).2=0:=hv
   rw[if_pos q]at hv
   cases hv
  have ho:ofC (cnsC (tyL pl) pl k).1 (agI pl k 1) ty=(c.2,0):=zpf (by rw[hl,<-hty])
  rw[ho]
  have hm:=zrY W (Nat.le_of_lt hk) (Nat.le_refl pl.length) hl
  refine⟨rfl,?_,λ_=>⟨?_,?_⟩⟩
  ·show c.2.length=(tA (tyL pl) ty).size
   rw[zut h hp h0 hm,hty]
  ·show c.2=((zC (cnL pl) (agI pl k 1)).getD (0,[])).2
   rw[hm]
   rfl
  ·rw[hm]
   rfl
theorem zry(h:CnOk bd pl)(hp:PlOk pl)(h0:0<=bd)(id:Int):(vnA (vnL pl) id).2.2.length<=4096:=by
 unfold vnA
 cases hl:zC (vnL pl) id with
 |none=>exact Nat.zero_le _
 |some c=>
  obtain⟨j,j1,j2,j3,rfl⟩:=((zcM (T:=tyL pl) (h.whole hp h0) _ pl.length (Nat.le_refl _)).2 c).1 hl
  have:=(zwm h hp h0 j1 j2).2.1
  show(vaP (tyL pl) pl j).2.2.length<=4096
  rw[this]
  exact zj5 (h.tb hp h0) _
end
end Go.Proofs
namespace Go.Proofs
open Go.Gk Go.RowKit Go.Gm
abbrev Po:=Int×Int×Int×Int×Int×Bool×Unit
abbrev Po.loc(p:Po):Int:=p.2.1
abbrev Po.bui(p:Po):Int:=p.2.2.1
abbrev Po.sg(p:Po):Bool:=p.2.2.2.2.2.1
def po0:Po:=(0,0,0,0,0,false,())
def arN(p:PI)(j:Nat):Int:=(p.2.2.2.getD j ag0).2.1
def arS(p:PI)(j:Nat):ByteArray:=(p.2.2.2.getD j ag0).2.2
def fnZ:FnL:=⟨0,0,0,[],[]⟩
structure Fc where
 pl:List PI
 T:TyL
 V:VnL
 fl:List FnL
 rd:Int->List Nat
abbrev En:=Int×Int×ByteArray×List Int
def entF(p:PI):En:=(arN p 0,arN p 1,arS p 2,(p.2.2.2.drop 3).map (·.2.1))
def keyP(p:Po):Int:=if 0<=p.2.1 then p.2.1 else 4294967297+p.2.2.1
def unlR(a b:Po):Prop:=¬(0<=b.2.1/\a.2.1=b.2.1)/\¬(0<=b.2.2.1/\a.2.2.1=b.2.2.1)
instance unlRD(a b:Po):Decidable (unlR a b):=inferInstanceAs (Decidable (_ ∧ _))
def unlk(l:List Po):Bool:=decide (l.Pairwise unlR)
def mayB(model cls:Int)(p:Po):Bool:=decide (p.2.2.1<0)||(model==0&&cls==1&&p.2.2.1==5&&p.2.2.2.2.1==1)||(model==0&&cls==3&&p.2.2.1==0&&p.2.2.2.2.1==4&&p.2.2.2.2.2.1)||(model==4&&cls==1&&p.2.2.1==15&&p.2.2.2.2.1==4&&p.2.2.2.2.2.1)
def plcd(kind:Int):Bool:=kind==30||kind==11
namespace Fc
variable (F:Fc)
def cls(id:Int):Int:=if (zC F.V id).isSome=true/\((vnA F.V id).1=1\/(vnA F.V id).1=3) then(vnA F.V id).1 else 0
def dec(id:Int):List PI:=F.pl.filter λp=>p.1==71&&arN p 0==id
def say(id kind:Int):Int:=match (F.dec id).find? λp=>arN p 1==kind&&p.2.2.2.length==3 with
 |some p=>arN p 2
 |none=>-1
def flat(id:Int):Bool:=(F.dec id).any λp=>arN p 1==14
def nty(ty:Int):Int:=if (tA F.T ty).kind=4 then((tA F.T ty).prt 0).1 else ty
def isN(ty:Int):Bool:=(tA F.T (F.nty ty)).kind==3
def port(id:Int):Po:=(id,F.say id 30,F.say id 11,(vnA F.V id).2.1,((tA F.T (vnA F.V id).2.1).size:Int),(tA F.T (F.nty (vnA F.V id).2.1)).sg,())
def pts(ids:List Int)(c:Int):List Po:=(ids.filter λid=>F.cls id==c).map F.port
def fn(id:Int):Int:=match F.fl.findIdx? λf=>f.id==id with
 |some k=>(k:Int)
 |none=>-1
def fnA(n:Int):FnL:=F.fl.getD n.toNat fnZ
def enterd(k:Nat):Bool:=
 decide (0<=F.fn (entF (ix F.pl k)).2.1)&&(F.fnA (F.fn (entF (ix F.pl k)).2.1)).ps.isEmpty&&(tA F.T (ix F.pl (F.fnA (F.fn (entF (ix F.pl k)).2.1)).at_.toNat).2.1).kind==1 &&
 ((List.range F.pl.length).all λj=>!((ix F.pl j).1==57&&arN (ix F.pl j) 0==(entF (ix F.pl k)).2.1)) &&
 ((List.range k).all λj=>!((ix F.pl j).1==15&&(entF (ix F.pl j)).1==(entF (ix F.pl k)).1&&decide ((entF (ix F.pl j)).2.2.1=(entF (ix F.pl k)).2.2.1))) &&
 ((entF (ix F.pl k)).1 !=4||(List.range F.pl.length).any λj=>(ix F.pl j).1==16&&arN (ix F.pl j) 0==(entF (ix F.pl k)).2.1)
def usedAt(ids:List Int)(j:Nat):Bool:=(idsP (ix F.pl j).2.1 (ix F.pl j).2.2.2).all λid=>F.cls id==0||ids.contains id
def usedF(ids:List Int)(n:Nat):Bool:=(List.range ((F.fl.getD n fnZ).en.toNat-(F.fl.getD n fnZ).at_.toNat)).all λj=>F.usedAt ids ((F.fl.getD n fnZ).at_.toNat +j)
def used(e:En):Bool:=(F.rd (F.fn e.2.1)).all (F.usedF e.2.2.2)
def okId(e:En)(k:Nat):Bool:=F.cls (e.2.2.2.getD k 0) !=0&&F.isN (F.port (e.2.2.2.getD k 0)).2.2.2.1&&!(e.2.2.2.take k).contains (e.2.2.2.getD k 0)&&mayB e.1 (F.cls (e.2.2.2.getD k 0)) (F.port (e.2.2.2.getD k 0))
def outs(e:En):Bool:=if e.1=4 then(match F.pts e.2.2.2 3 with
 | [p]=>p.2.1==0&&p.2.2.2.2.1==1
 |_=>false) else(F.pts e.2.2.2 3).any λp=>p.2.2.1==0
def facd(e:En):Bool:=((List.range e.2.2.2.length).all (F.okId e))&&F.used e&&unlk (F.pts e.2.2.2 1)&&unlk (F.pts e.2.2.2 3)&&F.outs e
def decd(e:En):Bool:=e.2.2.2.all λid=>!((decide ((F.port id).2.1<0)&&decide ((F.port id).2.2.1<0))||(e.1==4&&F.cls id==1&&!F.flat id))
def modd(k:Nat):Bool:=((List.range k).all λj=>!((ix F.pl j).1==16&&decide ((ix F.pl j).2.2.2=(ix F.pl k).2.2.2)))&&((List.range k).any λj=>(ix F.pl j).1==15&&arN (ix F.pl j) 0==4&&arN (ix F.pl j) 1==arN (ix F.pl k) 0)
def decn(k:Nat):Bool:=
 let i:=ix F.pl k
 if plcd (arN i 1) !=(i.2.2.2.length==3)||decide (3<i.2.2.2.length) then false
 else if arN i 1==0 then true
 else F.cls (arN i 0) !=0&&(arN i 1 !=11||arN i 2==0||arN i 2==5||arN i 2==15) &&
  (List.range k).all λj=>!((ix F.pl j).1==71&&arN (ix F.pl j) 0==arN i 0&&(arN (ix F.pl j) 1==arN i 1||(plcd (arN i 1)&&plcd (arN (ix F.pl j) 1))))
def kild(k:Nat):Bool:=(List.range F.pl.length).all λj=>!((ix F.pl j).1==15&&arN (ix F.pl j) 0==0)||(F.rd (F.fn (arN (ix F.pl j) 1))).all λn=>!(decide ((F.fl.getD n fnZ).at_<(k:Int))&&decide ((k:Int)<(F.fl.getD n fnZ).en))
def err(k:Nat):Int:=
 if (ix F.pl k).1=15 then(if !F.enterd k then 200 else if !F.facd (entF (ix F.pl k)) then 201 else if !F.decd (entF (ix F.pl k)) then 202 else 0)
 else if (ix F.pl k).1=16 then(if !F.modd k then 200 else 0)
 else if (ix F.pl k).1=71 then(if !F.decn k then 202 else 0)
 else if (ix F.pl k).1=252 then(if !F.kild k then 204 else 0)
 else 0
def all:Int×Int:=match (List.range F.pl.length).find? λk=>F.err k !=0 with
 |some k=>(F.err k,(k:Int))
 |none=>(0,0)
theorem all_at{k:Nat}(hk:k<F.pl.length)(he:F.err k≠0)(hj:∀j,j<k->F.err j=0):F.all=(F.err k,(k:Int)):=by
 unfold all
 rw[List.find?_range_eq_some.2 ⟨by simpa using he,List.mem_range.2 hk,λj hj'=>by simp[hj j hj']⟩]
theorem all_ok(hj:∀j,j<F.pl.length->F.err j=0):F.all=(0,0):=by
 unfold all
 rw[List.find?_eq_none.2 λk hk=>by simp[hj k (List.mem_range.1 hk)]]
theorem all_zero(h:F.all.1=0):∀j,j<F.pl.length->F.err j=0:=by
 intro k hk
 unfold all at h
 cases hf:(List.range F.pl.length).find? λk=>F.err k !=0 with
 |none=>
  have:=List.find?_eq_none.1 hf k (List.mem_range.2 hk)
  simpa using this
 |some j=>
  rw[hf]at h
  have:=List.find?_some hf
  have h:F.err j=0:=h
  rw[h]at this
  cases this
end Fc
structure SrtP (l' l:List Po):Prop where
 perm:l'.Perm l
 so:l'.Pairwise λa b=>keyP a<=keyP b
abbrev Fa:=ByteArray×Int×Int×List Po×List Po
structure FaOk (F:Fc) (f:Fa) (p:PI):Prop where
 name:f.1=(entF p).2.2.1
 model:f.2.1=(entF p).1
 fn:f.2.2.1=(entF p).2.1
 ins:SrtP f.2.2.2.1 (F.pts (entF p).2.2.2 1)
 outs:SrtP f.2.2.2.2 (F.pts (entF p).2.2.2 3)
end Go.Proofs
namespace Go.Proofs
open Go.Gk Go.RowKit Go.Gm
abbrev poV(p:Po):List Value:=[.int .u32 p.1,.int .i64 p.2.1,.int .i64 p.2.2.1,.int .u32 p.2.2.2.1,.int .i64 p.2.2.2.2.1,.bool p.2.2.2.2.2.1]
abbrev poA(p:Po):Value:=.agg #[.int .u32 p.1,.int .i64 p.2.1,.int .i64 p.2.2.1,.int .u32 p.2.2.2.1,.int .i64 p.2.2.2.2.1,.bool p.2.2.2.2.2.1]
theorem zM:∀p,(poV p).length=6:=λ_=>rfl
abbrev IsPs(w:World)(s:Sl)(l:List Po):Prop:=IsC 6 poV w s l
abbrev Sv:=Int×Int×Sl×Unit
abbrev slV(x:Sv):List Value:=[.int .i64 x.1,.int .i64 x.2.1,.slice x.2.2.1.a x.2.2.1.l x.2.2.1.c]
abbrev slA(x:Sv):Value:=.agg #[.int .i64 x.1,.int .i64 x.2.1,.slice x.2.2.1.a x.2.2.1.l x.2.2.1.c]
theorem zcx:∀p,(slV p).length=3:=λ_=>rfl
abbrev Slt:=Int×Int×List Int
structure SltR (w:World) (x:Sv) (y:Slt):Prop where
 loc:x.1=y.1
 bui:x.2.1=y.2.1
 wds:IsS (Value.int .u32) w x.2.2.1 y.2.2
theorem SltR.below{w w':World}{x:Sv}{y:Slt}(h:SltR w x y)(hb:Below w.heap.size w w'):SltR w' x y:=⟨h.loc,h.bui,h.wds.below hb⟩
structure zdB (w:World) (s:Sl) (ll:List Slt):Prop where
 ex:∃hs:List Sv,IsC 3 slV w s hs/\hs.length=ll.length/\∀(i:Nat) (h:i<hs.length) (h':i<ll.length),SltR w hs[i] ll[i]
theorem zdB.below{w w':World}{s:Sl}{ll:List Slt}(h:zdB w s ll)(hb:Below w.heap.size w w'):zdB w' s ll:=by
 obtain⟨hs,h1,h2,h3⟩:=h.ex
 exact⟨hs,IsC.below zcx h1 hb,h2,λi q q'=>(h3 i q q').below hb⟩
abbrev Fw:=ByteArray×Int×Int×Sl×Sl×Unit
abbrev faV(x:Fw):List Value:=[.string x.1,.int .u32 x.2.1,.int .u32 x.2.2.1,.slice x.2.2.2.1.a x.2.2.2.1.l x.2.2.2.1.c,.slice x.2.2.2.2.1.a x.2.2.2.2.1.l x.2.2.2.2.1.c]
abbrev faA(x:Fw):Value:=.agg #[.string x.1,.int .u32 x.2.1,.int .u32 x.2.2.1,.slice x.2.2.2.1.a x.2.2.2.1.l x.2.2.2.1.c,.slice x.2.2.2.2.1.a x.2.2.2.2.1.l x.2.2.2.2.1.c]
theorem zkq:∀p,(faV p).length=5:=λ_=>rfl
structure FaR (w:World) (x:Fw) (f:Fa):Prop where
 name:x.1=f.1
 model:x.2.1=f.2.1
 fn:x.2.2.1=f.2.2.1
 ins:IsPs w x.2.2.2.1 f.2.2.2.1
 outs:IsPs w x.2.2.2.2.1 f.2.2.2.2
theorem FaR.below{w w':World}{x:Fw}{f:Fa}(h:FaR w x f)(hb:Below w.heap.size w w'):FaR w' x f:=⟨h.name,h.model,h.fn,IsC.below zM h.ins hb,IsC.below zM h.outs hb⟩
structure znT (w:World) (s:Sl) (fs:List Fa):Prop where
 ex:∃hs:List Fw,IsC 5 faV w s hs/\hs.length=fs.length/\∀(i:Nat) (h:i<hs.length) (h':i<fs.length),FaR w hs[i] fs[i]
theorem znT.below{w w':World}{s:Sl}{fs:List Fa}(h:znT w s fs)(hb:Below w.heap.size w w'):znT w' s fs:=by
 obtain⟨hs,h1,h2,h3⟩:=h.ex
 exact⟨hs,IsC.below zkq h1 hb,h2,λi q q'=>(h3 i q q').below hb⟩
theorem zeQ{w:World}{s:Sl}{l:List Po}(h:IsPs w s l){k:Nat}(hk:k<l.length){φ:Int->Int->Int->Int->Int->Bool->Prop}(hφ:φ l[k].1 l[k].2.1 l[k].2.2.1 l[k].2.2.2.1 l[k].2.2.2.2.1 l[k].2.2.2.2.2.1) :
  (0<=(k:Int)/\(k:Int)<(s.l:Int))/\zc s.a λa=>ldI w ((a.add (Int.toNat (k:Int)*6)).add 0) .u32 λy0=>ldI w ((a.add (Int.toNat (k:Int)*6)).add 1) .i64 λy1=>ldI w ((a.add (Int.toNat (k:Int)*6)).add 2) .i64 λy2=>ldI w ((a.add (Int.toNat (k:Int)*6)).add 3) .u32 λy3=>ldI w ((a.add (Int.toNat (k:Int)*6)).add 4) .i64 λy4=>ldB w ((a.add (Int.toNat (k:Int)*6)).add 5) λy5=>φ y0 y1 y2 y3 y4 y5:=by
 obtain⟨a,ha⟩:=h.base hk
 have hc:=λj hj=>h.cell a ha k hk j hj
 have hl:=h.len
 exact⟨⟨by omega,by omega⟩,ze ha ⟨_,by rw[zn];exact hc 0 (by decide),_,by rw[zn];exact hc 1 (by decide),_,by rw[zn];exact hc 2 (by decide),_,by rw[zn];exact hc 3 (by decide),_,by rw[zn];exact hc 4 (by decide),_,by rw[zn];exact hc 5 (by decide),hφ⟩⟩
theorem Po.load{w:World}{b:Nat}{T:TypeId}{p:Po}(h:Blk w b T (poV p)){φ:Int->Int->Int->Int->Int->Bool->Prop}(hφ:φ p.1 p.2.1 p.2.2.1 p.2.2.2.1 p.2.2.2.2.1 p.2.2.2.2.2.1) :
  ldI w ((blk b).add 0) .u32 λy0=>ldI w ((blk b).add 1) .i64 λy1=>ldI w ((blk b).add 2) .i64 λy2=>ldI w ((blk b).add 3) .u32 λy3=>ldI w ((blk b).add 4) .i64 λy4=>ldB w ((blk b).add 5) λy5=>φ y0 y1 y2 y3 y4 y5:=
 h.rI (n:=0) rfl (h.rI (n:=1) rfl (h.rI (n:=2) rfl (h.rI (n:=3) rfl (h.rI (n:=4) rfl (h.rB (n:=5) rfl hφ)))))
end Go.Proofs
namespace Go.Proofs
open Go.Gk Go.RowKit Go.ChangeShapes Go.WideShapes Go.Deep
namespace Jn
section
variable {H:Type} {enc:TypeId×Value->H}
set_option maxRecDepth 100000 in
theorem ztI{W:World}{fuel:Nat}{cs:List Value}{x:DataW H×List MemPlace}(hf:DataW.trod enc Tryz.prog W 0 (λ_=>true) true fuel 52 cs=some x):∃p:Po,cs=poV p:=by
 obtain⟨xs,n,_,hx,hl,hlen,hff⟩:=DataW.trod_struct Tryz.underlying52 hf
 have hsz:Tryz.prog.cellsOf 52=6:=by kernel_rfl
 have c1:Tryz.prog.cellsOf 22=1:=by kernel_rfl
 have c2:Tryz.prog.cellsOf 3=1:=by kernel_rfl
 have c3:Tryz.prog.cellsOf 4=1:=by kernel_rfl
 rw[hsz]at hl
 match xs,hlen,cs,hl with
 | [y0,y1,y2,y3,y4,y5],_,[u0,u1,u2,u3,u4,u5],_=>
  have f0:=hff 0 _ rfl
  have f1:=hff 1 _ rfl
  have f2:=hff 2 _ rfl
  have f3:=hff 3 _ rfl
  have f4:=hff 4 _ rfl
  have f5:=hff 5 _ rfl
  simp only[List.getElem?_cons_zero,List.getElem?_cons_succ]at f0 f1 f2 f3 f4 f5
  have f0':DataW.trod enc Tryz.prog W 0 (λ_=>true) true n 22 [u0]=some y0:=by simpa[c1] using f0
  have f1':DataW.trod enc Tryz.prog W 0 (λ_=>true) true n 3 [u1]=some y1:=by simpa[c2] using f1
  have f2':DataW.trod enc Tryz.prog W 0 (λ_=>true) true n 3 [u2]=some y2:=by simpa[c2] using f2
  have f3':DataW.trod enc Tryz.prog W 0 (λ_=>true) true n 22 [u3]=some y3:=by simpa[c1] using f3
  have f4':DataW.trod enc Tryz.prog W 0 (λ_=>true) true n 3 [u4]=some y4:=by simpa[c2] using f4
  have f5':DataW.trod enc Tryz.prog W 0 (λ_=>true) true n 4 [u5]=some y5:=by simpa[c3] using f5
  obtain⟨a,ha,_⟩:=uI Tryz.underlying22 f0'
  obtain⟨b,hb,_⟩:=uI Tryz.underlying3 f1'
  obtain⟨c,hc,_⟩:=uI Tryz.underlying3 f2'
  obtain⟨d,hd,_⟩:=uI Tryz.underlying22 f3'
  obtain⟨e,he,_⟩:=uI Tryz.underlying3 f4'
  obtain⟨g,hg,_⟩:=DataW.trod_bool Tryz.underlying4 f5'
  simp only[List.cons.injEq,and_true]at ha hb hc hd he hg
  exact⟨(a,b,c,d,e,g,()),by rw[ha,hb,hc,hd,he,hg]⟩
set_option maxRecDepth 100000 in
theorem zgq{W:World}{fuel0:Nat}{cs:List Value}{d:DataW H}{p:List MemPlace}(hf:DataW.trod enc Tryz.prog W 0 (λ_=>true) true fuel0 45 cs=some (d,p))
  (hz:∀n∈d.weights Tryz.prog 45,n<=reachBytes) :
  ∃(s:Sl) (l:List Po),cs=[.slice s.a s.l s.c]/\IsPs W s l/\48*l.length<=140737488351232:=by
 have b48:Tryz.prog.bytesOf 52=48:=by kernel_rfl
 have c6:Tryz.prog.cellsOf 52=6:=by kernel_rfl
 have hr:reachBytes=140737488351232:=by decide +kernel
 have hm63:maxLen=9223372036854775807:=by decide +kernel
 rcases open_slice Tryz.underlying45 hf with⟨hcs0,hx⟩ | ⟨a,len,cap,m,n,D,Pl,hcs0,_,hl,hm,hmm,hx,hrows⟩
 ·exact⟨⟨none,0,0⟩,[],hcs0,⟨rfl,Nat.le_refl _,Nat.zero_le _,λ_=>rfl,λa ha=>by cases ha⟩,by simp⟩
 ·simp only[Prod.mk.injEq]at hx
  obtain⟨rfl,_⟩:=hx
  have hmm:m=cap:=by simpa using hmm
  subst hmm
  have each:∀i,i<len->∃x:Po,True/\∀j,j<6->W.cell? (a.add (i*6+j))=(poV x)[j]?:=by
   intro i hi
   obtain⟨cs',h1,h2⟩:=hrows i (by omega)
   rw[c6]at h1
   obtain⟨_,hlen,hcell⟩:=World.cells?_some h1
   obtain⟨q,e⟩:=ztI h2
   subst e
   refine⟨q,trivial,λj hj=>?_⟩
   have:=hcell j hj
   rw[zn]at this
   exact this
  obtain⟨q,hq⟩:=choose_lt each
  refine⟨⟨some a,len,m⟩,(List.range len).map q,hcs0,⟨by simp,hl,by rw[<-hm63];exact hm,(λh=>by cases h),?_⟩,?_⟩
  ·intro a' ha i hi j hj
   cases ha
   have hi':i<len:=by simpa using hi
   rw[(hq i hi').2 j hj]
   simp
  ·have:=hz (((List.range len).map D).length*48+((List.range (m-len)).map λj=>D (len+j)).length*48)
    (by simp only[DataW.weights,Tryz.underlying45,b48,<-Nat.add_mul];exact List.mem_cons_self)
   simp only[List.length_map,List.length_range]at this⊢
   omega
set_option maxRecDepth 100000 in
theorem open_ports{W:World}{base:Nat}{v:Value}{d:DataW H}{p:List MemPlace}(hv:Value.okWide Tryz.prog W .any base 45 v)(h0:DataW.Trod enc Tryz.prog W 0 (λ_=>true) true 45 v d p)
  (hz:∀n∈d.weights Tryz.prog 45,n<=reachBytes) :
  ∃(s:Sl) (l:List Po),v =.slice s.a s.l s.c/\IsPs W s l/\48*l.length<=140737488351232:=by
 obtain⟨a0,len,cap,rfl⟩:=okWide_slice Tryz.underlying45 hv
 obtain⟨fuel,hf⟩:=h0
 obtain⟨s,l,h1,h2,h3⟩:=zgq hf hz
 refine⟨s,l,?_,h2,h3⟩
 simpa[Value.cells] using h1
set_option maxRecDepth 100000 in
theorem zpi{W:World}{fuel0:Nat}{cs:List Value}{d:DataW H}{p:List MemPlace}(hf:DataW.trod enc Tryz.prog W 0 (λ_=>true) true fuel0 56 cs=some (d,p))
  (hz:∀n∈d.weights Tryz.prog 56,n<=reachBytes) :
  ∃(s:Sl) (T:List Int),cs=[.slice s.a s.l s.c]/\IsS (Value.int .u32) W s T/\4*T.length<=140737488351232:=by
 have b4:Tryz.prog.bytesOf 22=4:=by kernel_rfl
 have c1:Tryz.prog.cellsOf 22=1:=by kernel_rfl
 have hr:reachBytes=140737488351232:=by decide +kernel
 have hm63:maxLen=9223372036854775807:=by decide +kernel
 rcases open_slice Tryz.underlying56 hf with⟨hcs0,hx⟩ | ⟨a,len,cap,m,n,D,Pl,hcs0,_,hl,hm,hmm,hx,hrows⟩
 ·exact⟨⟨none,0,0⟩,[],hcs0,⟨rfl,Nat.le_refl _,Nat.zero_le _,λ_=>rfl,λa ha=>by cases ha⟩,by simp⟩
 ·simp only[Prod.mk.injEq]at hx
  obtain⟨rfl,_⟩:=hx
  have hmm:m=cap:=by simpa using hmm
  subst hmm
  have hw:=hz (((List.range len).map D).length*4+((List.range (m-len)).map λj=>D (len+j)).length*4)
    (by simp only[DataW.weights,Tryz.underlying56,b4,<-Nat.add_mul];exact List.mem_cons_self)
  have each:∀i,i<len->∃q:Int,True/\W.cell? (a.add i)=some (.int .u32 q):=by
   intro i hi
   obtain⟨cs',h1,h2⟩:=hrows i (by omega)
   rw[c1]at h1
   obtain⟨_,hlen,hcell⟩:=World.cells?_some h1
   have hc0:=hcell 0 (by omega)
   rw[zn,Nat.mul_one,Nat.add_zero]at hc0
   match cs',hlen with
   | [u0],_=>
    obtain⟨q,hq,_⟩:=uI Tryz.underlying22 h2
    simp only[List.cons.injEq,and_true]at hq
    subst hq
    exact⟨q,trivial,hc0⟩
  obtain⟨q,hq⟩:=choose_lt each
  refine⟨⟨some a,len,m⟩,(List.range len).map q,hcs0,⟨by simp,hl,by rw[<-hm63];exact hm,(λh=>by cases h),?_⟩,?_⟩
  ·intro a' ha i hi
   cases ha
   have hi':i<len:=by simpa using hi
   simp only[List.getElem_map,List.getElem_range]
   exact(hq i hi').2
  ·simp only[List.length_map,List.length_range]at hw⊢
   omega
set_option maxRecDepth 100000 in
theorem ztJ{W:World}{fuel:Nat}{cs:List Value}{d:DataW H}{p:List MemPlace}(hf:DataW.trod enc Tryz.prog W 0 (λ_=>true) true fuel 58 cs=some (d,p))
  (hz:∀n∈d.weights Tryz.prog 58,n<=reachBytes) :
  ∃(x:Sv) (y:Slt),cs=slV x/\SltR W x y/\4*y.2.2.length<=140737488351232:=by
 obtain⟨y0,y1,y2,n,hx,hl,f0,f1,f2⟩:=trod_struct3 Tryz.underlying58 hf
 have hsz:Tryz.prog.cellsOf 58=3:=by kernel_rfl
 have c1:Tryz.prog.cellsOf 3=1:=by kernel_rfl
 have c3:Tryz.prog.cellsOf 56=1:=by kernel_rfl
 rw[hsz]at hl
 match cs,hl with
 | [u0,u1,u2],_=>
  have f0':DataW.trod enc Tryz.prog W 0 (λ_=>true) true n 3 [u0]=some y0:=by simpa[c1] using f0
  have f1':DataW.trod enc Tryz.prog W 0 (λ_=>true) true n 3 [u1]=some y1:=by simpa[c1] using f1
  have f2':DataW.trod enc Tryz.prog W 0 (λ_=>true) true n 56 [u2]=some y2:=by simpa[c3] using f2
  obtain⟨a,ha,_⟩:=uI Tryz.underlying3 f0'
  obtain⟨b,hb,_⟩:=uI Tryz.underlying3 f1'
  simp only[Prod.mk.injEq]at hx
  obtain⟨rfl,_⟩:=hx
  obtain⟨s,l,h1,h2,h3⟩:=zpi (d:=y2.1) (p:=y2.2) f2' (λm hm=>hz m (by
   simp only[DataW.weights,Tryz.underlying58]
   exact DataW.weights_mem_each (j:=2) (t:=56) rfl rfl m hm))
  simp only[List.cons.injEq,and_true]at ha hb h1
  exact⟨(a,b,s,()),(a,b,l),by rw[ha,hb,h1],⟨rfl,rfl,h2⟩,h3⟩
set_option maxRecDepth 100000 in
theorem open_slots{W:World}{base:Nat}{v:Value}{d:DataW H}{p:List MemPlace}(hv:Value.okWide Tryz.prog W .any base 54 v)(h0:DataW.Trod enc Tryz.prog W 0 (λ_=>true) true 54 v d p)
  (hz:∀n∈d.weights Tryz.prog 54,n<=reachBytes) :
  ∃(s:Sl) (ll:List Slt),v =.slice s.a s.l s.c/\zdB W s ll/\40*ll.length<=140737488351232/\∀y∈ll,4*y.2.2.length<=140737488351232:=by
 obtain⟨a0,len0,cap0,rfl⟩:=okWide_slice Tryz.underlying54 hv
 obtain⟨fuel,hf⟩:=h0
 have b40:Tryz.prog.bytesOf 58=40:=by kernel_rfl
 have c3:Tryz.prog.cellsOf 58=3:=by kernel_rfl
 have hr:reachBytes=140737488351232:=by decide +kernel
 have hm63:maxLen=9223372036854775807:=by decide +kernel
 rcases open_slice Tryz.underlying54 hf with⟨hcs0,hx⟩ | ⟨a,len,cap,m,n,D,Pl,hcs0,_,hl,hm,hmm,hx,hrows⟩
 ·simp[Value.cells]at hcs0
  obtain⟨rfl,rfl,rfl⟩:=hcs0
  exact⟨⟨none,0,0⟩,[],rfl,⟨[],⟨rfl,Nat.le_refl _,Nat.zero_le _,λ_=>rfl,λa ha=>by cases ha⟩,rfl,λi h=>by cases h⟩,by simp,by simp⟩
 ·simp[Value.cells]at hcs0
  obtain⟨rfl,rfl,rfl⟩:=hcs0
  simp only[Prod.mk.injEq]at hx
  obtain⟨rfl,_⟩:=hx
  have hmm:m=cap0:=by simpa using hmm
  subst hmm
  have hw:=hz (((List.range len0).map D).length*40+((List.range (m-len0)).map λj=>D (len0+j)).length*40)
    (by simp only[DataW.weights,Tryz.underlying54,b40,<-Nat.add_mul];exact List.mem_cons_self)
  have:Inhabited (Sv×Slt):=⟨((0,0,⟨none,0,0⟩,()),(0,0,[]))⟩
  have each:∀i,i<len0->∃q:Sv×Slt,(SltR W q.1 q.2/\4*q.2.2.2.length<=140737488351232)/\∀j,j<3->W.cell? (a.add (i*3+j))=(slV q.1)[j]?:=by
   intro i hi
   obtain⟨cs',h1,h2⟩:=hrows i (by omega)
   rw[c3]at h1
   obtain⟨_,hlen,hcell⟩:=World.cells?_some h1
   have hmem:D i∈(List.range len0).map D:=List.mem_map.2 ⟨i,List.mem_range.2 hi,rfl⟩
   obtain⟨x,y,e,g1,g2⟩:=ztJ h2 (λn hn=>hz n (by
    simp only[DataW.weights,Tryz.underlying54]
    exact List.mem_cons_of_mem _ (List.mem_append.2 (.inl (zkb hn hmem)))))
   subst e
   refine⟨(x,y),⟨g1,g2⟩,λj hj=>?_⟩
   have:=hcell j hj
   rw[zn]at this
   exact this
  obtain⟨q,hq⟩:=choose_lt each
  refine⟨⟨some a,len0,m⟩,(List.range len0).map λi=>(q i).2,rfl,⟨(List.range len0).map λi=>(q i).1,⟨by simp,hl,by rw[<-hm63];exact hm,(λh=>by cases h),?_⟩,by simp,λi h h'=>?_⟩,?_,?_⟩
  ·intro a' ha i hi j hj
   cases ha
   have hi':i<len0:=by simpa using hi
   rw[(hq i hi').2 j hj]
   simp
  ·have hi':i<len0:=by simpa using h
   simp only[List.getElem_map,List.getElem_range]
   exact(hq i hi').1.1
  ·simp only[List.length_map,List.length_range]at hw⊢
   omega
  ·intro y hy
   obtain⟨i,hi,rfl⟩:=List.mem_map.1 hy
   exact(hq i (List.mem_range.1 hi)).1.2
set_option maxRecDepth 100000 in
theorem open_face{W:World}{base:Nat}{v:Value}{d:DataW H}{p:List MemPlace}(hv:Value.okWide Tryz.prog W .any base 47 v)(h0:DataW.Trod enc Tryz.prog W 0 (λ_=>true) true 47 v d p)
  (hz:∀n∈d.weights Tryz.prog 47,n<=reachBytes) :
  ∃(x:Fw) (f:Fa),v=faA x/\FaR W x f/\48*f.2.2.2.1.length<=140737488351232/\48*f.2.2.2.2.length<=140737488351232:=by
 obtain⟨cs,rfl,hcs⟩:=okWide_struct Tryz.underlying47 hv
 obtain⟨fuel,hf⟩:=h0
 obtain⟨xs,n,_,hx,hl,hlen,hff⟩:=DataW.trod_struct Tryz.underlying47 hf
 have hsz:Tryz.prog.cellsOf 47=5:=by kernel_rfl
 have c0:Tryz.prog.cellsOf 9=1:=by kernel_rfl
 have c1:Tryz.prog.cellsOf 22=1:=by kernel_rfl
 have c3:Tryz.prog.cellsOf 45=1:=by kernel_rfl
 rw[hsz]at hcs
 match xs,hlen with
 | [y0,y1,y2,y3,y4],_=>
  have f0:=hff 0 _ rfl
  have f1:=hff 1 _ rfl
  have f2:=hff 2 _ rfl
  have f3:=hff 3 _ rfl
  have f4:=hff 4 _ rfl
  obtain⟨u0,u1,u2,u3,u4,hu⟩:∃u0 u1 u2 u3 u4,cs.toList=[u0,u1,u2,u3,u4]:=by
   have hl4:cs.toList.length=5:=by simpa using hcs
   match cs.toList,hl4 with
   | [u0,u1,u2,u3,u4],_=>exact⟨u0,u1,u2,u3,u4,rfl⟩
  have hce:(Value.agg cs).cells.toList=[u0,u1,u2,u3,u4]:=by simpa[Value.cells] using hu
  simp only[hce,List.getElem?_cons_zero,List.getElem?_cons_succ]at f0 f1 f2 f3 f4
  have f0':DataW.trod enc Tryz.prog W 0 (λ_=>true) true n 9 [u0]=some y0:=by simpa[c0] using f0
  have f1':DataW.trod enc Tryz.prog W 0 (λ_=>true) true n 22 [u1]=some y1:=by simpa[c1] using f1
  have f2':DataW.trod enc Tryz.prog W 0 (λ_=>true) true n 22 [u2]=some y2:=by simpa[c1] using f2
  have f3':DataW.trod enc Tryz.prog W 0 (λ_=>true) true n 45 [u3]=some y3:=by simpa[c3] using f3
  have f4':DataW.trod enc Tryz.prog W 0 (λ_=>true) true n 45 [u4]=some y4:=by simpa[c3] using f4
  obtain⟨a,ha,_⟩:=DataW.trod_string Tryz.underlying9 f0'
  obtain⟨b,hb,_⟩:=uI Tryz.underlying22 f1'
  obtain⟨c,hc,_⟩:=uI Tryz.underlying22 f2'
  simp only[Prod.mk.injEq]at hx
  obtain⟨rfl,_⟩:=hx
  obtain⟨s,l,h1,h2,h3⟩:=zgq (d:=y3.1) (p:=y3.2) f3' (λm hm=>hz m (by
   simp only[DataW.weights,Tryz.underlying47]
   exact DataW.weights_mem_each (j:=3) (t:=45) rfl rfl m hm))
  obtain⟨s',l',h1',h2',h3'⟩:=zgq (d:=y4.1) (p:=y4.2) f4' (λm hm=>hz m (by
   simp only[DataW.weights,Tryz.underlying47]
   exact DataW.weights_mem_each (j:=4) (t:=45) rfl rfl m hm))
  refine⟨(a,b,c,s,s',()),(a,b,c,l,l'),?_,⟨rfl,rfl,rfl,h2,h2'⟩,h3,h3'⟩
  have:cs=cs.toList.toArray:=by simp
  rw[this,hu]
  simp only[List.cons.injEq,and_true]at ha hb hc h1 h1'
  rw[ha,hb,hc,h1,h1']
end
end Jn
end Go.Proofs
namespace Go.Gk
open Go.RowKit Go.MapKept
variable {P:Program} {α κ:Type}
structure PkOk (P:Program) (kt:TypeId) (kv:κ->Value) [DecidableEq κ]:Prop where
 chk:∀k e w,(Instr.checkKey e 10000 kt (kv k)).run P w =.ok () w
 eq:∀a b w,(Op.equal kt (kv a) (kv b)).run P w =.ok (decide (a=b)) w
 wide:(match P.underlying kt with |some (.array _ _) |some (.struct _)=>true |_=>false)=true
 bits:∀k,Instr.sameBits 10000 (kv k) (kv k)=true
variable {kv:κ->Value} {f:α->Value} {w w':World} {r:Nat} {L:List (κ×α)} [DecidableEq κ]
theorem zmT{kt:TypeId}(hk:PkOk P kt kv)(f:α->Value)(k:κ)(w:World):∀(es:List MapEntry) (L:List (κ×α)) (i:Nat),es.map (λe=>(e.key,e.val))=(L.map λp=>(kv p.1,f p.2))->
  ∃o,(Instr.findAsking kt (kv k) es i).run P w =.ok o w/\(match o with
   |none=>zF L k=none
   |some (j,v)=>∃m x,j=i+m/\m<es.length/\v=f x/\zF L k=some x/\∃e,es[m]? =some e/\e.key=kv k/\
     ∀v',(es.modify m λe=>{e with val:=f v'}).map (λe=>(e.key,e.val))=(setG L k v').map λp=>(kv p.1,f p.2))
 | [],[],i,_=>⟨none,by simp[Instr.findAsking],rfl⟩
 | [],_::_,_,h=>by simp at h
 |_::_,[],_,h=>by simp at h
 |e::es,p::L,i,h=>by
  simp only[List.map_cons,List.cons.injEq,Prod.mk.injEq]at h
  obtain⟨⟨h1,h2⟩,h3⟩:=h
  unfold Instr.findAsking
  rw[h1]
  by_cases hkp:k=p.1
  ·refine⟨some (i,e.val),by simp[hk.eq,hkp,Result.andThen],0,p.2,rfl,by simp,h2,by simp[zF,hkp],e,rfl,by rw[h1,hkp],λv'=>?_⟩
   simp[setG,hkp,h1,h3]
  ·obtain⟨o,ho,hm⟩:=zmT hk f k w es L (i+1) h3
   refine⟨o,by simp[hk.eq,hkp,Result.andThen,ho],?_⟩
   cases o with
   |none=>simpa[zF,hkp] using hm
   |some q=>
    obtain⟨j,v⟩:=q
    obtain⟨m,x,g1,g2,g3,g4,e',g5,g6,g7⟩:=hm
    refine⟨m+1,x,by omega,by simp;omega,g3,by simpa[zF,hkp] using g4,e',by simpa using g5,g6,λv'=>?_⟩
    have:=g7 v'
    simp[setG,hkp,h1,h2,this]
def zq6(w:World)(r:Nat)(kv:κ->Value)(f:α->Value)(L:List (κ×α))(k:κ)(n:Int):Prop:=
 ∃es clock j,w.heap[r]? =some (.map es clock)/\es.toList.map (λe=>(e.key,e.val))=(L.map λp=>(kv p.1,f p.2))/\(∀x∈es.toList,x.born<clock)/\(es.toList.map (·.born)).Nodup/\
  (∃e,es.toList[j]? =some e/\(e.born:Int)=n)/\∀v',(es.toList.modify j λe=>{e with val:=f v'}).map (λe=>(e.key,e.val))=(setG L k v').map λp=>(kv p.1,f p.2)
theorem zq6.isMg{k:κ}{n:Int}(h:zq6 w r kv f L k n):IsMg w r kv f L:=by
 obtain⟨es,c,j,h1,h2,h3,h4,_⟩:=h
 exact⟨es,c,h1,h2,h3,h4⟩
theorem zg1(L:List (κ×α))(k:κ)(a b:α):setG (setG L k a) k b=setG L k b:=by
 induction L with
 |nil=>simp[setG]
 |cons p L ih=>
  by_cases h:k=p.1
  ·simp[setG,h]
  ·simp[setG,h,ih]
theorem zoW{kt:TypeId}(hk:PkOk P kt kv){t et:TypeId}(ht:P.underlying t=some (.map kt et)){z:α}(hz:∃i,P.info? et=some i/\i.zero=some (f z))(h:IsMg w r kv f L){k:κ}{x:Value}(hx:x=kv k){K:Value->Int->World->Prop}
  (hK:∀v n w',zq6 w' r kv f (setG L k ((zF L k).getD z)) k n->Go.Proofs.Chg r w w'->K v n w'):zoX P t (.map (some r)) x w K:=by
 subst hx
 obtain⟨es,c,hb,hes,hstamp,hnd⟩:=h
 obtain⟨i,hi,hzi⟩:=hz
 obtain⟨o,ho,hm⟩:=zmT hk f k w es.toList L 0 hes
 have hfk:(Instr.findKey kt (kv k) es.toList).run P w =.ok o w:=(run_findKey_eq w hk.wide _ _).trans ho
 have hg:(getObj r).run P w =.ok (.map es c) w:=Go.MapKept.run_getObj_map hb
 unfold zoX Instr.mapEntry
 simp only[Sem.run_bind,run_underlying ht,Result.andThen_ok,hg,hk.chk,hfk]
 cases o with
 |none=>
  have hm:zF L k=none:=hm
  have hzr:(zeroValue et).run P w =.ok (f z) w:=by simp[zeroValue,typeInfo,hi,hzi,Result.andThen]
  simp only[Sem.run_bind,hzr,Result.andThen_ok,run_setObj_map _ hb,Sem.run_pure]
  refine⟨_,_,_,rfl,hK _ _ _ ⟨_,_,es.size,(heap_set hb).1,?_,λx hx=>?_,?_,⟨_,by simp;rfl,rfl⟩,λv'=>?_⟩ (zaz _ _ _)⟩
  ·simp only[Array.toList_push,List.map_append,hes,List.map_cons,List.map_nil,hm,Option.getD_none]
   rw[zgO hm]
   simp
  ·rw[Array.toList_push]at hx
   rcases List.mem_append.1 hx with hx |hx
   ·exact Nat.lt_succ_of_lt (hstamp x hx)
   ·rw[List.mem_singleton.1 hx]
    exact Nat.lt_succ_self c
  ·rw[Array.toList_push,List.map_append]
   refine List.nodup_append.2 ⟨hnd,by simp,?_⟩
   intro a ha b hb e
   obtain⟨x,hx,rfl⟩:=List.mem_map.1 ha
   simp only[List.map_cons,List.map_nil,List.mem_singleton]at hb
   have:=hstamp x hx
   omega
  ·rw[zg1,zgO hm,Array.toList_push]
   have hsz:es.size=es.toList.length:=by simp
   rw[hsz,List.modify_eq_take_drop]
   simp[hes]
 |some q=>
  obtain⟨j,v0⟩:=q
  obtain⟨m,x,g1,g2,g3,g4,e,g5,g6,g7⟩:=hm
  have hj:j=m:=by omega
  subst hj
  have hst:(Instr.keyThatStays (((es[j]?).map (·.key)).getD (kv k)) (kv k)).run P w =.ok (kv k) w:=by
   have:((es[j]?).map (·.key)).getD (kv k)=kv k:=by
    rw[<-Array.getElem?_toList,g5]
    exact g6
   rw[this]
   simp[Instr.keyThatStays,hk.bits]
  have hej:es[j]? =some e:=by rw[<-Array.getElem?_toList];exact g5
  have hid:(es.toList.modify j λe=>{e with key:=kv k})=es.toList:=by
   apply List.ext_getElem?
   intro n
   rw[List.getElem?_modify]
   by_cases hn:j=n
   ·subst hn
    rw[g5]
    simp[<-g6]
   ·cases es.toList[n]?<;>simp[hn]
  have hset:setG L k ((zF L k).getD z)=L:=by
   rw[g4,Option.getD_some]
   clear hK g7 g5 g6 hes
   induction L with
   |nil=>simp[zF]at g4
   |cons p L ih=>
    by_cases hp:k=p.1
    ·simp only[zF,if_pos hp,Option.some.injEq]at g4
     simp[setG,hp,<-g4]
    ·simp only[zF,if_neg hp]at g4
     simp[setG,if_neg hp,ih g4]
  simp only[Sem.run_bind,hst,Result.andThen_ok,run_setObj_map _ hb,Sem.run_pure]
  refine⟨_,_,_,rfl,hK _ _ _ ?_ (zaz _ _ _)⟩
  rw[hset]
  refine⟨_,_,j,(heap_set hb).1,?_,λx hx=>?_,?_,⟨e,?_,?_⟩,λv'=>?_⟩
  ·rw[Array.toList_modify,hid];exact hes
  ·rw[Array.toList_modify,hid]at hx;exact hstamp x hx
  ·rw[Array.toList_modify,hid];exact hnd
  ·rw[Array.toList_modify,hid];exact g5
  ·simp[hej]
  ·rw[Array.toList_modify,hid];exact g7 v'
theorem zqQ{t:TypeId}{k:κ}{n:Int}(h:zq6 w r kv f L k n){v:α}{y:Value}(hy:y=f v){K:World->Prop}
  (hK:∀w',IsMg w' r kv f (setG L k v)->Go.Proofs.Chg r w w'->K w'):estW P t (.map (some r)) (.int .i64 n) y w K:=by
 subst hy
 obtain⟨es,c,j,hb,hes,hstamp,hnd,⟨e,he,hn⟩,hm⟩:=h
 have hg:(getObj r).run P w =.ok (.map es c) w:=Go.MapKept.run_getObj_map hb
 obtain⟨hjl,hje⟩:=List.getElem?_eq_some_iff.1 he
 have hidx:es.findIdx? (λe=>(e.born:Int)==n)=some j:=by
  have:es.toList.findIdx? (λe=>(e.born:Int)==n)=some j:=by
   rw[List.findIdx?_eq_some_iff_getElem]
   refine⟨hjl,by rw[hje];simp[hn],λi hi=>?_⟩
   have hil:i<es.toList.length:=Nat.lt_trans hi hjl
   have:=List.nodup_iff_pairwise_ne.1 hnd
   rw[List.pairwise_map]at this
   have:=List.pairwise_iff_getElem.1 this i j hil hjl hi
   rw[hje]at this
   simp only[beq_iff_eq]
   omega
  rw[<-List.findIdx?_toArray,Array.toArray_toList]at this
  exact this
 have hbn:(es.modify j λe=>{e with val:=f v}).toList.map (·.born)=es.toList.map (·.born):=by
  rw[Array.toList_modify]
  apply List.ext_getElem
  ·simp
  ·intro n q1 q2
   simp only[List.getElem_map,List.getElem_modify]
   split<;>rfl
 unfold estW Instr.entryStore
 simp only[Sem.run_bind,hg,Result.andThen_ok,asInt,asIntOf,Sem.run_pure,hidx,run_setObj_map _ hb]
 refine⟨_,rfl,hK _ ⟨_,_,(heap_set hb).1,?_,λx hx=>?_,by rw[hbn];exact hnd⟩ (zaz _ _ _)⟩
 ·rw[Array.toList_modify];exact hm v
 ·have:x.born∈es.toList.map (·.born):=by rw[<-hbn];exact List.mem_map.2 ⟨x,hx,rfl⟩
  obtain⟨y,hy,e⟩:=List.mem_map.1 this
  rw[<-e]
  exact hstamp y hy
theorem zsm{kt:TypeId}(hk:PkOk P kt kv){t et:TypeId}(ht:P.underlying t=some (.map kt et)){z:Value}(hz:∃i,P.info? et=some i/\i.zero=some z)(h:IsMg w r kv f L)(k:κ) :
  (Instr.lookup t (.map (some r)) (kv k) false).run P w =.ok (((zF L k).map f).getD z) w:=by
 obtain⟨es,c,hb,hes,_⟩:=h
 obtain⟨i,hi,hzi⟩:=hz
 obtain⟨o,ho,hm⟩:=zmT hk f k w es.toList L 0 hes
 have hfk:(Instr.findKey kt (kv k) es.toList).run P w =.ok o w:=(run_findKey_eq w hk.wide _ _).trans ho
 have hg:(getObj r).run P w =.ok (.map es c) w:=Go.MapKept.run_getObj_map hb
 unfold Instr.lookup
 simp only[Sem.run_bind,run_underlying ht,Result.andThen_ok,hg,Sem.run_pure,hk.chk,hfk]
 cases o with
 |none=>
  have hzr:(zeroValue et).run P w =.ok z w:=by simp[zeroValue,typeInfo,hi,hzi,Result.andThen]
  have hm:zF L k=none:=hm
  simp only[Sem.run_bind,hzr,Result.andThen_ok,Sem.run_pure,hm,Option.map_none,Option.getD_none,if_false,Bool.false_eq_true]
 |some q=>
  obtain⟨j,v⟩:=q
  obtain⟨m,x,g1,g2,g3,g4,_⟩:=hm
  simp only[Sem.run_bind,Sem.run_pure,Result.andThen_ok,g3,g4,Option.map_some,Option.getD_some,if_false,Bool.false_eq_true]
theorem zrX{β:BK}{kt:TypeId}(hk:PkOk P kt kv){t et:TypeId}(ht:P.underlying t=some (.map kt et)){z:β.T}(hz:∃i,P.info? et=some i/\i.zero=some (β.v z)){L:List (κ×β.T)}(h:IsMg w r kv β.v L){k:κ}{x:Value}(hx:x=kv k)
  {φ:β.T->Prop} (hφ:φ ((zF L k).getD z)):zax P t (.map (some r)) x β w φ:=by
 subst hx
 refine⟨(zF L k).getD z,?_,hφ⟩
 rw[zsm hk ht hz h k]
 cases zF L k<;>rfl
theorem zhG{i:IntKind}{kt:TypeId}(hk:PkOk P kt kv){t et:TypeId}(ht:P.underlying t=some (.map kt et)){z:Int}(hz:∃j,P.info? et=some j/\j.zero=some (.int i z)){L:List (κ×Int)}(h:IsMg w r kv (Value.int i) L){k:κ}{x:Value}(hx:x=kv k)
  {φ:Int->Prop} (hφ:φ ((zF L k).getD z)):zax P t (.map (some r)) x (BK.int i) w φ:=zrX (β:=BK.int i) hk ht hz h hx hφ
abbrev zjQ(p:Int×Int):Value:=.agg #[.int .i64 p.1,.int .i64 p.2]
theorem zuM{kt e:TypeId}(hu:P.underlying kt=some (.array 2 e))(he:P.underlying e=some (.int .i64))(hi:∃i,P.info? e=some i/\Nat.beq i.size 1=true)(hg:P.eqGuardType P.depth kt=false):PkOk P kt zjQ:=by
 obtain⟨i,hi,hs⟩:=hi
 refine⟨λk em w=>?_,λa b w=>?_,by rw[hu],λk=>?_⟩
 ·have hagg:∀w,(isAgg e).run P w =.ok false w:=λw=>by simp[isAgg,zr he]
  have hp0:∀(u v:Value) (w:World),(part e #[u,v] 0).run P w =.ok u w:=λu v w=>by simp[part,hagg]
  have hp1:∀(u v:Value) (w:World),(part e #[u,v] 1).run P w =.ok v w:=λu v w=>by simp[part,hagg]
  have h1:=Nat.eq_of_beq_eq_true hs
  have hck:∀n v w,(Instr.checkKey em (n+1) e (.int .i64 v)).run P w =.ok () w:=λn v w=>by
   unfold Instr.checkKey
   simp[zr he]
  rw[show(10000:Nat)=9998+1+1 from rfl]
  generalize 9998=D
  unfold Instr.checkKey
  simp only[Sem.run_bind,zr hu,Result.andThen_ok]
  simp only[Std.Legacy.Range.forIn_eq_forIn_range',Std.Legacy.Range.size]
  rw[show List.range' 0 ((2-0+1-1) / 1) 1=[0,1] from rfl]
  have hso:∀w,(sizeOf e).run P w =.ok 1 w:=λw=>by simp[yu hi,h1]
  simp only[List.forIn_cons,List.forIn_nil,Sem.run_bind,hso,Nat.zero_mul,Nat.one_mul,hp0,hp1,Result.andThen_ok,hck,Sem.run_pure]
 ·have:zgr P kt (zjQ a) (zjQ b)=some (a.1==b.1&&a.2==b.2):=by
   unfold zgr
   simp only[hu,he,hi,hs,hg,decide_true,Bool.not_false,Bool.and_true]
  rw[(zgs this w).1]
  congr 1
  obtain⟨a1,a2⟩:=a
  obtain⟨b1,b2⟩:=b
  simp only[Prod.mk.injEq]
  by_cases h1:a1=b1<;>by_cases h2:a2=b2<;>simp[h1,h2]
 ·rw[show(10000:Nat)=9998+1+1 from rfl]
  simp[Instr.sameBits]
theorem zqd{kv:κ->Value}{f:α->Value}{w:World}{k:World->Prop}(hK:∀w',IsMg w' w.heap.size kv f []->Go.RowKit.Below w.heap.size w w'->w'.heap.size=w.heap.size+1->k w'):Nw (w.alloc (.map #[] 0)) k:=
 hK _ (IsMg.new w kv f) ((Below.refl _ _).alloc (Nat.le_refl _) _) (by simp)
end Go.Gk
namespace Go.St
def swr(d:Nat->Nat)(a b n:Nat):Nat->Nat:=λk=>if a<=k/\k<a+n then d (k-a+b) else if b<=k/\k<b+n then d (k-b+a) else d k
def rot(d:Nat->Nat)(a m b:Nat):Nat->Nat:=λk=>if a<=k/\k<a+(b-m) then d (k+(m-a)) else if a+(b-m)<=k/\k<b then d (k-(b-m)) else d k
def upd(d:Nat->Nat)(k v:Nat):Nat->Nat:=λi=>if i=k then v else d i
theorem zvM{d:Nat->Nat}{m i j:Nat}(hi:i<=m)(hj:0<j)(h:j<i):rot (swr d (m-i) m j) (m-i+j) m (m+j)=rot d (m-i) m (m+j):=by
 funext k
 simp only[rot,swr]
 repeat' split
 all_goals first |omega | (congr 1;omega)
theorem zvN{d:Nat->Nat}{m i j:Nat}(hi:i<=m)(h0:0<i)(h:i<j):rot (swr d (m-i) (m+j-i) i) (m-i) m (m+j-i)=rot d (m-i) m (m+j):=by
 funext k
 simp only[rot,swr]
 repeat' split
 all_goals first |omega | (congr 1;omega)
theorem zvL{d:Nat->Nat}{m i:Nat}(hi:i<=m):swr d (m-i) m i=rot d (m-i) m (m+i):=by
 funext k
 simp only[rot,swr]
 repeat' split
 all_goals first |omega | (congr 1;omega)
theorem zn9{d:Nat->Nat}{m e:Nat}:rot d m m e=d:=by
 funext k
 simp only[rot]
 repeat' split
 all_goals first |omega | (congr 1;omega)
theorem zrk{d:Nat->Nat}{s m:Nat}(h:s<=m):rot d s m m=d:=by
 funext k
 simp only[rot]
 repeat' split
 all_goals first |omega | (congr 1;omega)
section
variable (dp:Nat->Int)
def lt(x y:Nat):Prop:=dp x<dp y\/(dp x=dp y/\x<y)
theorem lt_trans{x y z:Nat}(h:lt dp x y)(k:lt dp y z):lt dp x z:=by unfold lt at *;omega
theorem lt_irr{x:Nat}:¬lt dp x x:=by unfold lt;omega
def So(d:Nat->Nat)(a b:Nat):Prop:=∀i j,a<=i->i<j->j<b->lt dp (d i) (d j)
structure Per (d d':Nat->Nat) (a b:Nat):Prop where
 out:∀k,k<a\/b<=k->d' k=d k
 old:∀k,a<=k->k<b->∃i,a<=i/\i<b/\d' k=d i
theorem Per.refl(d:Nat->Nat)(a b:Nat):Per d d a b:=⟨λ_ _=>rfl,λk h1 h2=>⟨k,h1,h2,rfl⟩⟩
theorem Per.trans{d d' d'':Nat->Nat}{a b:Nat}(h:Per d d' a b)(k:Per d' d'' a b):Per d d'' a b:=
 ⟨λi hi=>(k.out i hi).trans (h.out i hi),λi h1 h2=>by
  obtain⟨j,j1,j2,e⟩:=k.old i h1 h2
  obtain⟨l,l1,l2,e'⟩:=h.old j j1 j2
  exact⟨l,l1,l2,e.trans e'⟩⟩
theorem Per.wide{d d':Nat->Nat}{a b a' b':Nat}(h:Per d d' a b)(ha:a'<=a)(hb:b<=b'):Per d d' a' b':=
 ⟨λi hi=>h.out i (by omega),λi h1 h2=>by
  by_cases hh:a<=i/\i<b
  ·obtain⟨j,j1,j2,e⟩:=h.old i hh.1 hh.2
   exact⟨j,by omega,by omega,e⟩
  ·exact⟨i,h1,h2,h.out i (by omega)⟩⟩
theorem zkx{d:Nat->Nat}{a s m e b:Nat}(h1:a<=s)(h2:s<=m)(h3:m<=e)(h4:e<=b):Per d (rot d s m e) a b:=by
 refine⟨λk hk=>?_,λk k1 k2=>?_⟩
 ·simp only[rot]
  repeat' split
  all_goals first |omega |rfl
 ·simp only[rot]
  split
  ·exact⟨_,by omega,by omega,rfl⟩
  ·split
   ·exact⟨_,by omega,by omega,rfl⟩
   ·exact⟨_,k1,k2,rfl⟩
variable {dp}
theorem zqs{d:Nat->Nat}{a s m e b:Nat}(h1:a<=s)(h2:s<=m)(h3:m<=e)(h4:e<=b)(hl:So dp d a m)(hr:So dp d m b)
  (hA:∀i j,s<=i->i<m->m<=j->j<e->lt dp (d j) (d i)) (hB:∀i j,a<=i->i<s->e<=j->j<b->lt dp (d i) (d j))
  (hC:∀i j,a<=i->i<s->m<=j->j<e->lt dp (d i) (d j)) (hD:∀i j,s<=i->i<m->e<=j->j<b->lt dp (d i) (d j)):So dp (rot d s m e) a b:=by
 intro i j hi hij hj
 by_cases c1:i<s<;>by_cases c2:j<s<;>by_cases c3:i<e<;>by_cases c4:j<e
 all_goals
  simp only[rot]
  repeat' split
 all_goals first
  |omega
  |exact hl _ _ (by omega) (by omega) (by omega)
  |exact hr _ _ (by omega) (by omega) (by omega)
  |exact hA _ _ (by omega) (by omega) (by omega) (by omega)
  |exact hB _ _ (by omega) (by omega) (by omega) (by omega)
  |exact hC _ _ (by omega) (by omega) (by omega) (by omega)
  |exact hD _ _ (by omega) (by omega) (by omega) (by omega)
theorem ztQ{d:Nat->Nat}{a s m e b:Nat}(h1:a<=s)(h2:s<=m)(h3:m<=e)(h4:e<=b)(hl:So dp d a m)(hr:So dp d m b)
  (hA:∀i j,s<=i->i<m->m<=j->j<e->lt dp (d j) (d i)) (hB:∀i j,a<=i->i<s->e<=j->j<b->lt dp (d i) (d j)) :
  So dp (rot d s m e) a s/\So dp (rot d s m e) s (s+(e-m))/\So dp (rot d s m e) (s+(e-m)) e/\So dp (rot d s m e) e b/\
   ∀i j,a<=i->i<s+(e-m)->s+(e-m)<=j->j<b->lt dp (rot d s m e i) (rot d s m e j):=by
 refine⟨λi j hi hij hj=>?_,λi j hi hij hj=>?_,λi j hi hij hj=>?_,λi j hi hij hj=>?_,λi j hi h5 h6 hj=>?_⟩
 all_goals
  by_cases c1:i<s<;>by_cases c2:j<s<;>by_cases c3:i<e<;>by_cases c4:j<e
 all_goals
  simp only[rot]
  repeat' split
  all_goals first
   |omega
   |exact hl _ _ (by omega) (by omega) (by omega)
   |exact hr _ _ (by omega) (by omega) (by omega)
   |exact hA _ _ (by omega) (by omega) (by omega) (by omega)
   |exact hB _ _ (by omega) (by omega) (by omega) (by omega)
theorem zvb{d d':Nat->Nat}{a m b:Nat}(hp1:∀k,a<=k->k<m->∃i,a<=i/\i<m/\d' k=d i)(hp2:∀k,m<=k->k<b->∃i,m<=i/\i<b/\d' k=d i)
  (hs1:So dp d' a m) (hs2:So dp d' m b) (hh:∀i j,a<=i->i<m->m<=j->j<b->lt dp (d i) (d j)):So dp d' a b:=by
 intro i j hi hij hj
 by_cases c1:j<m
 ·exact hs1 i j hi hij c1
 ·by_cases c2:i<m
  ·obtain⟨i',a1,a2,e⟩:=hp1 i hi c2
   obtain⟨j',b1,b2,e'⟩:=hp2 j (by omega) hj
   rw[e,e']
   exact hh i' j' a1 a2 b1 b2
  ·exact hs2 i j (by omega) hij hj
structure Bk (dp:Nat->Int) (d:Nat->Nat) (a b:Nat):Prop where
 so:So dp d a b
 own:∀k,a<=k->k<b->a<=d k/\d k<b
theorem Bk.merge{d d':Nat->Nat}{a m b:Nat}(h:Bk dp d a m)(k:Bk dp d m b)(hm:a<=m)(hb:m<=b)(hp:Per d d' a b)(hs:So dp d' a b):Bk dp d' a b:=
 ⟨hs,λi h1 h2=>by
  obtain⟨j,j1,j2,e⟩:=hp.old i h1 h2
  rw[e]
  by_cases c:j<m
  ·have:=h.own j j1 c;omega
  ·have:=k.own j (by omega) j2;omega⟩
theorem Bk.of_out{d d':Nat->Nat}{a b:Nat}(h:Bk dp d a b)(ho:∀k,a<=k->k<b->d' k=d k):Bk dp d' a b:=
 ⟨λi j hi hij hj=>by rw[ho i hi (by omega),ho j (by omega) hj];exact h.so i j hi hij hj,λk h1 h2=>by rw[ho k h1 h2];exact h.own k h1 h2⟩
end
end Go.St
namespace Go.Proofs
open Go.Gk Go.RowKit Go.Gm
theorem zso{P0:Nat->Po}{n:Nat}{d:Nat->Nat}(h:Go.St.Bk (λk=>keyP (P0 k)) d 0 n):SrtP ((List.range n).map λk=>P0 (d k)) ((List.range n).map P0):=by
 have hlt:∀i j,i<j->j<n->Go.St.lt (λk=>keyP (P0 k)) (d i) (d j):=λi j h1 h2=>h.so i j (Nat.zero_le _) h1 h2
 have hnd:((List.range n).map d).Nodup:=by
  unfold List.Nodup
  rw[List.pairwise_map,List.pairwise_iff_getElem]
  intro i j hi hj hij
  rw[List.length_range]at hi hj
  rw[List.getElem_range,List.getElem_range]
  intro e
  have:=hlt i j hij hj
  rw[e]at this
  exact Go.St.lt_irr _ this
 have hp:=zgt (S:=(List.range n).map d) (T:=List.range n) hnd (λx hx=>by
  obtain⟨k,hk,rfl⟩:=List.mem_map.1 hx
  have:=h.own k (Nat.zero_le _) (List.mem_range.1 hk)
  exact List.mem_range.2 this.2) (by rw[List.length_map];exact Nat.le_refl _)
 refine⟨?_,?_⟩
 ·have:=(hp.map P0).symm
  rw[List.map_map]at this
  exact this
 ·rw[List.pairwise_map,List.pairwise_iff_getElem]
  intro i j hi hj hij
  rw[List.length_range]at hi hj
  rw[List.getElem_range,List.getElem_range]
  have:=hlt i j hij hj
  unfold Go.St.lt at this
  dsimp only at this
  omega
theorem zgz{α:Type}(l:List α)(d:α):(List.range l.length).map (λk=>l.getD k d)=l:=zl0 l d
def cmpI(a b:Int):Int:=if a<b then -1 else if b<a then 1 else 0
def cmpP(a b:Po):Int:=if 0<=a.2.1/\0<=b.2.1 then cmpI a.2.1 b.2.1 else if 0<=a.2.1 then -1 else if 0<=b.2.1 then 1 else cmpI a.2.2.1 b.2.2.1
theorem zsJ{a b:Po}(ha:a.2.1<=4294967295/\-1<=a.2.2.1)(hb:b.2.1<=4294967295/\-1<=b.2.2.1):cmpP a b<0↔keyP a<keyP b:=by
 unfold cmpP keyP cmpI
 by_cases c:0<=a.2.1<;>by_cases e:0<=b.2.1
 ·rw[if_pos ⟨c,e⟩,if_pos c,if_pos e]
  split
  ·omega
  split<;>omega
 ·rw[if_neg (λq=>e q.2),if_pos c,if_pos c,if_neg e]
  omega
 ·rw[if_neg (λq=>c q.1),if_neg c,if_pos e,if_neg c,if_pos e]
  omega
 ·rw[if_neg (λq=>c q.1),if_neg c,if_neg e,if_neg c,if_neg e]
  split
  ·omega
  split<;>omega
end Go.Proofs
namespace Go.Proofs
open Go.Gk
set_option linter.unusedVariables false
set_option linter.unusedSectionVars false
set_option maxRecDepth 100000
def zO:Ann:=(.q (.seq none (.q (.cond (.q .nil) .nil)) (.seq none (.q (.one (.loop ⟨[1,2,15,16],[(17,(.b (.int .i64)))]⟩ (.q (.seq none .c (.seq none (.one (.q (.q (.q (.cond (.q .nil) .nil))))) .nil)))))) (.q .nil))))
def zN(p0:Sl)(p1:Sl)(p2:Value)(R:VWP)(w:World):Prop:=ifB ((p0.l:Int) !=(p1.l:Int)) (R (.bool false) w) (zl (S:=Int×Unit) (λs1 w1 n2=>ifB (decide (s1.1<(p0.l:Int))) ((0<=s1.1/\s1.1<(p0.l:Int))/\zc p0.a λa3=>dW w1 (a3.add (s1.1.toNat *6)) λx4 x5 x6 x7 x8 x9=>dY w1 #[zu 0,zi 0,zi 0,zu 0,zi 0,.bool false] 52 (zu x4) (zi x5) (zi x6) (zu x7) (zi x8) (.bool x9) λw8=>(0<=s1.1/\s1.1<(p1.l:Int))/\zc p1.a λa10=>dX w8 (a10.add (s1.1.toNat *3)) λx11 x12 x13=>dT w8 #[zi 0,zi 0,.slice none 0 0] 58 (zi x11) (zi x12) (x13.zw) λw12=>dW w12 (zB w1) λx14 x15 x16 x17 x18 x19=>dX w12 (zB w8) λx20 x21 x22=>zL Tryz.prog Tryz.fs p2 [(.agg #[zu x14,zi x15,zi x16,zu x17,zi x18,.bool x19]),(.agg #[zi x20,zi x21,x22.zw])] w12 λv23 w13=>∃x24:Bool,v23=(.bool x24)/\ifB (!x24) (R (.bool false) w13) (n2 ((IntKind.i64.wrap (s1.1+(1:Int))),()) w13)) (R (.bool true) w1)) (0,()) w)
theorem yf(p0)(p1)(p2)(R)(w)(h:zN p0 p1 p2 R w):Calls Tryz.prog 47 #[.slice p0.a p0.l p0.c,.slice p1.a p1.l p1.c,p2] w (Ret R):=lwC zO Tryz.func47 (by kernel_rfl) (by kernel_rfl) h
def yk:Ann:=(.q (.q .nil))
def yi(p0:Sl)(p1:Value)(R:VWP)(w:World):Prop:=dl 154 #[p0.zw,p1] w λx2 w1=>R (.bool (decide (x2≥(0:Int)))) w1
theorem Zo(p0)(p1)(R)(w)(h:yi p0 p1 R w):Calls Tryz.prog 118 #[.slice p0.a p0.l p0.c,p1] w (Ret R):=lwC yk Tryz.func118 (by kernel_rfl) (by kernel_rfl) h
def yD:Ann:=(.q (.q .nil))
def yB(p0:Sl)(p1:Value)(R:VWP)(w:World):Prop:=dl 155 #[p0.zw,p1] w λx2 w1=>R (.bool (decide (x2≥(0:Int)))) w1
theorem Z3(p0)(p1)(R)(w)(h:yB p0 p1 R w):Calls Tryz.prog 120 #[.slice p0.a p0.l p0.c,p1] w (Ret R):=lwC yD Tryz.func120 (by kernel_rfl) (by kernel_rfl) h
def Za:Ann:=(.q (.seq none (.q (.cond (.q .nil) .nil)) (.seq none (.q (.one (.loop ⟨[0,1,12],[(13,(.b (.int .i64)))]⟩ (.q (.seq none .c (.seq none (.one (.q (.q (.cond (.q .nil) .nil)))) .nil)))))) (.q .nil))))
def yY(p0:Sl)(p1:Sl)(R:VWP)(w:World):Prop:=ifB ((p0.l:Int) !=(p1.l:Int)) (R (.bool false) w) (zl (S:=Int×Unit) (λs1 w1 n2=>ifB (decide (s1.1<(p0.l:Int))) ((0<=s1.1/\s1.1<(p0.l:Int))/\zc p0.a λa3=>dm w1.drew (a3.add (s1.1.toNat *3)) λx4 x5 x6=>(0<=s1.1/\s1.1<(p1.l:Int))/\zc p1.a λa7=>dm w1.drew (a7.add (s1.1.toNat *3)) λx8 x9 x10=>ifB (!(x4==x8&&(x5==x9&&(x6==x10&&true)))) (R (.bool false) w1.drew) (n2 ((IntKind.i64.wrap (s1.1+(1:Int))),()) w1.drew)) (R (.bool true) w1)) (0,()) w)
theorem Yg(p0)(p1)(R)(w)(h:yY p0 p1 R w):Calls Tryz.prog 123 #[.slice p0.a p0.l p0.c,.slice p1.a p1.l p1.c] w (Ret R):=lwC Za Tryz.func123 (by kernel_rfl) (by kernel_rfl) h
def y7:Ann:=(.q (.seq none (.q (.one (.loop ⟨[0,1,7],[(8,(.b (.int .i64)))]⟩ (.q (.seq none .c (.seq none (.one (.q (.q (.cond (.q .nil) .nil)))) .nil)))))) (.q .nil)))
def yy(p0:Sl)(p1:Value)(R:VWP)(w:World):Prop:=zl (S:=Int×Unit) (λs1 w1 n2=>ifB (decide (s1.1<(p0.l:Int))) ((0<=s1.1/\s1.1<(p0.l:Int))/\zc p0.a λa3=>dW w1 (a3.add (s1.1.toNat *6)) λx4 x5 x6 x7 x8 x9=>zL Tryz.prog Tryz.fs p1 [(.agg #[zu x4,zi x5,zi x6,zu x7,zi x8,.bool x9])] w1 λv10 w2=>∃x11:Bool,v10=(.bool x11)/\ifB x11 (R (zi s1.1) w2) (n2 ((IntKind.i64.wrap (s1.1+(1:Int))),()) w2)) (R (zi (-1:Int)) w1)) (0,()) w
theorem Zx(p0)(p1)(R)(w)(h:yy p0 p1 R w):Calls Tryz.prog 154 #[.slice p0.a p0.l p0.c,p1] w (Ret R):=lwC y7 Tryz.func154 (by kernel_rfl) (by kernel_rfl) h
def yj:Ann:=(.q (.q .nil))
def yh(p0:Sl)(p1:Value)(R:VWP)(w:World):Prop:=dl 172 #[p0.zw,p1] w λx2 w1=>R (.bool (decide (x2≥(0:Int)))) w1
theorem Zn(p0)(p1)(R)(w)(h:yh p0 p1 R w):Calls Tryz.prog 156 #[.slice p0.a p0.l p0.c,p1] w (Ret R):=lwC yj Tryz.func156 (by kernel_rfl) (by kernel_rfl) h
def y6:Ann:=(.q (.seq none (.q (.one (.loop ⟨[0,1,7],[(8,(.b (.int .i64)))]⟩ (.q (.seq none .c (.seq none (.one (.q (.q (.cond (.q .nil) .nil)))) .nil)))))) (.q .nil)))
def yx(p0:Sl)(p1:Value)(R:VWP)(w:World):Prop:=zl (S:=Int×Unit) (λs1 w1 n2=>ifB (decide (s1.1<(p0.l:Int))) ((0<=s1.1/\s1.1<(p0.l:Int))/\zc p0.a λa3=>dc w1 (a3.add (s1.1.toNat *4)) λx4 x5 x6 x7=>zL Tryz.prog Tryz.fs p1 [(.agg #[zh x4,zu x5,zu x6,x7.zw])] w1 λv8 w2=>∃x9:Bool,v8=(.bool x9)/\ifB x9 (R (zi s1.1) w2) (n2 ((IntKind.i64.wrap (s1.1+(1:Int))),()) w2)) (R (zi (-1:Int)) w1)) (0,()) w
theorem Zw(p0)(p1)(R)(w)(h:yx p0 p1 R w):Calls Tryz.prog 172 #[.slice p0.a p0.l p0.c,p1] w (Ret R):=lwC y6 Tryz.func172 (by kernel_rfl) (by kernel_rfl) h
end Go.Proofs
namespace Go.Proofs
open Go.Gk
set_option linter.unusedVariables false
set_option linter.unusedSectionVars false
set_option maxRecDepth 100000
def yz:Ann:=(.q (.seq none (.q (.one (.loop ⟨[0,1,7],[(8,(.b (.int .i64)))]⟩ (.q (.seq none .c (.seq none (.one (.q (.q (.cond (.q .nil) .nil)))) .nil)))))) (.q .nil)))
def yw(p0:Sl)(p1:Value)(R:VWP)(w:World):Prop:=zl (S:=Int×Unit) (λs1 w1 n2=>ifB (decide (s1.1<(p0.l:Int))) ((0<=s1.1/\s1.1<(p0.l:Int))/\zc p0.a λa3=>dL w1 (a3.add (s1.1.toNat *5)) λx4 x5 x6 x7 x8=>zL Tryz.prog Tryz.fs p1 [(.agg #[zu x4,zi x5,x6.zw,x7.zw,zi x8])] w1 λv9 w2=>∃x10:Bool,v9=(.bool x10)/\ifB x10 (R (zi s1.1) w2) (n2 ((IntKind.i64.wrap (s1.1+(1:Int))),()) w2)) (R (zi (-1:Int)) w1)) (0,()) w
theorem Zv(p0)(p1)(R)(w)(h:yw p0 p1 R w):Calls Tryz.prog 151 #[.slice p0.a p0.l p0.c,p1] w (Ret R):=lwC yz Tryz.func151 (by kernel_rfl) (by kernel_rfl) h
end Go.Proofs
namespace Go.Proofs
open Go.Gk Go.RowKit Go.Gm
theorem zty{bd:Int}{pl:List PI}(h:(layP bd pl).1=0):(zx bd pl).1=0/\zab pl pl.length/\zcj pl=false:=by
 unfold layP at h
 by_cases h1:(zx bd pl).1≠0
 ·rw[if_pos h1]at h;exact absurd h h1
 rw[if_neg h1]at h
 refine⟨Classical.not_not.1 h1,?_⟩
 unfold chkP at h
 cases hf:(List.range pl.length).find? (λk=>!mayP pl k) with
 |some k=>rw[hf]at h;cases h
 |none=>
  rw[hf]at h
  refine⟨λk hk=>?_,?_⟩
  ·have:=List.find?_eq_none.1 hf k (List.mem_range.2 hk)
   simpa using this
  ·cases ho:zcj pl
   ·rfl
   ·rw[ho]at h;cases h
theorem zpN{op:Int}(h:Y3 op=true):249<=op/\op<=255:=by unfold Y3 at h;exact of_decide_eq_true h
end Go.Proofs
namespace Go.Proofs
open Go.Gk
set_option linter.unusedVariables false
set_option linter.unusedSectionVars false
set_option maxRecDepth 100000
def Y1:Ann:=(.q (.seq none (.q (.cond (.q .nil) .nil)) (.q .nil)))
def Yv(p0:Sl)(R:VWP)(w:World):Prop:=ifB (Option.isNone p0.a) (R (.slice none 0 0) w) (Nw (w.alloc (.cells #[] 3)) λw1=>zA Tryz.prog 99 (.slice (some (zB w)) 0 0) (p0.zw) w1 λr1 w2=>R (r1.zw) w2)
theorem zcy(p0)(R)(w)(h:Yv p0 R w):Calls Tryz.prog 74 #[.slice p0.a p0.l p0.c] w (Ret R):=lwC Y1 Tryz.func74 (by kernel_rfl) (by kernel_rfl) h
end Go.Proofs
namespace Go.Gr
end Go.Gr
namespace Go.Proofs
open Go.Gk Go.RowKit
theorem zp3{α:Type}{f:α->Value}{s:Sl}{l:List α}{w:World}{R:VWP}(hf:∀x,(f x).oneCell'=true)(h:IsS f w s l)(hl:l.length*8<=140737488355328)
  (hR:∀r w',Own w' 3 1 r (l.map f)->zK w.heap.size r->Below w.heap.size w w'->R (.slice r.a r.l r.c) w') :
  cR 74 #[.slice s.a s.l s.c] w R:=by
 refine za.of (zcy s R w ?_) λ_ _ h=>h
 refine zz (λhn=>?_) (λhn=>?_)
 ·have hn:s.a=none:=by simpa using hn
  have hc:=h.nil hn
  have:l=[]:=List.eq_nil_of_length_eq_zero (by have:=h.len;have:=h.cap;omega)
  subst this
  exact hR ⟨none,0,0⟩ w (Own.nil _ _ _) (λa ha=>by cases ha) (Below.refl _ _)
 ·obtain⟨a,ha⟩:∃a,s.a=some a:=by
   cases hs:s.a with
   |none=>rw[hs]at hn;cases hn
   |some a=>exact⟨a,rfl⟩
  refine Nw.gen λw1 hw1=>?_
  have hB:Blk w1 w.heap.size 3 []:=by rw[hw1];exact Blk.new w 3 #[]
  have hb1:Below w.heap.size w w1:=by rw[hw1];exact(Below.refl _ _).alloc (Nat.le_refl _) _
  have hO:Own w1 3 1 ⟨some (blk w.heap.size),0,0⟩ []:=⟨rfl,.inr ⟨_,[],rfl,hB,Nat.le_refl _,by simp,rfl,rfl⟩⟩
  have h':=h.below hb1
  dsimp only[zB,Go.Gk.Sl.zw,zi,zu,zb,zh];rw[ha,h.len]
  refine yV eInt hO (m:=l.length) (news:=l.map f) (by simp) (λj u hj=>?_) (λu hu=>?_) (by have:=h.bound;simp;omega) (by simpa using hl) λr w' h1 _ h3=>?_
  ·rw[List.getElem?_map]at hj
   obtain⟨x,hx,rfl⟩:=Option.map_eq_some_iff.1 hj
   obtain⟨hlt,rfl⟩:=List.getElem?_eq_some_iff.1 hx
   exact h'.cell a ha j hlt
  ·obtain⟨x,_,rfl⟩:=List.mem_map.1 hu
   exact hf x
  ·rcases h3 with⟨_,rfl,rfl⟩ | ⟨b,h4,h5,h6⟩
   ·exact hR _ _ h1 (λa ha=>by cases ha;exact Nat.le_refl _) hb1
   ·have hbb:w.heap.size<=b:=by
     rcases h5 with h5 |h5
     ·cases h5;exact Nat.le_refl _
     ·have:=hb1.size;omega
    refine hR _ _ h1 (λa ha=>by rw[h4]at ha;cases ha;exact hbb) (hb1.trans (zW h6 hbb hb1.size))
end Go.Proofs
namespace Go.Proofs
open Go.Gk Go.RowKit
end Go.Proofs
namespace Go.Proofs
open Go.Gk Go.RowKit Go.Gr
abbrev iN(x:Nat):Value:=.int .i64 (x:Int)
end Go.Proofs
namespace Go.Proofs
open Go.Gk Go.RowKit Go.Gr
structure IsSS {α:Type} (f:α->Value) (w:World) (s:Sl) (hs:List Sl) (ll:List (List α)):Prop where
 top:IsS Sl.val w s hs
 len:hs.length=ll.length
 row:∀(i:Nat) (h:i<hs.length) (h':i<ll.length),IsS f w hs[i] ll[i]
abbrev IsNN(w:World)(s:Sl)(hs:List Sl)(ll:List (List Nat)):Prop:=IsSS iN w s hs ll
theorem IsSS.below{α:Type}{f:α->Value}{w w':World}{s:Sl}{hs:List Sl}{ll:List (List α)}(h:IsSS f w s hs ll)(hb:Below w.heap.size w w'):IsSS f w' s hs ll:=
 ⟨h.top.below hb,h.len,λi h1 h2=>(h.row i h1 h2).below hb⟩
theorem zn7{w:World}{s:Sl}{l:List Nat}(h:Own w 3 1 s (l.map iN)):s.l=l.length:=by have:=h.1;simp at this;omega
theorem zvI{w:World}{s:Sl}{xs:List Value}(h:Own w 3 1 s xs){b:Nat}{T:TypeId}{cs:List Value}(hB:Blk w b T cs)(hT:T≠3){a:Addr}(ha:s.a=some a):a.block≠b:=by
 intro e
 obtain⟨cs',hB'⟩:=h.type ha
 rw[e]at hB'
 exact hT (hB.type hB')
end Go.Proofs
namespace Go.Proofs
open Go.Gk Go.RowKit Go.Gr
end Go.Proofs
namespace Go.Proofs
open Go.Gk Go.RowKit Go.Gr
def upd(ow:Nat->Nat)(b v:Nat):Nat->Nat:=λk=>if k=b then v else ow k
end Go.Proofs
namespace Go.Proofs
open Go.Gk Go.RowKit Go.Gr
def Good(ll:List (List Int)):Prop:=∀l∈ll,∀x∈l,0<=x/\x<(ll.length:Int)
end Go.Proofs
namespace Go.Proofs
open Go.Gk Go.RowKit Go.Gr
theorem _root_.Go.Gk.IsS.toI{w:World}{s:Sl}{l:List Nat}(h:IsS iN w s l):IsI w s (l.map λ(x:Nat)=>(x:Int)):=
 ⟨by rw[List.length_map];exact h.len,h.cap,h.max,h.nil,λa ha i hi=>by rw[List.getElem_map];exact h.cell a ha i (by simpa using hi)⟩
end Go.Proofs
namespace Go.Proofs
open Go.Gk Go.RowKit Go.Gr
end Go.Proofs
namespace Go.Proofs
open Go.Gk Go.RowKit Go.Gr
end Go.Proofs
namespace Go.Proofs
open Go.Gk Go.RowKit Go.Gr
end Go.Proofs
namespace Go.Proofs
open Go.Gk Go.RowKit Go.Gm
abbrev Fv:=Int×Int×Sl×Sl×Int×Unit
section
variable {w w':World} {v:Fv} {f g:FnL} {R:VWP}
theorem zjn{fs:Sl}{L:List Fe}(h:Fns w fs L){k:Nat}(hk:k<L.length){φ:Int->Int->Sl->Sl->Int->Prop}(hφ:φ L[k].1.id L[k].1.at_ L[k].2.1 L[k].2.2 L[k].1.en) :
  (0<=(k:Int)/\(k:Int)<(fs.l:Int))/\zc fs.a λa=>ldI w ((a.add (Int.toNat (k:Int)*5)).add 0) .u32 λx1=>ldI w ((a.add (Int.toNat (k:Int)*5)).add 1) .i64 λx2=>ldS w ((a.add (Int.toNat (k:Int)*5)).add 2) λx3=>ldS w ((a.add (Int.toNat (k:Int)*5)).add 3) λx4=>ldI w ((a.add (Int.toNat (k:Int)*5)).add 4) .i64 λx5=>φ x1 x2 x3 x4 x5:=by
 have hc:IsC 5 feV w fs L:=Own.isC znn (by omega) h.own
 obtain⟨a,ha⟩:=hc.base hk
 have hcell:=hc.cell a ha k hk
 refine⟨⟨by omega,by have:=h.len;omega⟩,ze ha ⟨_,?_,_,?_,_,?_,_,?_,_,?_,hφ⟩⟩
 ·rw[zn];exact hcell 0 (by omega)
 ·rw[zn];exact hcell 1 (by omega)
 ·rw[zn];exact hcell 2 (by omega)
 ·rw[zn];exact hcell 3 (by omega)
 ·rw[zn];exact hcell 4 (by omega)
end
section
variable {x:Mo} {pl:List PI} {w:World} {R:VWP}
theorem znO(hN:IsPl w x.2.2.1 pl)(hp:PlOk pl)
  (hok:∀fs L w',(layP x.2.1 pl).1=0->Below w.heap.size w w'->Fns w' fs L->L.map (·.1)=cutF pl pl.length->R (.tuple #[.slice fs.a fs.l fs.c,.agg #[.int .i64 0,.int .i64 0]]) w')
  (hbad:∀w',(layP x.2.1 pl).1≠0->Below w.heap.size w w'->R (.tuple #[.slice none 0 0,.agg #[.int .i64 (layP x.2.1 pl).1,.int .i64 ((layP x.2.1 pl).2:Int)]]) w') :
  cR 41 #[moA x] w R:=by
 refine za.of (zjx x R w ?_) λ_ _ h=>h
 refine zm λw1 hB1 b1 z1=>?_
 have hB1:Blk w1 w.heap.size 25 (moV x):=hB1
 refine zm λw2 hC2 b2 z2=>?_
 have hC2:Blk w2 w1.heap.size 29 [.int .i64 0,.int .i64 0]:=hC2
 have hb2:=b1.on b2
 refine Mo.load (hB1.below b2) ?_
 refine zmA (x:=x) (hN.below hb2) hp (λbc ps fs L w3 hlay hC3 hP hL hF hcut hg=>⟨some (blk bc),(0,0,()),rfl,?_⟩) (λw3 b3 hne=>⟨none,((layP x.2.1 pl).1,((layP x.2.1 pl).2:Int),()),rfl,?_⟩)
 ·refine box2 rfl λw6 h6 b6 z6=>?_
  have b26:=hC3.b0.on b6
  have hCc:=(hC3.below b6).drew
  have hS6:=(hC2.below b26).drew
  have h6':=h6.drew
  refine zJ rfl (ze rfl ?_)
  refine hCc.blk.rS (n:=22) (x:=fs) (zsQ hCc.len) ?_
  have s26:=b26.size
  refine Sp.load h6' (st2 hS6 rfl λw8 hS8 c8=>Sp.load hS8 ?_)
  have hL6:Fns w6.drew fs L:=(hL.below b6).below (Below.refl _ _).drew
  exact hok fs L w8 (by rw[hlay]) (c8.below ((hb2.on b26).drew) (by omega)) (hL6.chg c8 hS6 (by decide) (by decide) (by decide)) hcut.symm
 ·refine box2 rfl λw6 h6 b6 z6=>?_
  have b26:=b3.on b6
  have hS6:=(hC2.below b26).drew
  have h6':=h6.drew
  refine zR rfl (Sp.load h6' (st2 hS6 rfl λw8 hS8 c8=>Sp.load hS8 ?_))
  exact hbad w8 hne (c8.below ((hb2.on b26).drew) (by omega))
end
end Go.Proofs
namespace Go.Proofs
open Go.Gk Go.RowKit Go.Gm
section
variable {w:World} {R:VWP} {s:Sl} {f:Value}
theorem zkF{α:Type}{l:List α}{q:α->Bool}{k:Nat}(hk:k<l.length)(e:q l[k]=true):l.any q=true:=List.any_eq_true.2 ⟨_,List.getElem_mem hk,e⟩
theorem zkG{α:Type}{l:List α}{q:α->Bool}(h:∀j (hj:j<l.length),q l[j]=false):l.any q=false:=by
 rw[List.any_eq_false]
 intro x hx
 obtain⟨j,hj,rfl⟩:=List.mem_iff_getElem.1 hx
 rw[h j hj]
 simp
theorem zo5{α:Type}{D:List α}{p:α->Bool}{k:Nat}(hk:k<D.length)(h1:∀j (h:j<D.length),j<k->p D[j]=false)(h2:p D[k]=true):D.find? p=some D[k]:=
 List.find?_eq_some_iff_getElem.2 ⟨h2,k,hk,rfl,λj hj=>by rw[h1 j (by omega) hj];rfl⟩
theorem zo6{α:Type}{D:List α}{p:α->Bool}(h1:∀j (h:j<D.length),p D[j]=false):D.find? p=none:=
 List.find?_eq_none.2 λx hx=>by
  obtain⟨j,hj,rfl⟩:=List.mem_iff_getElem.1 hx
  rw[h1 j hj]
  simp
theorem argF{w':World}{t:Sl}{al:List Ag}(hI:IsAg w' t al){j:Nat}(hj:j<al.length){φ:Int->Prop}(hφ:φ (al.getD j ag0).2.1):(0<=(j:Int)/\(j:Int)<(t.l:Int))/\zc t.a λa=>ldI w' ((a.add (j*3)).add 1) .u32 φ:=by
 obtain⟨a,ha⟩:=hI.base hj
 have hc:=hI.cell a ha j hj 1 (by decide)
 have hl:=hI.len
 rw[zp hj]at hφ
 exact⟨⟨by omega,by omega⟩,ze ha ⟨_,by rw[zn];exact hc,hφ⟩⟩
theorem zns{l:List PI}{q:PI->Bool}(h:IsPl w s l)
  (hf:∀w',Below w.heap.size w w'->∀(k:Nat) (hk:k<l.length) (t:Sl),IsAg w' t l[k].2.2.2->∀K:VWP,(∀w'',Below w'.heap.size w' w''->K (.bool (q l[k])) w'')->zL Tryz.prog Tryz.fs f [inA (mkIn l[k] t)] w' K)
  (hR:∀w' n,Below w.heap.size w w'->(decide (n≥(0:Int))=l.any q)->R (.int .i64 n) w'):cR 172 #[.slice s.a s.l s.c,f] w R:=by
 refine za.of (Zw s f R w ?_) λ_ _ h=>h
 have hl:=h.len
 refine zl.count l.length (by have:=h.cap;have:=h.max;omega) (λk w'=>Below w.heap.size w w'/\∀j (hj:j<l.length),j<k->q l[j]=false) ⟨Below.refl _ _,λj _ h=>by omega⟩ ?_
 rintro k w1 hk ⟨b1,hno⟩ next hnext
 refine zj (λg=>?_) (λg=>hR w1 _ b1 ?_)
 ·have hkl:k<l.length:=by dsimp only at g;omega
  refine Z8 h b1 hkl λt hI=>hf w1 b1 k hkl t (IsC.below zG hI b1) _ λw2 b2=>⟨_,rfl,zz (λe=>hR w2 _ (b1.on b2) ?_) (λe=>hnext w2 hkl ⟨b1.on b2,λj hj hjk=>?_⟩)⟩
  ·rw[zkF hkl e]
   exact decide_eq_true (by dsimp only;omega)
  ·by_cases e2:j=k
   ·subst e2;exact e
   ·exact hno j hj (by omega)
 ·rw[zkG λj hj=>hno j hj (by dsimp only at g;omega)]
  rfl
theorem zlL{l:List PI}{q:PI->Bool}(h:IsPl w s l)
  (hf:∀w',Below w.heap.size w w'->∀(k:Nat) (hk:k<l.length) (t:Sl),IsAg w' t l[k].2.2.2->∀K:VWP,(∀w'',Below w'.heap.size w' w''->K (.bool (q l[k])) w'')->zL Tryz.prog Tryz.fs f [inA (mkIn l[k] t)] w' K)
  (hR:∀w',Below w.heap.size w w'->R (.bool (l.any q)) w'):cR 156 #[.slice s.a s.l s.c,f] w R:=by
 refine za.of (Zn s f R w ?_) λ_ _ h=>h
 exact zns h hf λw' n hb hn=>⟨n,rfl,by dsimp only[zB,Go.Gk.Sl.zw,zi,zu,zb,zh];rw[hn];exact hR w' hb⟩
theorem zrO{l:List Int}{q:Int->Bool}(h:IsS (Value.int .u32) w s l)
  (hf:∀w',Below w.heap.size w w'->∀(k:Nat) (hk:k<l.length),∀K:VWP,(∀w'',Below w'.heap.size w' w''->K (.bool (q l[k])) w'')->zL Tryz.prog Tryz.fs f [.int .u32 l[k]] w' K)
  (hR:∀w' n,Below w.heap.size w w'->(decide (n≥(0:Int))=l.any q)->R (.int .i64 n) w'):cR 155 #[.slice s.a s.l s.c,f] w R:=by
 refine za.of (ZI s f R w ?_) λ_ _ h=>h
 have hl:=h.len
 refine zl.count l.length h.bound (λk w'=>Below w.heap.size w w'/\∀j (hj:j<l.length),j<k->q l[j]=false) ⟨Below.refl _ _,λj _ h=>by omega⟩ ?_
 rintro k w1 hk ⟨b1,hno⟩ next hnext
 refine zj (λg=>?_) (λg=>hR w1 _ b1 ?_)
 ·have hkl:k<l.length:=by dsimp only at g;omega
  refine YR (h.below b1) hkl (hf w1 b1 k hkl _ λw2 b2=>⟨_,rfl,zz (λe=>hR w2 _ (b1.on b2) ?_) (λe=>hnext w2 hkl ⟨b1.on b2,λj hj hjk=>?_⟩)⟩)
  ·rw[zkF hkl e]
   exact decide_eq_true (by dsimp only;omega)
  ·by_cases e2:j=k
   ·subst e2;exact e
   ·exact hno j hj (by omega)
 ·rw[zkG λj hj=>hno j hj (by dsimp only at g;omega)]
  rfl
theorem zol{l:List Int}{q:Int->Bool}(h:IsS (Value.int .u32) w s l)
  (hf:∀w',Below w.heap.size w w'->∀(k:Nat) (hk:k<l.length),∀K:VWP,(∀w'',Below w'.heap.size w' w''->K (.bool (q l[k])) w'')->zL Tryz.prog Tryz.fs f [.int .u32 l[k]] w' K)
  (hR:∀w',Below w.heap.size w w'->R (.bool (l.any q)) w'):cR 120 #[.slice s.a s.l s.c,f] w R:=by
 refine za.of (Z3 s f R w ?_) λ_ _ h=>h
 exact zrO h hf λw' n hb hn=>⟨n,rfl,by dsimp only[zB,Go.Gk.Sl.zw,zi,zu,zb,zh];rw[hn];exact hR w' hb⟩
theorem zpW{l:List Po}{q:Po->Bool}(h:IsPs w s l)
  (hf:∀w',Below w.heap.size w w'->∀(k:Nat) (hk:k<l.length),∀K:VWP,(∀w'',Below w'.heap.size w' w''->K (.bool (q l[k])) w'')->zL Tryz.prog Tryz.fs f [poA l[k]] w' K)
  (hR:∀w' n,Below w.heap.size w w'->(decide (n≥(0:Int))=l.any q)->R (.int .i64 n) w'):cR 154 #[.slice s.a s.l s.c,f] w R:=by
 refine za.of (Zx s f R w ?_) λ_ _ h=>h
 have hl:=h.len
 refine zl.count l.length (by have:=h.cap;have:=h.max;omega) (λk w'=>Below w.heap.size w w'/\∀j (hj:j<l.length),j<k->q l[j]=false) ⟨Below.refl _ _,λj _ h=>by omega⟩ ?_
 rintro k w1 hk ⟨b1,hno⟩ next hnext
 refine zj (λg=>?_) (λg=>hR w1 _ b1 ?_)
 ·have hkl:k<l.length:=by dsimp only at g;omega
  refine zeQ (IsC.below zM h b1) hkl (hf w1 b1 k hkl _ λw2 b2=>⟨_,rfl,zz (λe=>hR w2 _ (b1.on b2) ?_) (λe=>hnext w2 hkl ⟨b1.on b2,λj hj hjk=>?_⟩)⟩)
  ·rw[zkF hkl e]
   exact decide_eq_true (by dsimp only;omega)
  ·by_cases e2:j=k
   ·subst e2;exact e
   ·exact hno j hj (by omega)
 ·rw[zkG λj hj=>hno j hj (by dsimp only at g;omega)]
  rfl
theorem zok{l:List Po}{q:Po->Bool}(h:IsPs w s l)
  (hf:∀w',Below w.heap.size w w'->∀(k:Nat) (hk:k<l.length),∀K:VWP,(∀w'',Below w'.heap.size w' w''->K (.bool (q l[k])) w'')->zL Tryz.prog Tryz.fs f [poA l[k]] w' K)
  (hR:∀w',Below w.heap.size w w'->R (.bool (l.any q)) w'):cR 118 #[.slice s.a s.l s.c,f] w R:=by
 refine za.of (Zo s f R w ?_) λ_ _ h=>h
 exact zpW h hf λw' n hb hn=>⟨n,rfl,by dsimp only[zB,Go.Gk.Sl.zw,zi,zu,zb,zh];rw[hn];exact hR w' hb⟩
theorem zgc{l:List Int}{x:Int}(h:IsS (Value.int .u32) w s l)(hR:R (.bool (l.contains x)) w):cR 114 #[.slice s.a s.l s.c,.int .u32 x] w R:=by
 refine za.of (ZW s x R w ?_) λ_ _ h=>h
 refine za.of (YC s x _ w ?_) λ_ _ h=>h
 have hl:=h.len
 have yes:∀{k:Nat} (hk:k<l.length),x=l[k]->l.contains x=true:=λhk e=>by
  rw[List.contains_iff_mem,e]
  exact List.getElem_mem hk
 refine zl.count l.length h.bound (λk w'=>w=w'/\∀j (hj:j<l.length),j<k->x≠l[j]) ⟨rfl,λj _ h=>by omega⟩ ?_
 rintro k w1 hk ⟨rfl,hno⟩ next hnext
 refine zj (λg=>?_) (λg=>⟨_,rfl,?_⟩)
 ·have hkl:k<l.length:=by dsimp only at g;omega
  refine YR h hkl (zk (λe=>⟨_,rfl,?_⟩) (λe=>hnext w hkl ⟨rfl,λj hj hjk=>?_⟩))
  ·dsimp only[zB,Go.Gk.Sl.zw,zi,zu,zb,zh];rw[decide_eq_true (show((k:Int),()).1≥0 by dsimp only;omega)]
   rwa[yes hkl e]at hR
  ·by_cases e2:j=k
   ·subst e2;exact e
   ·exact hno j hj (by omega)
 ·have:l.contains x=false:=by
   cases hc:l.contains x with
   |false=>rfl
   |true=>
    rw[List.contains_iff_mem]at hc
    obtain⟨j,hj,e⟩:=List.mem_iff_getElem.1 hc
    exact absurd e.symm (hno j hj (by dsimp only at g;omega))
  rw[this]at hR
  exact hR
end
end Go.Proofs
namespace Go.Proofs
open Go.Gk Go.RowKit Go.Gm
theorem zsw{a b:Po}(h:unlR a b):unlR b a:=⟨λq=>h.1 ⟨by rw[q.2];exact q.1,q.2.symm⟩,λq=>h.2 ⟨by rw[q.2];exact q.1,q.2.symm⟩⟩
theorem zmK{l l':List Po}(h:l'.Perm l):unlk l'=unlk l:=by
 unfold unlk
 exact decide_eq_decide.2 (h.pairwise_iff zsw)
namespace Fc
structure Ok (F:Fc):Prop where
 no:∀k,k<F.pl.length->F.err k=0
 num:∀p∈F.pl,∀a∈p.2.2.2,0<=a.2.1/\a.2.1<=4294967295
 tb:TbOk F.T
 vec:∀id,(tA F.T id).kind=4->2<=(tA F.T id).size/\(tA F.T id).size<=4
variable {F:Fc}
theorem zuq(h:∀p∈F.pl,∀a∈p.2.2.2,0<=a.2.1/\a.2.1<=4294967295){p:PI}(hp:p∈F.pl)(j:Nat):0<=arN p j/\arN p j<=4294967295:=by
 unfold arN
 by_cases hj:j<p.2.2.2.length
 ·rw[zp hj]
  exact h p hp _ (List.getElem_mem hj)
 ·rw[yd (by omega)]
  decide
theorem mem_dec{id:Int}{p:PI}:p∈F.dec id↔p∈F.pl/\p.1=71/\arN p 0=id:=by
 unfold dec
 rw[List.mem_filter,Bool.and_eq_true,beq_iff_eq,beq_iff_eq]
theorem say_range(h:∀p∈F.pl,∀a∈p.2.2.2,0<=a.2.1/\a.2.1<=4294967295)(id kind:Int):-1<=F.say id kind/\F.say id kind<=4294967295:=by
 unfold say
 cases hf:(F.dec id).find? λp=>arN p 1==kind&&p.2.2.2.length==3 with
 |none=>decide
 |some p=>
  have hm:=(mem_dec.1 (List.mem_of_find?_eq_some hf)).1
  have:=zuq h hm 2
  dsimp only
  omega
structure Good (F:Fc) (k:Nat):Prop where
 ent:F.enterd k=true
 fac:F.facd (entF (ix F.pl k))=true
 dcd:F.decd (entF (ix F.pl k))=true
theorem mem_pts{ids:List Int}{c:Int}{p:Po}:p∈F.pts ids c↔∃id,id∈ids/\F.cls id=c/\p=F.port id:=by
 unfold pts
 rw[List.mem_map]
 constructor
 ·rintro⟨id,h1,rfl⟩
  rw[List.mem_filter,beq_iff_eq]at h1
  exact⟨id,h1.1,h1.2,rfl⟩
 ·rintro⟨id,h1,h2,rfl⟩
  exact⟨id,List.mem_filter.2 ⟨h1,beq_iff_eq.2 h2⟩,rfl⟩
end Fc
end Go.Proofs
namespace Go.Proofs
open Go.Gk Go.RowKit Go.Gm
theorem zvW(t:Tp)(s d:Nat):(whT t s d).1=tp0\/(whT t s d).1={t with size:=s,depth:=d+1}:=by
 unfold whT
 split
 ·exact .inl rfl
 split
 ·exact .inl rfl
 ·exact .inr rfl
theorem zlD{t:Tp}{s d:Nat}(h:(whT t s d).1.kind=4):t.kind=4/\(whT t s d).1.size=s:=by
 rcases zvW t s d with e |e
 ·rw[e]at h;cases h
 ·rw[e]at h⊢
  exact⟨h,rfl⟩
theorem zuJ{L:TyL}{pl:List PI}{k:Nat}{p:Tp×Int}(h:oneT L pl k=some p)(h4:p.1.kind=4):2<=p.1.size/\p.1.size<=4:=by
 have no:∀{q:Tp×Int},some q=some p->q.1.kind≠4->False:=λe hn=>by
  injection e with e
  subst e
  exact hn h4
 unfold oneT at h
 split at h
 ·exact(no h (by decide)).elim
 split at h
 ·exact(no h (by decide)).elim
 split at h
 ·exact(no h (by show(3:Int)≠4;decide)).elim
 split at h
 ·injection h with h
  unfold vecT at h
  split at h
  ·subst h;cases h4
  split at h
  ·subst h;cases h4
  ·rename_i hn
   subst h
   rw[(zlD h4).2]
   omega
 split at h
 ·injection h with h
  unfold arrT at h
  split at h
  ·subst h;cases h4
  split at h
  ·subst h;cases h4
  ·subst h
   exact absurd (zlD h4).1 (by show(5:Int)≠4;decide)
 split at h
 ·injection h with h
  unfold memT at h
  split at h
  ·subst h;cases h4
  split at h
  ·subst h;cases h4
  ·subst h
   exact absurd (zlD h4).1 (by show(6:Int)≠4;decide)
 split at h
 ·exact(no h (by show(7:Int)≠4;decide)).elim
 split at h
 ·injection h with h
  unfold fnT at h
  split at h
  ·subst h;cases h4
  ·subst h;cases h4
 ·cases h
theorem zoV{α:Type}{q:Int×α}{k:Int}{v:α}:∀{L:List (Int×α)},q∈setQ L k v->q∈L\/q.2=v
 | [],h=>.inr (by rw[List.mem_singleton.1 h])
 |a::r,h=>by
  simp only[setQ]at h
  split at h
  ·rcases List.mem_cons.1 h with h |h
   ·exact .inr (by rw[h])
   ·exact .inl (List.mem_cons_of_mem _ h)
  ·rcases List.mem_cons.1 h with h |h
   ·exact .inl (by rw[h];exact List.mem_cons_self ..)
   ·rcases zoV h with h |h
    ·exact .inl (List.mem_cons_of_mem _ h)
    ·exact .inr h
theorem znM(pl:List PI):∀n,∀q∈tysT pl n,q.2.kind=4->2<=q.2.size/\q.2.size<=4
 | 0,q,h,_=>by cases h
 |n+1,q,h,h4=>by
  cases ho:oneT (tysT pl n) pl n with
  |none=>
   rw[zlB ho]at h
   exact znM pl n q h h4
  |some p=>
   have e:tysT pl (n+1)=setQ (tysT pl n) (ix pl n).2.2.1 p.1:=by
    show(match oneT (tysT pl n) pl n with |none=>tysT pl n |some p=>setQ (tysT pl n) (ix pl n).2.2.1 p.1)=_
    rw[ho]
   rw[e]at h
   rcases zoV h with h |h
   ·exact znM pl n q h h4
   ·rw[h]at h4⊢
    exact zuJ ho h4
theorem zvT(pl:List PI)(id:Int)(h:(tA (tyL pl) id).kind=4):2<=(tA (tyL pl) id).size/\(tA (tyL pl) id).size<=4:=by
 unfold tA at h⊢
 cases hl:zC (tyL pl) id with
 |none=>rw[hl]at h;cases h
 |some t=>
  rw[hl]at h
  exact znM pl pl.length _ (ze5 hl) h
end Go.Proofs
