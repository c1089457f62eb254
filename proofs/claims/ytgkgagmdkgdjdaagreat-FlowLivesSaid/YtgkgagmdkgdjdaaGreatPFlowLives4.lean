/- FlowLives, part 4; made small by a program. -/
import Derived.Test.YtgkgagmdkgdjdaaGreatProg
import Derived.Lib.Bytealg
import Derived.Test.YtgkgagmdkgdjdaaGreatPFlowLives3
namespace Go.Gm
open Go.Gk
def numS(n:Int)(c:UInt8):Int:=IntKind.u32.wrap (IntKind.u32.wrap (10*n)+IntKind.u32.wrap (IntKind.i32.wrap ((c.toNat:Int)-48)))
def numP(s:Bs):Int:=s.foldl numS 0
abbrev EnS:=Int×Bs×Bool×List (Int×Bs)
def enS(st:EnS)(c:UInt8):EnS:=
 if c=32 then(if st.2.2.1=true then(st.1,[],false,st.2.2.2++[(st.1,st.2.1)]) else(numP st.2.1,[],true,st.2.2.2)) else(st.1,st.2.1++[c],st.2.2.1,st.2.2.2)
def enG(s:Bs):EnS:=s.foldl enS (0,[],false,[])
def enL(c:Int):List (Int×Bs):=(enG ((Gm.look tabN c).getD [])).2.2.2
theorem zrS(s:Bs)(c:UInt8):enG (s++[c])=enS (enG s) c:=by simp[enG,List.foldl_append]
theorem zth(st:EnS)(c:UInt8):st.2.2.2 <+:(enS st c).2.2.2:=by
 unfold enS
 split
 ·split
  ·exact List.prefix_append _ _
  ·exact List.prefix_refl _
 ·exact List.prefix_refl _
theorem zqY(l:Bs):∀st:EnS,st.2.2.2 <+:(l.foldl enS st).2.2.2:=by
 induction l with
 |nil=>intro st;exact List.prefix_refl _
 |cons c l ih=>intro st;exact(zth st c).trans (ih _)
theorem ztg(s:Bs)(k:Nat):(enG (s.take k)).2.2.2 <+:(enG s).2.2.2:=by
 have:enG s=(s.drop k).foldl enS (enG (s.take k)):=by
  unfold enG
  rw[<-List.foldl_append,List.take_append_drop]
 rw[this]
 exact zqY _ _
theorem zrT(s:Bs):(enG s).2.1.length<=s.length:=by
 suffices h:∀(l:Bs) (st:EnS),(l.foldl enS st).2.1.length<=st.2.1.length+l.length by
  have:=h s (0,[],false,[])
  unfold enG
  simpa using this
 intro l
 induction l with
 |nil=>intro st;simp
 |cons c l ih=>
  intro st
  have h1:=ih (enS st c)
  have h2:(enS st c).2.1.length<=st.2.1.length+1:=by
   unfold enS
   split
   ·split<;>simp
   ·simp
  simp only[List.foldl_cons,List.length_cons]
  omega
theorem zqU{s:Bs}(h:∀c∈s,c<128):∀c∈(enG s).2.1,c<128:=by
 suffices g:∀(l:Bs) (st:EnS),(∀c∈l,c<128)->(∀c∈st.2.1,c<128)->∀c∈(l.foldl enS st).2.1,c<128 from g s (0,[],false,[]) h (by simp)
 intro l
 induction l with
 |nil=>intro st _ h;exact h
 |cons c l ih=>
  intro st hl hs
  refine ih (enS st c) (λd hd=>hl d (List.mem_cons_of_mem _ hd)) ?_
  unfold enS
  split
  ·split<;>simp
  ·intro d hd
   rcases List.mem_append.1 hd with h |h
   ·exact hs d h
   ·rw[List.mem_singleton.1 h];exact hl c List.mem_cons_self
theorem zoF:tabN.all (λp=>p.2.all (·<128)&&decide (p.2.length<=200))=true:=by decide +kernel
theorem zpU:tabN.all (λp=>decide ((enG p.2).2.2.2=(tabM.filter λq=>decide (q.1=p.1)).map (·.2)))=true:=by decide +kernel
def zca(c n:Int):Bool:=tabM.any λq=>decide (q.1=c)&&decide (q.2.1=n)
theorem zry(c:Int):(∀b∈(Gm.look tabN c).getD [],b<128)/\((Gm.look tabN c).getD []).length<=200:=by
 cases h:Gm.look tabN c with
 |none=>simp
 |some s=>
  have:=List.all_eq_true.1 zoF _ (Ya h)
  simp only[Bool.and_eq_true,List.all_eq_true,decide_eq_true_eq]at this
  exact this
theorem zor(c n:Int):zca c n=true↔∃x∈enL c,x.1=n:=by
 unfold zca enL
 rw[List.any_eq_true]
 cases h:Gm.look tabN c with
 |none=>
  constructor
  ·rintro⟨q,hq,e⟩
   rw[Bool.and_eq_true,decide_eq_true_eq]at e
   have:=List.all_eq_true.1 zk3 _ hq
   rw[e.1,h]at this
   cases this
  ·rintro⟨x,hx,_⟩
   cases hx
 |some s=>
  have:=of_decide_eq_true (List.all_eq_true.1 zpU _ (Ya h))
  simp only[Option.getD_some]at this⊢
  rw[this]
  constructor
  ·rintro⟨q,hq,e⟩
   rw[Bool.and_eq_true,decide_eq_true_eq,decide_eq_true_eq]at e
   exact⟨q.2,List.mem_map.2 ⟨q,List.mem_filter.2 ⟨hq,decide_eq_true e.1⟩,rfl⟩,e.2⟩
  ·rintro⟨x,hx,e⟩
   obtain⟨q,hq,rfl⟩:=List.mem_map.1 hx
   obtain⟨h1,h2⟩:=List.mem_filter.1 hq
   refine⟨q,h1,?_⟩
   rw[Bool.and_eq_true,decide_eq_true_eq]
   exact⟨of_decide_eq_true h2,decide_eq_true e⟩
end Go.Gm
namespace Go.Proofs
open Go.Gk Go.RowKit Go.Gm
theorem zd6{w:World}{l:Nat}(h:l<w.heap.size)(o:Obj):(w.putObj l o).heap[l]? =some o:=by simp[World.putObj,h]
theorem zoH{s:Bs}(h128:∀c∈s,c<128){w:World}{R:VWP}(hR:∀w',Below w.heap.size w w'->R (.int .u32 (numP s)) w'):cR 198 #[.string (bs s)] w R:=by
 refine za.of (zgS (bs s) R w ?_) λ_ _ h=>h
 refine Nw.gen λw1 e1=>?_
 have hI1:w1.heap[w.heap.size]? =some (.stringIter (bs s) 0):=by
  rw[e1]
  show(w.heap.push _)[w.heap.size]? =_
  simp
 have z1:w1.heap.size=w.heap.size+1:=by rw[e1];simp
 have b1:Below w.heap.size w w1:=by rw[e1];exact(Below.refl _ _).alloc (Nat.le_refl _) _
 clear e1
 refine zk.ghost (λj st w'=>∃k,k<=s.length/\j=s.length-k/\st=(numP (s.take k),())/\w'.heap.size=w.heap.size+1/\Below w.heap.size w w'/\w'.heap[w.heap.size]? =some (.stringIter (bs s) k)) s.length ⟨0,Nat.zero_le _,rfl,rfl,z1,b1,hI1⟩ ?_
 rintro _ _ w2 ⟨k,hk,rfl,rfl,hz,hb,hI⟩ next hnext
 refine⟨bs s,k,hI,λhlt=>?_,λhge=>?_⟩
 ·rw[zP]at hlt
  rw[zcO hlt (h128 _ (List.getElem_mem hlt))]
  dsimp only
  have hc:=Chg.iter w.heap.size w2 (bs s) (k+1)
  refine hnext (s.length-(k+1)) _ _ (by omega) ⟨k+1,hlt,rfl,?_,hc.size.trans hz,hc.below hb (Nat.le_refl _),zcP (by omega)⟩
  rw[List.take_succ_eq_append_getElem hlt]
  unfold numP
  rw[List.foldl_append]
  rfl
 ·rw[zP]at hge
  have hk:k=s.length:=by omega
  subst hk
  rw[List.take_length]
  exact hR w2 hb
theorem znR{y:Value}{c:Int}{pb:Nat}{w:World}(hp:w.cell? (blk pb)=some (.int .u8 c))(Inv:Nat->World->Prop)(S:World->Prop)(h0:Inv 0 w)(hkeep:∀j w' w'',Inv j w'->w.heap.size<=w'.heap.size->Below w.heap.size w' w''->Inv j w'')
  (hround:∀j (hj:j<(enL c).length) w',Inv j w'->ZH Tryz.prog Tryz.fs y [.int .u32 (enL c)[j].1,.string (bs (enL c)[j].2)] w' λv w''=>((v =.bool true/\Inv (j+1) w'')\/(v =.bool false/\S w''))/\w''.heap.size=w'.heap.size/\∀b,w.heap.size<=b->w''.heap[b]? =w'.heap[b]?)
  (hend:∀w',Inv (enL c).length w'->S w'):Calls Tryz.prog 197 #[y,.pointer (some (blk pb))] w (Ret λ_ w'=>S w'):=by
 refine zg6 y (blk pb) _ w ⟨c,hp,?_⟩
 refine za.of (zcL c _ w ?_) λ_ _ h=>h
 rw[zqB]
 have hrow:=zry c
 have hL:enL c=(enG ((Gm.look tabN c).getD [])).2.2.2:=rfl
 suffices go:∀s:Bs,s=(Gm.look tabN c).getD []->(∃x:ByteArray,Value.string (bs s) =.string x/\_) from zdx (λx hx=>go x (by rw[hx];rfl)) (λhx=>go [] (by rw[hx];rfl))
 intro s hs
 rw[<-hs]at hrow hL
 obtain⟨h128,hlen⟩:=hrow
 refine⟨bs s,rfl,?_⟩
 refine Nw.gen λw1 e1=>?_
 have hI1:w1.heap[w.heap.size]? =some (.stringIter (bs s) 0):=by
  rw[e1]
  show(w.heap.push _)[w.heap.size]? =_
  simp
 have z1:w1.heap.size=w.heap.size+1:=by rw[e1];simp
 have b1:Below w.heap.size w w1:=by rw[e1];exact(Below.refl _ _).alloc (Nat.le_refl _) _
 clear e1
 refine zk.ghost (λj st w'=>∃k,k<=s.length/\j=s.length-k/\st=((enG (s.take k)).1,bs (enG (s.take k)).2.1,(enG (s.take k)).2.2.1,())/\w.heap.size<w'.heap.size/\Inv (enG (s.take k)).2.2.2.length w'/\w'.heap[w.heap.size]? =some (.stringIter (bs s) k))
  s.length ⟨0,Nat.zero_le _,rfl,rfl,by omega,hkeep 0 w w1 h0 (Nat.le_refl _) b1,hI1⟩ ?_
 rintro _ _ w2 ⟨k,hk,rfl,rfl,hz,hIn,hI⟩ next hnext
 refine⟨bs s,k,hI,λhlt=>?_,λhge=>?_⟩
 ·rw[zP]at hlt
  have hc128:=h128 _ (List.getElem_mem hlt)
  rw[zcO hlt hc128]
  dsimp only
  have hc:=Chg.iter w.heap.size w2 (bs s) (k+1)
  have hI3:=zcP (w:=w2) (s:=bs s) (p:=k+1) (r:=w.heap.size) (by omega)
  generalize zaD w2 w.heap.size (bs s) (k+1)=w3 at hc hI3
  have hIn3:=hkeep _ w2 w3 hIn (by omega) (hc.below (Below.refl _ _) (Nat.le_refl _))
  have hz3:=hc.size
  have htk:s.take (k+1)=s.take k++[s[k]]:=List.take_succ_eq_append_getElem hlt
  have hst:enG (s.take (k+1))=enS (enG (s.take k)) s[k]:=by rw[htk,zrS]
  have hpre:=ztg s (k+1)
  have hwl:=zrT (s.take k)
  rw[List.length_take]at hwl
  have hwa:=zqU (s:=s.take k) (λc hc=>h128 c (List.mem_of_mem_take hc))
  rw[hst]at hpre
  have hnx:∀w',w.heap.size<w'.heap.size->Inv (enG (s.take (k+1))).2.2.2.length w'->w'.heap[w.heap.size]? =some (.stringIter (bs s) (k+1))->next ((enG (s.take (k+1))).1,bs (enG (s.take (k+1))).2.1,(enG (s.take (k+1))).2.2.1,()) w':=
   λw' h1 h2 h3=>hnext (s.length-(k+1)) _ _ (by omega) ⟨k+1,hlt,rfl,rfl,h1,h2,h3⟩
  rw[hst]at hnx
  clear hnext
  generalize enG (s.take k)=st at hnx hpre hwl hwa hIn3⊢
  obtain⟨n,word,nb,out⟩:=st
  dsimp only at hwl hwa hIn3⊢
  by_cases e:s[k]=32
  ·have e32:((s[k].toNat:Nat):Int)=32:=by rw[e];rfl
   cases nb with
   |false=>
    have hS:enS (n,word,false,out) s[k]=(numP word,[],true,out):=by unfold enS;rw[if_pos e,if_neg (by simp)]
    rw[hS]at hnx
    refine zl.cut (λst w'=>st=(numP word,())/\w.heap.size<w'.heap.size/\Inv out.length w'/\w'.heap[w.heap.size]? =some (.stringIter (bs s) (k+1))) ?_ ?_
    ·refine zt (λh=>absurd e32 h) (λ_=>zo (λ_=>?_) (λh=>by cases h))
     refine zoH hwa λw4 b4=>⟨_,rfl,rfl,?_,?_,?_⟩
     ·have:=b4.size
      omega
     ·exact hkeep _ w3 w4 hIn3 (by omega) (b4.mono (by omega))
     ·rw[b4.block _ (by omega)];exact hI3
    ·rintro⟨m,_⟩ w' ⟨h1,h2,h3,h4⟩
     cases h1
     exact hnx w' h2 h3 h4
   |true=>
    have hS:enS (n,word,true,out) s[k]=(n,[],false,out++[(n,word)]):=by unfold enS;rw[if_pos e,if_pos rfl]
    rw[hS]at hnx hpre
    dsimp only at hpre hnx
    rw[<-hL]at hpre
    have hj:out.length<(enL c).length:=by
     have:=hpre.length_le
     rw[List.length_append,List.length_singleton]at this
     omega
    have hjv:(enL c)[out.length]=(n,word):=by
     obtain⟨t,ht⟩:=hpre
     have:(enL c)[out.length]? =some (n,word):=by
      rw[<-ht]
      simp
     rw[List.getElem?_eq_getElem hj]at this
     exact Option.some.inj this
    refine zl.cut (λst w'=>st=(n,())/\w.heap.size<w'.heap.size/\Inv (out++[(n,word)]).length w'/\w'.heap[w.heap.size]? =some (.stringIter (bs s) (k+1))) ?_ ?_
    ·refine zt (λh=>absurd e32 h) (λ_=>zo (λh=>by cases h) (λ_=>?_))
     have hr:=hround out.length hj w3 hIn3
     rw[hjv]at hr
     refine ZH.mono hr λv w4 hv=>?_
     obtain⟨hv,hsz,hold⟩:=hv
     rcases hv with⟨rfl,hv⟩ | ⟨rfl,hv⟩
     ·refine⟨true,rfl,zE rfl ⟨rfl,by omega,?_,?_⟩⟩
      ·rw[List.length_append];exact hv
      ·rw[hold _ (Nat.le_refl _)];exact hI3
     ·exact⟨false,rfl,zD rfl hv⟩
    ·rintro⟨m,_⟩ w' ⟨h1,h2,h3,h4⟩
     cases h1
     exact hnx w' h2 h3 h4
  ·have hS:enS (n,word,nb,out) s[k]=(n,word++[s[k]],nb,out):=by unfold enS;rw[if_neg e]
   rw[hS]at hnx
   refine zl.cut (λ_ _=>False) ?_ (λ_ _ h=>h.elim)
   refine zt (λ_=>?_) (λh=>absurd (UInt8.toNat.inj (b:=32) (by have:((s[k].toNat:Nat):Int)=32:=h;show s[k].toNat=32;omega)) e)
   rw[zf5 hc128,zmz]
   refine⟨?_,hnx w3 (by omega) hIn3 hI3⟩
   unfold zh1
   rw[zP,zP,List.length_singleton]
   omega
 ·rw[zP]at hge
  have hk:k=s.length:=by omega
  subst hk
  rw[List.take_length,<-hL]at hIn
  exact hend w2 hIn
theorem zqK{c n:Int}{w:World}{R:VWP}(hR:∀s w',Below w.heap.size w w'->R (.tuple #[.string s,.bool (zca c n)]) w'):cR 188 #[.int .u8 c,.int .u32 n] w R:=by
 refine za.of (ziu c n R w ?_) λ_ _ h=>h
 refine zn λw1 hN1 b1 z1=>?_
 refine zn λw2 hS2 b2 z2=>?_
 refine zn λw3 hO3 b3 z3=>?_
 have hN3:=(hN1.below b2).below b3
 have hS3:=hS2.below b3
 have hb3:=(b1.on b2).on b3
 refine za.of (zh9 c _ w3 ?_) λ_ _ h=>h
 refine zn λw4 hC4 b4 z4=>⟨_,rfl,?_⟩
 have hN4:Blk w4 w.heap.size 22 [.int .u32 n]:=hN3.below b4
 have hS4:Blk w4 w1.heap.size 9 [.string (bs [])]:=hS3.below b4
 have hO4:Blk w4 w2.heap.size 4 [.bool false]:=hO3.below b4
 have hb4:=hb3.on b4
 intro mk hy
 have hcf:Tryz.fs.contains 197=true:=by kernel_rfl
 unfold zm0
 simp only[hcf]
 generalize hw5:((w4.alloc (.deferred (some []))).alloc (mk .ready none))=w5
 have b5:Below w4.heap.size w4 w5:=by rw[<-hw5];exact zd4 w4 _ _
 have z5:w5.heap.size=w4.heap.size+2:=by rw[<-hw5];exact zjX w4 _ _
 have hd5:w5.heap[w4.heap.size]? =some (.deferred (some [])):=by rw[<-hw5];exact zn2 w4 _ _
 have hl5:w5.heap[w4.heap.size+1]? =some (mk .ready none):=by rw[<-hw5];exact zn3 w4 _ _
 clear hw5
 have fin0:∀(b:Bool) (s:ByteArray) w',Below w.heap.size w w'->Blk w' w1.heap.size 9 [.string s]->Blk w' w2.heap.size 4 [.bool b]->b=zca c n->w'.heap[w4.heap.size]? =some (.deferred (some []))->
   za4 [w4.heap.size] w' λw13=>zv w13 (blk w1.heap.size) λx9=>ldB w13 (blk w2.heap.size) λx10=>R (.tuple #[(.string x9),(.bool x10)]) w13:=by
  intro b s w' h1 h2 h3 h4 h5
  refine zdy h5 ?_
  refine⟨s,(h2.put (by omega) _).cell0 rfl,b,(h3.put (by omega) _).cell0 rfl,?_⟩
  rw[h4]
  exact hR s _ (h1.putObj (by have:=hb4.size;omega) _)
 refine znR (y:=.func (.yield (w4.heap.size+1)) #[] #[]) ((hC4.below b5).cell0 rfl)
  (λj w'=>w'.heap[w4.heap.size+1]? =some (mk .ready none)/\w'.heap[w4.heap.size]? =some (.deferred (some []))/\Blk w' w.heap.size 22 [.int .u32 n]/\Blk w' w1.heap.size 9 [.string (bs [])]/\Blk w' w2.heap.size 4 [.bool false]/\
   Below w.heap.size w w'/\∀i (hi:i<(enL c).length),i<j->(enL c)[i].1≠n) _
  ⟨hl5,hd5,hN4.below b5,hS4.below b5,hO4.below b5,hb4.on b5,λi hi h=>by omega⟩ ?_ ?_ ?_
 ·rintro j w' w'' ⟨h1,h2,h3,h4,h5,h6,h7⟩ hsz hbb
  refine⟨(hbb.block _ (by omega)).trans h1,(hbb.block _ (by omega)).trans h2,h3.of_block (hbb.block _ (by omega)),h4.of_block (hbb.block _ (by omega)),h5.of_block (hbb.block _ (by omega)),h6.trans (hbb.mono (by omega)),h7⟩
 ·rintro j hj w' ⟨h1,h2,h3,h4,h5,h6,h7⟩
  refine hy ((enL c)[j].1,bs (enL c)[j].2,()) w' _ h1 ⟨h1,Nw.gen λw6 e6=>?_⟩
  have ho6:∀b,b≠w4.heap.size+1->w6.heap[b]? =w'.heap[b]?:=λb hb=>by rw[e6];exact World.putObj_heap_other hb
  have z6:w6.heap.size=w'.heap.size:=by rw[e6];simp
  have hlt':w4.heap.size+1<w'.heap.size:=(Array.getElem?_eq_some_iff.1 h1).1
  have hl6:w6.heap[w4.heap.size+1]? =some (mk .busy none):=by rw[e6];simp[World.putObj,hlt']
  have h66:Below w.heap.size w w6:=by rw[e6];exact h6.putObj (by have:=hb4.size;omega) _
  clear e6
  refine⟨n,(h3.of_block (ho6 _ (by omega))).cell0 rfl,?_⟩
  refine zm (λe=>?_) (λe=>?_)
  ·have k4:=h4.of_block (ho6 _ (by omega))
   have k5:=h5.of_block (ho6 _ (by omega))
   refine⟨k4.wr0 (by simp),Nw.gen λw7 e7=>?_⟩
   have c7:Chg w1.heap.size w6 w7:=by rw[e7];exact Chg.set w1.heap.size 0 w6 _
   have k4':Blk w7 w1.heap.size 9 [.string (bs (enL c)[j].2)]:=by rw[e7];exact k4.set0 _
   clear e7
   have k5':=c7.blk k5 (by omega)
   refine⟨k5'.wr0 (by simp),Nw.gen λw8 e8=>?_⟩
   have c8:Chg w2.heap.size w7 w8:=by rw[e8];exact Chg.set w2.heap.size 0 w7 _
   have k5'':Blk w8 w2.heap.size 4 [.bool true]:=by rw[e8];exact k5'.set0 _
   clear e8
   have k4'':=c8.blk k4' (by omega)
   have hl8:w8.heap[w4.heap.size+1]? =some (mk .busy none):=by rw[c8.block _ (by omega),c7.block _ (by omega)];exact hl6
   have b8:=c8.below (c7.below h66 (by have:=b1.size;omega)) (by have:=b1.size;have:=b2.size;omega)
   refine⟨hl8,.inr ⟨rfl,?_⟩,?_,?_⟩
   ·refine .inr ⟨?_,?_⟩
    ·exact zd6 (by have:=c8.size;have:=c7.size;omega) _
    ·refine fin0 true (bs (enL c)[j].2) _ ?_ ?_ ?_ ?_ ?_
     ·exact(b8.putObj (by have:=hb4.size;omega) _).putObj (by have:=hb4.size;omega) _
     ·exact(k4''.put (by omega) _).put (by omega) _
     ·exact(k5''.put (by omega) _).put (by omega) _
     ·exact((zor c n).2 ⟨_,List.getElem_mem hj,e⟩).symm
     ·rw[World.putObj_heap_other (by omega),World.putObj_heap_other (by omega),c8.block _ (by omega),c7.block _ (by omega),ho6 _ (by omega)]
      exact h2
   ·have:=c8.size;have:=c7.size
    simp[World.putObj]
    omega
   ·intro b hb
    rw[World.putObj_heap_other (by omega),c8.block _ (by omega),c7.block _ (by omega),ho6 _ (by omega)]
  ·refine⟨hl6,.inl ⟨rfl,?_,?_,?_,?_,?_,?_,?_⟩,?_,?_⟩
   ·exact zd6 (by omega) _
   ·rw[World.putObj_heap_other (by omega),ho6 _ (by omega)];exact h2
   ·exact(h3.of_block (ho6 _ (by omega))).put (by omega) _
   ·exact(h4.of_block (ho6 _ (by omega))).put (by omega) _
   ·exact(h5.of_block (ho6 _ (by omega))).put (by omega) _
   ·exact h66.putObj (by have:=hb4.size;omega) _
   ·intro i hi hij
    by_cases e':i=j
    ·subst e';exact e
    ·exact h7 i hi (by omega)
   ·simp[World.putObj];omega
   ·intro b hb
    rw[World.putObj_heap_other (by omega),ho6 _ (by omega)]
 ·rintro w' ⟨h1,h2,h3,h4,h5,h6,h7⟩
  have hlt':w4.heap.size+1<w'.heap.size:=(Array.getElem?_eq_some_iff.1 h1).1
  refine .inl ⟨h1,?_⟩
  have k4:=h4.put (l:=w4.heap.size+1) (by omega) (mk .exhausted none)
  have k5:=h5.put (l:=w4.heap.size+1) (by omega) (mk .exhausted none)
  refine⟨k4.wr0 (by simp),Nw.gen λw7 e7=>?_⟩
  have c7:Chg w1.heap.size (w'.putObj (w4.heap.size+1) (mk .exhausted none)) w7:=by rw[e7];exact Chg.set w1.heap.size 0 _ _
  have k4':Blk w7 w1.heap.size 9 [.string (bs [])]:=by rw[e7];exact k4.set0 _
  clear e7
  have k5':=c7.blk k5 (by omega)
  refine⟨k5'.wr0 (by simp),Nw.gen λw8 e8=>?_⟩
  have c8:Chg w2.heap.size w7 w8:=by rw[e8];exact Chg.set w2.heap.size 0 w7 _
  have k5'':Blk w8 w2.heap.size 4 [.bool false]:=by rw[e8];exact k5'.set0 _
  clear e8
  refine fin0 false (bs []) w8 ?_ (c8.blk k4' (by omega)) k5'' ?_ ?_
  ·exact c8.below (c7.below (h6.putObj (by have:=hb4.size;omega) _) (by have:=b1.size;omega)) (by have:=b1.size;have:=b2.size;omega)
  ·symm
   rw[Bool.eq_false_iff]
   intro h
   obtain⟨x,hx,e⟩:=(zor c n).1 h
   obtain⟨i,hi,rfl⟩:=List.mem_iff_getElem.1 hx
   exact h7 i hi hi e
  ·rw[c8.block _ (by omega),c7.block _ (by omega),World.putObj_heap_other (by omega)]
   exact h2
theorem zqc{c n:Int}{w:World}{R:VWP}(hR:∀s w',Below w.heap.size w w'->R (.tuple #[.string s,.bool (zca c n)]) w'):cR 190 #[.int .u8 c,.int .u32 n] w R:=by
 refine za.of (ze3 c n R w ?_) λ_ _ h=>h
 refine zlj λs w1 hs b1=>⟨s,rfl,?_⟩
 have hlen:=hs.len
 have hmax:=hs.bound
 refine zk.count s.l (by omega) (λk w'=>w'=w1/\∀j (hj:j<tabM.length),j<k->¬(tabM[j].1=c/\tabM[j].2.1=n)) ⟨rfl,λj hj h=>by omega⟩ ?_
 rintro k _ hk ⟨rfl,hj⟩ next hnext
 refine zf (λh=>?_) (λh=>?_)
 ·have hlt:k<tabM.length:=by dsimp only at h;omega
  obtain⟨a,ha⟩:=hs.base hlt
  have hcell:=hs.cell a ha k hlt
  rename_i wk
  refine zl.cut (λ_ w'=>w'=wk/\¬(tabM[k].1=c/\tabM[k].2.1=n)) ?_ ?_
  ·refine⟨⟨by omega,by omega⟩,zj ha ⟨_,hcell 0 (by omega),?_⟩⟩
   refine zm (λe1=>?_) (λe1=>⟨rfl,λh=>e1 h.1⟩)
   refine⟨⟨by omega,by omega⟩,zj ha ⟨_,by rw[zy];exact hcell 1 (by omega),?_⟩⟩
   refine zm (λe2=>?_) (λe2=>⟨rfl,λh=>e2 h.2⟩)
   refine⟨⟨by omega,by omega⟩,zj ha ⟨_,by rw[zy];exact hcell 2 (by omega),?_⟩⟩
   have:=hR (bs tabM[k].2.2) _ b1
   have ht:zca c n=true:=by
    unfold zca
    rw[List.any_eq_true]
    exact⟨_,List.getElem_mem hlt,by rw[Bool.and_eq_true,decide_eq_true_eq,decide_eq_true_eq];exact⟨e1,e2⟩⟩
   rwa[ht]at this
  ·rintro _ w' ⟨rfl,hno⟩
   refine hnext _ (by omega) ⟨rfl,λj hj' hjk=>?_⟩
   by_cases e':j=k
   ·subst e';exact hno
   ·exact hj j hj' (by omega)
 ·have hk:k=tabM.length:=by dsimp only at h;omega
  have:=hR (bs []) _ b1
  have hf:zca c n=false:=by
   rw[Bool.eq_false_iff]
   intro h
   unfold zca at h
   rw[List.any_eq_true]at h
   obtain⟨p,hp,e⟩:=h
   obtain⟨i,hi,e'⟩:=List.mem_iff_getElem.1 hp
   rw[Bool.and_eq_true,decide_eq_true_eq,decide_eq_true_eq]at e
   exact hj i hi (by omega) (by rw[e'];exact e)
  rwa[hf]at this
end Go.Proofs
namespace Go.Gm
open Go.Gk Go.Proofs
abbrev Fl.ty(f:Fl):Bool:=f.2.1
abbrev Fl.re(f:Fl):Bool:=f.2.2.1
def idP(must:Bool)(n bound e:Int):Int:=if must=(n !=0) then(if must=true/\bound<=n then 43 else 0) else e
def nul(s:ByteArray):Bool:=s.data.toList.contains 0
def zb4(c:Int)(a:Ag)(bound:Int):Int:=
 if c=0\/a.1≠ZI c then 42
 else if (a.1=3/\a.2.1≠0)\/(a.1≠3/\a.2.2.size≠0) then 42
 else if a.1=1/\(a.2.1=0\/bound<=a.2.1) then 43
 else if a.1=4/\zca c a.2.1=false then 31
 else if nul a.2.2=true then 13 else 0
abbrev ag0:Ag:=(0,0,bs [])
def werr(g:Fl)(al:List Ag)(bound:Int)(j:Nat):Int:=zb4 (letP g j:Int) (al.getD j ag0) bound
def argK(g:Fl)(al:List Ag)(bound:Int)(k:Nat):Int:=match (List.range k).find? λj=>werr g al bound j !=0 with
 |some j=>werr g al bound j
 |none=>0
def errK(g:Fl)(ty re:Int)(al:List Ag)(bound:Int)(k:Nat):Int:=
 if idP g.ty ty bound 40≠0 then idP g.ty ty bound 40 else if idP g.re re bound 41≠0 then idP g.re re bound 41 else argK g al bound k
theorem zqP(g:Fl)(al:List Ag)(bound:Int):argK g al bound 0=0:=rfl
theorem zqO(g:Fl)(al:List Ag)(bound:Int)(k:Nat):argK g al bound (k+1)=if argK g al bound k=0 then werr g al bound k else argK g al bound k:=by
 unfold argK
 rw[List.range_succ,List.find?_append]
 cases h:(List.range k).find? λj=>werr g al bound j !=0 with
 |some j=>
  have:=List.find?_some h
  simp only[Option.some_or]
  rw[if_neg (by simpa using this)]
 |none=>
  simp only[Option.none_or,if_true]
  by_cases e:werr g al bound k=0
  ·simp[e]
  ·simp[e]
theorem zcX(g:Fl)(ty re:Int)(al:List Ag)(bound:Int)(k:Nat):errK g ty re al bound (k+1)=if errK g ty re al bound k=0 then werr g al bound k else errK g ty re al bound k:=by
 unfold errK
 by_cases h1:idP g.ty ty bound 40=0
 ·by_cases h2:idP g.re re bound 41=0
  ·simp only[h1,h2,ne_eq,not_true_eq_false,if_false]
   exact zqO g al bound k
  ·simp[h1,h2]
 ·simp[h1]
theorem zeV{g:Fl}{al:List Ag}{bound:Int}{k:Nat}(h:argK g al bound k=0):∀j,j<k->werr g al bound j=0:=by
 intro j hj
 unfold argK at h
 split at h
 ·rename_i i hi
  have:=List.find?_some hi
  rw[h]at this
  simp at this
 ·rename_i hn
  have:=List.find?_eq_none.1 hn j (List.mem_range.2 hj)
  simpa using this
theorem zeZ{g:Fl}{ty re:Int}{al:List Ag}{bound:Int}{k:Nat}(h:errK g ty re al bound k=0):idP g.ty ty bound 40=0/\idP g.re re bound 41=0/\argK g al bound k=0:=by
 unfold errK at h
 split at h
 ·rename_i h1;exact absurd h h1
 ·rename_i h1
  split at h
  ·rename_i h2;exact absurd h h2
  ·rename_i h2
   exact⟨Decidable.not_not.1 h1,Decidable.not_not.1 h2,h⟩
theorem zqV{g:Fl}{ty re:Int}{al:List Ag}{bound:Int}{k n:Nat}(hk:k<=n)(h:errK g ty re al bound k≠0):errK g ty re al bound n=errK g ty re al bound k:=by
 induction n with
 |zero=>rw[Nat.le_zero.1 hk]
 |succ n ih=>
  rcases Nat.lt_or_ge k (n+1) with hlt |hge
  ·rw[zcX,ih (by omega),if_neg h]
  ·rw[Nat.le_antisymm hk hge]
def YS(g:Fl)(n:Nat):Bool:=if n<g.fixed.length then false else if g.rest.length=0 then n==g.fixed.length else(n-g.fixed.length) % g.rest.length==0
def cost(a:Ag):Nat:=if a.1=3 then a.2.2.size / 4+1 else 1
def zgw(al:List Ag)(k:Nat):Nat:=((al.take k).map cost).sum
def zbp(g:Fl)(al:List Ag):Nat:=1+(g.ty.toNat +g.re.toNat +zgw al al.length)
def za6(g:Fl)(ty re:Int)(al:List Ag)(bound:Int):Int:=
 if errK g ty re al bound al.length≠0 then errK g ty re al bound al.length else if YS g al.length=false then 42 else if 65535<zbp g al then 25 else 0
def zf7(op ty re:Int)(al:List Ag)(bound:Int):Int:=match frm op with
 |none=>30
 |some g=>za6 g ty re al bound
theorem zcb{op ty re:Int}{al:List Ag}{bound:Int}(h:frm op=none):zf7 op ty re al bound=30:=by unfold zf7;rw[h]
theorem zcc{op ty re:Int}{al:List Ag}{bound:Int}{g:Fl}(h:frm op=some g):zf7 op ty re al bound=za6 g ty re al bound:=by unfold zf7;rw[h]
theorem zf2{al:List Ag}{k:Nat}(hk:k<al.length):zgw al (k+1)=zgw al k+cost al[k]:=by
 unfold zgw
 rw[List.take_succ_eq_append_getElem hk,List.map_append,List.sum_append]
 simp
def zqr(g:Fl):Bool:=!(g.rest.contains 115)&&(List.range g.fixed.length).all λi=>(List.range g.fixed.length).all λj=>!(g.fixed.getD i 0==115&&g.fixed.getD j 0==115)||i==j
theorem zpm:tabR.all (λp=>zqr p.2)=true:=by decide +kernel
theorem zo4{c:Int}(h:ZI c=3):c=115:=by
 unfold ZI at h
 split at h
 ·cases h
 ·split at h
  ·cases h
  ·split at h
   ·assumption
   ·split at h<;>cases h
theorem zmI{op:Int}{g:Fl}(hg:frm op=some g){k:Nat}(h:ZI (letP g k:Int)=3):k<g.fixed.length/\g.fixed.getD k 0=115:=by
 have hc:=zo4 h
 have ht:=List.all_eq_true.1 zpm _ (Ya (show Gm.look tabR op=some g from hg))
 simp only[zqr,Bool.and_eq_true,Bool.not_eq_true']at ht
 unfold letP at hc
 split at hc
 ·rename_i hlt
  exact⟨hlt,UInt8.toNat.inj (show(g.fixed.getD k 0).toNat=115 by omega)⟩
 ·split at hc
  ·cases hc
  ·split at hc
   ·cases hc
   ·rename_i h1 h2 h3
    have hlt:(k-g.fixed.length) % g.rest.length<g.rest.length:=Nat.mod_lt _ (by omega)
    rw[zs hlt]at hc
    have:g.rest[(k-g.fixed.length) % g.rest.length]=115:=UInt8.toNat.inj (show _=115 by omega)
    have hm:=List.getElem_mem hlt
    rw[this]at hm
    have:=List.contains_iff_mem.2 hm
    rw[ht.1]at this
    cases this
theorem zr2{op:Int}{g:Fl}(hg:frm op=some g){i j:Nat}(hi:ZI (letP g i:Int)=3)(hj:ZI (letP g j:Int)=3):i=j:=by
 obtain⟨h1,h2⟩:=zmI hg hi
 obtain⟨h3,h4⟩:=zmI hg hj
 have ht:=List.all_eq_true.1 zpm _ (Ya (show Gm.look tabR op=some g from hg))
 simp only[zqr,Bool.and_eq_true]at ht
 have:=List.all_eq_true.1 (List.all_eq_true.1 ht.2 i (List.mem_range.2 h1)) j (List.mem_range.2 h3)
 rw[h2,h4]at this
 simpa using this
def tx(al:List Ag)(k:Nat):Nat:=((al.take k).map λa=>if a.1=3 then 1 else 0).sum
theorem zkY{al:List Ag}{k:Nat}(hk:k<al.length):tx al (k+1)=tx al k+(if al[k].1=3 then 1 else 0):=by
 unfold tx
 rw[List.take_succ_eq_append_getElem hk,List.map_append,List.sum_append]
 simp
theorem zqH{al:List Ag}:∀{k:Nat},k<=al.length->(∀j (hj:j<al.length),j<k->al[j].1≠3)->tx al k=0
 | 0,_,_=>by simp[tx]
 |k+1,hk,h=>by
  rw[zkY (by omega),zqH (k:=k) (by omega) (λj hj hjk=>h j hj (by omega)),if_neg (h k (by omega) (by omega))]
theorem zfS{c:Int}{a:Ag}{bound:Int}(h:zb4 c a bound=0):c≠0/\a.1=ZI c:=by
 unfold zb4 at h
 split at h
 ·cases h
 ·rename_i h1
  constructor
  ·intro e;exact h1 (.inl e)
  ·exact Classical.byContradiction λe=>h1 (.inr e)
theorem znL{op:Int}{g:Fl}(hg:frm op=some g){al:List Ag}{bound:Int}:∀{k:Nat},k<=al.length->(∀j,j<k->werr g al bound j=0)->tx al k<=1
 | 0,_,_=>by simp[tx]
 |k+1,hk,h=>by
  rw[zkY (by omega)]
  split
  ·rename_i h3
   have hz:tx al k=0:=by
    refine zqH (by omega) λj hj hjk e=>?_
    have a1:=(zfS (h j (by omega))).2
    have a2:=(zfS (h k (by omega))).2
    rw[zs hj]at a1
    rw[zs (by omega)]at a2
    have:=zr2 hg (a1.symm.trans e) (a2.symm.trans h3)
    omega
   omega
  ·have:=znL hg (k:=k) (by omega) λj hj=>h j (by omega)
   omega
theorem zlw{al:List Ag}(hs:∀x∈al,x.2.2.size<=9223372036854775807):∀{k:Nat},k<=al.length->zgw al k<=k+2305843009213693952*tx al k
 | 0,_=>by simp[zgw]
 |k+1,hk=>by
  have:=zlw hs (k:=k) (by omega)
  rw[zf2 (by omega),zkY (by omega)]
  have h1:=hs _ (List.getElem_mem (show k<al.length by omega))
  unfold cost
  split<;>omega
theorem zqW{op:Int}{g:Fl}(hg:frm op=some g){al:List Ag}{bound:Int}(h:∀j,j<al.length->werr g al bound j=0):(fitP op (al.map (·.1))).2=YS g al.length:=by
 have hb:∀j,j<(al.map (·.1)).length->bad g (al.map (·.1)) j=false:=by
  intro j hj
  have hj':j<al.length:=by simpa using hj
  obtain⟨h1,h2⟩:=zfS (h j hj')
  rw[zs hj']at h2
  unfold bad
  rw[zs hj,List.getElem_map,h2]
  have:=zmG hg (k:=j) (by omega)
  simp[this]
 rw[zjL hg,zl5 hb,List.length_map]
 have hz:g.rest.length=0->al.length<=g.fixed.length:=by
  intro h0
  refine Classical.byContradiction λhgt=>?_
  have:=(zfS (h g.fixed.length (by omega))).1
  apply this
  unfold letP
  rw[if_neg (by omega),if_pos h0]
  rfl
 unfold YS Yg
 by_cases h1:al.length<g.fixed.length
 ·rw[if_pos h1,decide_eq_true h1,Bool.true_or,if_pos rfl]
 ·rw[if_neg h1,decide_eq_false h1,Bool.false_or]
  by_cases h2:g.rest.length=0
  ·have h3:al.length=g.fixed.length:=by have:=hz h2;omega
   rw[if_pos h2,decide_eq_false (by omega),Bool.false_and,h3]
   simp
  ·rw[if_neg h2,decide_eq_true h2,Bool.true_and]
   by_cases h3:(al.length-g.fixed.length) % g.rest.length=0
   ·rw[h3];rfl
   ·rw[decide_eq_true h3,if_pos rfl]
    exact(beq_eq_false_iff_ne.2 h3).symm
def Ze(p:PI)(bound:Int):Int:=zf7 p.1 p.2.1 p.2.2.1 p.2.2.2 bound
def zgx(p:PI):Nat:=match frm p.1 with
 |none=>0
 |some g=>zbp g p.2.2.2
def totP(pl:List PI)(k:Nat):Nat:=5+((pl.take k).map zgx).sum
theorem zkl{pl:List PI}{k:Nat}(hk:k<pl.length):totP pl (k+1)=totP pl k+zgx pl[k]:=by
 unfold totP
 rw[List.take_succ_eq_append_getElem hk,List.map_append,List.sum_append]
 simp
 omega
abbrev pi0:PI:=(0,0,0,[])
def badI(pl:List PI)(bound:Int)(k:Nat):Bool:=Ze (pl.getD k pi0) bound !=0||decide (1048576<totP pl (k+1))
def zG(bound:Int)(pl:List PI):Int×Nat:=
 if bound=0\/65536<bound then(24,0) else match (List.range pl.length).find? (badI pl bound) with
  |some k=>(if Ze (pl.getD k pi0) bound≠0 then Ze (pl.getD k pi0) bound else 4,k)
  |none=>(0,0)
theorem zex{bound:Int}{pl:List PI}(h:bound=0\/65536<bound):zG bound pl=(24,0):=by unfold zG;rw[if_pos h]
theorem zkC{bound:Int}{pl:List PI}(h:¬(bound=0\/65536<bound)){k:Nat}(hk:k<pl.length)(hj:∀j,j<k->badI pl bound j=false)(hf:Ze pl[k] bound≠0):zG bound pl=(Ze pl[k] bound,k):=by
 unfold zG
 rw[if_neg h,YO hk (by unfold badI;rw[zs hk,bne_iff_ne.2 hf];rfl) hj]
 simp only[zs hk]
 rw[if_pos hf]
theorem zkD{bound:Int}{pl:List PI}(h:¬(bound=0\/65536<bound)){k:Nat}(hk:k<pl.length)(hj:∀j,j<k->badI pl bound j=false)(hf:Ze pl[k] bound=0)(ht:1048576<totP pl (k+1)):zG bound pl=(4,k):=by
 unfold zG
 rw[if_neg h,YO hk (by unfold badI;rw[decide_eq_true ht,Bool.or_true]) hj]
 simp only[zs hk]
 rw[if_neg (by rw[hf];simp)]
theorem zlV{bound:Int}{pl:List PI}(h:¬(bound=0\/65536<bound))(hj:∀j,j<pl.length->badI pl bound j=false):zG bound pl=(0,0):=by
 unfold zG
 rw[if_neg h]
 have:(List.range pl.length).find? (badI pl bound)=none:=by
  rw[List.find?_eq_none]
  intro j hj'
  rw[hj j (List.mem_range.1 hj')]
  simp
 rw[this]
theorem zlr{pl:List PI}{bound:Int}{k:Nat}(hk:k<pl.length)(hf:Ze pl[k] bound=0)(ht:¬1048576<totP pl (k+1)):badI pl bound k=false:=by
 unfold badI
 rw[zs hk,hf,decide_eq_false ht]
 rfl
theorem Ye{bound:Int}{pl:List PI}(h:(zG bound pl).1=0):¬(bound=0\/65536<bound)/\∀k (hk:k<pl.length),Ze pl[k] bound=0:=by
 unfold zG at h
 split at h
 ·cases h
 ·rename_i hb
  refine⟨hb,λk hk=>?_⟩
  split at h
  ·rename_i j hj
   dsimp only at h
   split at h
   ·rename_i hf;exact absurd h hf
   ·cases h
  ·rename_i hn
   have:=List.find?_eq_none.1 hn k (List.mem_range.2 hk)
   unfold badI at this
   rw[zs hk]at this
   simp only[Bool.or_eq_true,not_or,bne_iff_ne,ne_eq,Decidable.not_not]at this
   exact this.1
theorem zkv(x:ByteArray):(x.toList==(BM #[]).toList)=decide (x.size=0):=by
 obtain⟨a⟩:=x
 have:=YR (a:=a.toList)
 unfold bs at this
 rw[Array.toArray_toList]at this
 rw[this]
 simp only[ByteArray.size]
 rw[Bool.eq_iff_iff,List.isEmpty_iff,decide_eq_true_iff]
 constructor
 ·intro h;rw[<-Array.length_toList,h];rfl
 ·intro h;exact List.eq_nil_of_length_eq_zero (by rw[Array.length_toList];exact h)
end Go.Gm
namespace Go.Proofs
open Go.Gk Go.RowKit Go.Gm
def zic(p:PI):Bool:=p.1==59&&(match p.2.2.2 with | []=>false |a::_=>a.2.1==7)
def zci(op:Int):Nat:=match frm op with
 |some g=>g.2.2.2.2.2.2
 |none=>0
def zx(p:PI):Nat:=if zic p then 8 else zci p.1
theorem zsA:tabR.all (λp=>decide (p.2.2.2.2.2.2.2<=8))=true:=by decide +kernel
theorem zoN(op:Int):zci op<=8:=by
 unfold zci
 cases h:frm op with
 |none=>exact Nat.zero_le _
 |some g=>exact of_decide_eq_true (List.all_eq_true.1 zsA _ (Ya h))
theorem zcj(p:PI):zx p<=8:=by
 unfold zx
 split
 ·exact Nat.le_refl _
 ·exact zoN _
def zZ(op:Int):Bool:=decide (249<=op/\op<=255)
def kdP(p:PI):Int:=
 if zx p≠8 then 9 else if p.1=54 then 1 else if p.1=55 then 2 else if p.1=56 then 8 else if p.1=248 then 3 else if p.1=245 then 4
 else if p.1=59 then 5 else if p.1=246 then 6 else if p.1=247 then 6 else if zZ p.1=true then 7 else 0
def Yx(op ah:Int)(fi:Bool):Bool:=
 if op=54 then ah==0||ah==56
 else if op=55 then ah==54||ah==55
 else if op=248 then ah==54||ah==55||zZ ah
 else if op=56 then zZ ah
 else if ah=0\/ah=54\/ah=55\/ah=56\/zZ ah=true then false
 else if op=245 then(ah==248||ah==245)&&!fi
 else if op=59 then(ah==248||ah==59)&&fi
 else if ah=246 then op==249||op==250
 else if ah=247 then op==250||op==251
 else true
abbrev ix(pl:List PI)(k:Nat):PI:=pl.getD k pi0
def zN(pl:List PI):Nat->Int
 | 0=>0
 |n+1=>if zx (ix pl n)=8 then(ix pl n).1 else 0
def yO(pl:List PI):Nat->Bool
 | 0=>false
 |n+1=>if (ix pl (n+1)).1=248 then(ix pl n).1==54||(ix pl n).1==55 else yO pl n
def mdlP(pl:List PI)(n:Nat):Bool:=(List.range n).any λk=>zx (ix pl k)==1
def zk5(pl:List PI)(n:Nat):Bool:=(List.range n).any λk=>decide (zx (ix pl n)<zx (ix pl k))
def mayP(pl:List PI)(n:Nat):Bool:=
 if zk5 pl n=true then false
 else if zx (ix pl n)=1 then !mdlP pl n
 else if 1<zx (ix pl n)/\mdlP pl n=false then false
 else if zx (ix pl n)<8 then true
 else Yx (ix pl n).1 (zN pl n) (yO pl (n-1))
def zaA(pl:List PI):Bool:=!mdlP pl pl.length||(decide (0<pl.length)&&zx (ix pl (pl.length-1))==8&&(ix pl (pl.length-1)).1 !=56)
def chkP(pl:List PI):Int×Nat:=match (List.range pl.length).find? (λk=>!mayP pl k) with
 |some k=>(50,k)
 |none=>if zaA pl=true then(51,pl.length) else(0,0)
def layP(bound:Int)(pl:List PI):Int×Nat:=if (zG bound pl).1≠0 then zG bound pl else chkP pl
def Z0(pl:List PI)(n:Nat):Prop:=∀k,k<n->mayP pl k=true
theorem zhc{pl:List PI}{n:Nat}:mdlP pl n=true↔∃k,k<n/\zx (ix pl k)=1:=by
 unfold mdlP
 simp[List.any_eq_true]
theorem zhv{pl:List PI}{n m:Nat}(h:mdlP pl n=true)(hnm:n<=m):mdlP pl m=true:=by
 obtain⟨k,h1,h2⟩:=zhc.1 h
 exact zhc.2 ⟨k,by omega,h2⟩
theorem zmO{pl:List PI}{n:Nat}(h:∀k,k<n->zx (ix pl k)≠1):mdlP pl n=false:=by
 cases e:mdlP pl n
 ·rfl
 ·obtain⟨k,h1,h2⟩:=zhc.1 e
  exact absurd h2 (h k h1)
theorem zmP{pl:List PI}{n:Nat}:zk5 pl n=true↔∃k,k<n/\zx (ix pl n)<zx (ix pl k):=by
 unfold zk5
 simp[List.any_eq_true]
theorem zfr{pl:List PI}{n k:Nat}(hk:k<n)(h:zx (ix pl n)<zx (ix pl k)):mayP pl n=false:=by
 unfold mayP
 rw[if_pos (zmP.2 ⟨k,hk,h⟩)]
theorem zlM{pl:List PI}{n:Nat}(h:∀k,k<n->zx (ix pl k)<=zx (ix pl n)):¬zk5 pl n=true:=λe=>by
 obtain⟨k,h1,h2⟩:=zmP.1 e
 have:=h k h1
 omega
theorem zts{pl:List PI}{n:Nat}(h:∀k,k<n->zx (ix pl k)<=zx (ix pl n))(h1:zx (ix pl n)=1->mdlP pl n=false)(h2:1<zx (ix pl n)->mdlP pl n=true)(h8:zx (ix pl n)<8) :
  mayP pl n=true:=by
 unfold mayP
 rw[if_neg (zlM h)]
 by_cases e:zx (ix pl n)=1
 ·rw[if_pos e,h1 e]
  rfl
 ·rw[if_neg e,if_neg (λ⟨g1,g2⟩=>by rw[h2 g1]at g2;cases g2),if_pos h8]
theorem zk1{pl:List PI}{n:Nat}(h:mdlP pl n=false)(h1:1<zx (ix pl n)):mayP pl n=false:=by
 unfold mayP
 by_cases e:zk5 pl n=true
 ·rw[if_pos e]
 ·rw[if_neg e,if_neg (by omega),if_pos ⟨h1,h⟩]
theorem zrp{pl:List PI}{n:Nat}(h:mdlP pl n=true)(h1:zx (ix pl n)=1):mayP pl n=false:=by
 unfold mayP
 by_cases e:zk5 pl n=true
 ·rw[if_pos e]
 ·rw[if_neg e,if_pos h1,h]
  rfl
theorem zhu{pl:List PI}{n:Nat}(h:mdlP pl n=true)(h8:zx (ix pl n)=8):mayP pl n=Yx (ix pl n).1 (zN pl n) (yO pl (n-1)):=by
 unfold mayP
 rw[if_neg (zlM λk hk=>by rw[h8];exact zcj _),if_neg (by omega),if_neg (λ⟨_,g⟩=>by rw[h]at g;cases g),if_neg (by omega)]
theorem Z0.step{pl:List PI}{n:Nat}(h:Z0 pl n)(hn:mayP pl n=true):Z0 pl (n+1):=λk hk=>by
 by_cases e:k=n
 ·subst e;exact hn
 ·exact h k (by omega)
theorem zqy{pl:List PI}{n:Nat}(hg:Z0 pl n)(hn:n<pl.length)(hm:mayP pl n=false):chkP pl=(50,n):=by
 unfold chkP
 rw[YO hn (by rw[hm];rfl) λj hj=>by rw[hg j hj];rfl]
theorem znp{pl:List PI}(hg:Z0 pl pl.length):chkP pl=if zaA pl=true then(51,pl.length) else(0,0):=by
 unfold chkP
 have:(List.range pl.length).find? (λk=>!mayP pl k)=none:=by
  rw[List.find?_eq_none]
  intro j hj
  rw[hg j (List.mem_range.1 hj)]
  simp
 rw[this]
def zeK(pl:List PI)(n:Nat):Prop:=n<=pl.length/\Z0 pl n/\(n<pl.length->mayP pl n=false)/\(n=pl.length->zaA pl=true)
theorem zeK.chk{pl:List PI}{n:Nat}(h:zeK pl n):chkP pl=(if n<pl.length then 50 else 51,n):=by
 obtain⟨h1,h2,h3,h4⟩:=h
 by_cases e:n<pl.length
 ·rw[if_pos e]
  exact zqy h2 e (h3 e)
 ·have:n=pl.length:=by omega
  subst this
  rw[if_neg e,znp h2,if_pos (h4 rfl)]
theorem zju{pl:List PI}(h:mdlP pl pl.length=false):zaA pl=true:=by
 unfold zaA
 rw[h]
 rfl
structure InvT (pl:List PI) (p n:Nat):Prop where
 le:n<=pl.length
 good:Z0 pl n
 low:∀k,k<n->zx (ix pl k)<p
 mdl:2<=p->mdlP pl n=true
 stuck:n<pl.length->zx (ix pl n)<p->mayP pl n=false
theorem InvT.zero(pl:List PI):InvT pl 0 0:=⟨Nat.zero_le _,λk hk=>by omega,λk hk=>by omega,λh=>by omega,λ_ h=>by omega⟩
structure InvP (pl:List PI) (p from' n:Nat):Prop where
 le:n<=pl.length
 lo:from'<=n
 good:Z0 pl n
 own:∀k,from'<=k->k<n->zx (ix pl k)=p
 one:p=1->n=from'
theorem InvT.into{pl:List PI}{p n:Nat}(h:InvT pl p n):InvP pl p n n:=⟨h.le,Nat.le_refl _,h.good,λk h1 h2=>by omega,λ_=>rfl⟩
theorem InvP.may{pl:List PI}{p f n:Nat}(h:InvP pl p f n)(hT:InvT pl p f)(hp8:p<8)(hpart:zx (ix pl n)=p):mayP pl n=true:=by
 refine zts (λk hk=>?_) (λe=>?_) (λe=>?_) (by omega)
 ·rw[hpart]
  by_cases hkf:k<f
  ·exact Nat.le_of_lt (hT.low k hkf)
  ·exact Nat.le_of_eq (h.own k (by omega) hk)
 ·have hp1:p=1:=by omega
  have hnf:=h.one hp1
  refine zmO λk hk=>?_
  have:=hT.low k (by omega)
  omega
 ·exact zhv (hT.mdl (by omega)) h.lo
theorem InvP.step{pl:List PI}{p f n:Nat}(h:InvP pl p f n)(hT:InvT pl p f)(hp8:p<8)(hn:n<pl.length)(hpart:zx (ix pl n)=p)(h1:p≠1):InvP pl p f (n+1):=
 ⟨by omega,by have:=h.lo;omega,h.good.step (h.may hT hp8 hpart),λk k1 k2=>by
  by_cases e:k=n
  ·subst e;exact hpart
  ·exact h.own k k1 (by omega),λe=>absurd e h1⟩
theorem InvP.out{pl:List PI}{p f n:Nat}(h:InvP pl p f n)(hT:InvT pl p f)(h1:p≠1)(hne:n<pl.length->zx (ix pl n)≠p):InvT pl (p+1) n:=
 ⟨h.le,h.good,λk hk=>by
  by_cases hkf:k<f
  ·have:=hT.low k hkf;omega
  ·have:=h.own k (by omega) hk;omega,λh2=>zhv (hT.mdl (by omega)) h.lo,λhn hlt=>by
  by_cases e:n=f
  ·subst e
   exact hT.stuck hn (by have:=hne hn;omega)
  ·refine zfr (k:=n-1) (by have:=h.lo;omega) ?_
   rw[h.own (n-1) (by have:=h.lo;omega) (by have:=h.lo;omega)]
   have:=hne hn
   omega⟩
theorem InvT.model{pl:List PI}{n:Nat}(hT:InvT pl 1 n)(hn:n<pl.length)(hpart:zx (ix pl n)=1):InvT pl 2 (n+1):=by
 have hm:mdlP pl (n+1)=true:=zhc.2 ⟨n,by omega,hpart⟩
 refine⟨by omega,hT.good.step (hT.into.may hT (by omega) hpart),λk hk=>?_,λ_=>hm,λh1 h2=>?_⟩
 ·by_cases e:k=n
  ·subst e;omega
  ·have:=hT.low k (by omega);omega
 ·rcases Nat.lt_or_ge (zx (ix pl (n+1))) 1 with h |h
  ·exact zfr (k:=n) (by omega) (by omega)
  ·exact zrp hm (by omega)
theorem InvT.nomodel{pl:List PI}{n:Nat}(hT:InvT pl 1 n)(hne:n<pl.length->zx (ix pl n)≠1):zeK pl n:=by
 have hm:mdlP pl n=false:=zmO λk hk=>by have:=hT.low k hk;omega
 refine⟨hT.le,hT.good,λhn=>?_,λe=>?_⟩
 ·rcases Nat.lt_or_ge (zx (ix pl n)) 1 with h |h
  ·exact hT.stuck hn h
  ·exact zk1 hm (by have:=hne hn;omega)
 ·subst e
  exact zju hm
structure InvO (pl:List PI) (n:Nat):Prop where
 le:n<=pl.length
 good:Z0 pl n
 mdl:mdlP pl n=true
 ah:zN pl n=0\/zN pl n=56
 stuck:n<pl.length->zx (ix pl n)≠8->mayP pl n=false
 shut:n=pl.length->zaA pl=false
theorem zdv{pl:List PI}{n:Nat}(h:zx (ix pl n)=8):zN pl (n+1)=(ix pl n).1:=if_pos h
theorem InvT.fun{pl:List PI}{n:Nat}(h:InvT pl 8 n):InvO pl n:=by
 have h0:zN pl n=0:=by
  cases n with
  |zero=>rfl
  |succ m=>exact if_neg (by have:=h.low m (by omega);omega)
 refine⟨h.le,h.good,h.mdl (by omega),.inl h0,λhn h8=>h.stuck hn (by have:=zcj (ix pl n);omega),λe=>?_⟩
 subst e
 unfold zaA
 rw[h.mdl (by omega)]
 cases hl:pl.length with
 |zero=>rfl
 |succ m=>
  have:=h.low m (by omega)
  rw[Nat.add_sub_cancel,beq_eq_false_iff_ne.2 (show zx (ix pl m)≠8 by omega)]
  simp
structure InvF (pl:List PI) (n:Nat) (ah:Int):Prop where
 le:n<=pl.length
 good:Z0 pl n
 mdl:mdlP pl n=true
 pos:0<n
 part:zx (ix pl (n-1))=8
 op:(ix pl (n-1)).1=ah
theorem InvF.ah{pl:List PI}{n:Nat}{ah:Int}(h:InvF pl n ah):zN pl n=ah:=by
 obtain⟨m,rfl⟩:∃m,n=m+1:=⟨n-1,by have:=h.pos;omega⟩
 have:=zdv (n:=m) h.part
 rw[this]
 exact h.op
theorem InvF.step{pl:List PI}{n:Nat}{ah:Int}(h:InvF pl n ah)(hn:n<pl.length)(h8:zx (ix pl n)=8)(hm:Yx (ix pl n).1 ah (yO pl (n-1))=true):InvF pl (n+1) (ix pl n).1:=
 ⟨by omega,h.good.step (by rw[zhu h.mdl h8,h.ah];exact hm),zhv h.mdl (by omega),by omega,h8,rfl⟩
theorem InvF.bad{pl:List PI}{n:Nat}{ah:Int}(h:InvF pl n ah)(h56:ah≠56)(hb:n<pl.length->zx (ix pl n)=8->Yx (ix pl n).1 ah (yO pl (n-1))=false):zeK pl n:=by
 refine⟨h.le,h.good,λhn=>?_,λe=>?_⟩
 ·by_cases h8:zx (ix pl n)=8
  ·rw[zhu h.mdl h8,h.ah]
   exact hb hn h8
  ·refine zfr (k:=n-1) (by have:=h.pos;omega) ?_
   rw[h.part]
   have:=zcj (ix pl n)
   omega
 ·subst e
  unfold zaA
  rw[h.part,h.op,h.mdl]
  have:=h.pos
  simp[this,h56]
theorem InvF.end{pl:List PI}{n:Nat}(h:InvF pl n 56):InvO pl n:=by
 refine⟨h.le,h.good,h.mdl,.inr h.ah,λhn h8=>?_,λe=>?_⟩
 ·refine zfr (k:=n-1) (by have:=h.pos;omega) ?_
  rw[h.part]
  have:=zcj (ix pl n)
  omega
 ·subst e
  unfold zaA
  rw[h.part,h.op,h.mdl]
  simp
theorem InvO.begin{pl:List PI}{n:Nat}(h:InvO pl n)(hn:n<pl.length)(h8:zx (ix pl n)=8)(hop:(ix pl n).1=54):InvF pl (n+1) 54:=by
 refine⟨by omega,h.good.step ?_,zhv h.mdl (by omega),by omega,h8,hop⟩
 rw[zhu h.mdl h8,hop]
 rcases h.ah with e |e<;>rw[e]<;>rfl
theorem InvO.bad{pl:List PI}{n:Nat}(h:InvO pl n)(hn:n<pl.length)(hk:kdP (ix pl n)≠1):zeK pl n:=by
 refine⟨h.le,h.good,λ_=>?_,λe=>by omega⟩
 by_cases h8:zx (ix pl n)=8
 ·rw[zhu h.mdl h8]
  have hop:(ix pl n).1≠54:=λe=>hk (by unfold kdP;rw[if_neg (λhh=>hh h8),if_pos e])
  have:zN pl n=0\/zN pl n=54\/zN pl n=55\/zN pl n=56\/zZ (zN pl n)=true:=by rcases h.ah with e |e<;>simp[e]
  unfold Yx
  rw[if_neg hop]
  by_cases e1:(ix pl n).1=55
  ·rw[if_pos e1];rcases h.ah with e |e<;>rw[e]<;>rfl
  ·rw[if_neg e1]
   by_cases e2:(ix pl n).1=248
   ·rw[if_pos e2];rcases h.ah with e |e<;>rw[e]<;>rfl
   ·rw[if_neg e2]
    by_cases e3:(ix pl n).1=56
    ·rw[if_pos e3];rcases h.ah with e |e<;>rw[e]<;>rfl
    ·rw[if_neg e3,if_pos this]
 ·exact h.stuck hn h8
theorem Zx{p:PI}(h:kdP p≠9):zx p=8:=by
 unfold kdP at h
 by_cases e:zx p=8
 ·exact e
 ·rw[if_pos e]at h;exact absurd rfl h
theorem ztD{p:PI}(h8:zx p=8):kdP p=(if p.1=54 then 1 else if p.1=55 then 2 else if p.1=56 then 8 else if p.1=248 then 3 else if p.1=245 then 4
 else if p.1=59 then 5 else if p.1=246 then 6 else if p.1=247 then 6 else if zZ p.1=true then 7 else 0):=by
 unfold kdP
 rw[if_neg (λg=>g h8)]
theorem za5{op:Int}:zZ op=true↔249<=op/\op<=255:=by unfold zZ;exact decide_eq_true_iff
theorem zf6{op:Int}:zZ op=false↔¬(249<=op/\op<=255):=by unfold zZ;exact decide_eq_false_iff_not
theorem Zi{p:PI}(h8:zx p=8):(kdP p=1↔p.1=54)/\(kdP p=2↔p.1=55)/\(kdP p=8↔p.1=56)/\(kdP p=3↔p.1=248)/\(kdP p=4↔p.1=245)/\(kdP p=5↔p.1=59)/\
  (kdP p=6↔p.1=246\/p.1=247)/\(kdP p=7↔249<=p.1/\p.1<=255)/\kdP p≠9:=by
 rw[ztD h8]
 simp only[za5]
 repeat' split
 all_goals omega
def mayI(mg en:Int):Bool:=if en=251 then mg==247 else if en=249 then mg==246 else if en=250 then true else false
structure zr7 (ah:Int):Prop where
 ne:ah≠0/\ah≠54/\ah≠55/\ah≠56/\ah≠246/\ah≠247
 en:¬(249<=ah/\ah<=255)
theorem zcZ{op ah:Int}{F:Bool}(h:zr7 ah):Yx op ah F=(if op=54\/op=55\/op=248\/op=56 then false else if op=245 then(ah==248||ah==245)&&!F else if op=59 then(ah==248||ah==59)&&F else true):=by
 obtain⟨⟨h0,h1,h2,h3,h4,h5⟩,h6⟩:=h
 have h6':=zf6.2 h6
 have no:∀{c:Int},ah≠c->(ah==c)=false:=λh=>beq_eq_false_iff_ne.2 h
 unfold Yx
 by_cases e1:op=54
 ·rw[if_pos e1,if_pos (.inl e1),no h0,no h3];rfl
 rw[if_neg e1]
 by_cases e2:op=55
 ·rw[if_pos e2,if_pos (.inr (.inl e2)),no h1,no h2];rfl
 rw[if_neg e2]
 by_cases e3:op=248
 ·rw[if_pos e3,if_pos (.inr (.inr (.inl e3))),no h1,no h2,h6'];rfl
 rw[if_neg e3]
 by_cases e4:op=56
 ·rw[if_pos e4,if_pos (.inr (.inr (.inr e4))),h6']
 rw[if_neg e4,if_neg (by rw[h6'];rintro(e |e |e |e |e)<;>first |exact absurd e (by assumption) |cases e),if_neg (c:=op=54\/op=55\/op=248\/op=56) (by omega),if_neg h4,if_neg h5]
theorem zk4{op ah:Int}{F:Bool}(h:ah=246\/ah=247):Yx op ah F=mayI ah op:=by
 have he:zZ ah=false:=zf6.2 (by omega)
 have no:∀{c:Int},ah≠c->(ah==c)=false:=λh=>beq_eq_false_iff_ne.2 h
 unfold Yx mayI
 by_cases e1:op=54
 ·rw[if_pos e1,no (by omega),no (by omega)];subst e1;rfl
 rw[if_neg e1]
 by_cases e2:op=55
 ·rw[if_pos e2,no (by omega),no (by omega)];subst e2;rfl
 rw[if_neg e2]
 by_cases e3:op=248
 ·rw[if_pos e3,no (by omega),no (by omega),he];subst e3;rfl
 rw[if_neg e3]
 by_cases e4:op=56
 ·rw[if_pos e4,he];subst e4;rfl
 rw[if_neg e4,if_neg (by rw[he];rintro(e |e |e |e |e)<;>first |omega |cases e)]
 by_cases e5:op=245
 ·rw[if_pos e5,no (by omega),no (by omega)];subst e5;rfl
 rw[if_neg e5]
 by_cases e6:op=59
 ·rw[if_pos e6,no (by omega),no (by omega)];subst e6;rfl
 rw[if_neg e6]
 rcases h with h |h
 ·rw[if_pos h]
  by_cases e7:op=249
  ·subst e7;subst h;rfl
  by_cases e8:op=250
  ·subst e8;subst h;rfl
  rw[if_neg e7,if_neg e8,beq_eq_false_iff_ne.2 e7,beq_eq_false_iff_ne.2 e8]
  by_cases e9:op=251
  ·rw[if_pos e9,h];rfl
  ·rw[if_neg e9];rfl
 ·rw[if_neg (by omega),if_pos h]
  by_cases e7:op=251
  ·subst e7;subst h;rfl
  by_cases e8:op=250
  ·subst e8;subst h;rfl
  rw[if_neg e7,if_neg e8,beq_eq_false_iff_ne.2 e7,beq_eq_false_iff_ne.2 e8]
  by_cases e9:op=249
  ·rw[if_pos e9,h];rfl
  ·rw[if_neg e9];rfl
variable {pl:List PI} {n:Nat} {ah:Int} {F:Bool}
theorem zpA(hn:0<n)(h:(ix pl n).1≠248):yO pl n=yO pl (n-1):=by
 obtain⟨m,rfl⟩:∃m,n=m+1:=⟨n-1,by omega⟩
 exact if_neg h
theorem InvF.param(h:InvF pl n ah)(ha:ah=54\/ah=55)(hn:n<pl.length)(hk:kdP (ix pl n)=2):InvF pl (n+1) 55:=by
 have h8:=Zx (p:=ix pl n) (by omega)
 have hop:=((Zi h8).2.1).1 hk
 have:=h.step hn h8 (by rw[hop];rcases ha with e |e<;>rw[e]<;>rfl)
 rwa[hop]at this
theorem InvF.noblock(h:InvF pl n ah)(ha:ah=54\/ah=55)(h2:n<pl.length->kdP (ix pl n)≠2)(h3:n<pl.length->kdP (ix pl n)≠3):zeK pl n:=by
 refine h.bad (by omega) λhn h8=>?_
 have hk:=Zi h8
 have h2:=h2 hn
 have h3:=h3 hn
 have e2:(ix pl n).1≠55:=λe=>h2 (hk.2.1.2 e)
 have e3:(ix pl n).1≠248:=λe=>h3 (hk.2.2.2.1.2 e)
 unfold Yx
 by_cases e1:(ix pl n).1=54
 ·rw[if_pos e1];rcases ha with e |e<;>rw[e]<;>rfl
 rw[if_neg e1,if_neg e2,if_neg e3]
 by_cases e4:(ix pl n).1=56
 ·rw[if_pos e4];rcases ha with e |e<;>rw[e]<;>rfl
 rw[if_neg e4,if_pos (by omega)]
theorem InvF.noend(h:InvF pl n ah)(ha:249<=ah/\ah<=255)(h3:n<pl.length->kdP (ix pl n)≠3)(h8':n<pl.length->kdP (ix pl n)≠8):zeK pl n:=by
 refine h.bad (by omega) λhn h8=>?_
 have hk:=Zi h8
 have h3:=h3 hn
 have h8':=h8' hn
 have e3:(ix pl n).1≠248:=λe=>h3 (hk.2.2.2.1.2 e)
 have e4:(ix pl n).1≠56:=λe=>h8' (hk.2.2.1.2 e)
 have no:∀{c:Int},ah≠c->(ah==c)=false:=λh=>beq_eq_false_iff_ne.2 h
 unfold Yx
 by_cases e1:(ix pl n).1=54
 ·rw[if_pos e1,no (by omega),no (by omega)];rfl
 rw[if_neg e1]
 by_cases e2:(ix pl n).1=55
 ·rw[if_pos e2,no (by omega),no (by omega)];rfl
 rw[if_neg e2,if_neg e3,if_neg e4,if_pos (.inr (.inr (.inr (.inr (za5.2 ha)))))]
theorem InvF.shut(h:InvF pl n ah)(ha:249<=ah/\ah<=255)(hn:n<pl.length)(hk:kdP (ix pl n)=8):InvF pl (n+1) 56:=by
 have h8:=Zx (p:=ix pl n) (by omega)
 have hop:=((Zi h8).2.2.1).1 hk
 have:=h.step hn h8 (by rw[hop];exact za5.2 ha)
 rwa[hop]at this
structure InvB (pl:List PI) (n:Nat) (F:Bool) (ah:Int):Prop where
 f:InvF pl n ah
 fi:yO pl (n-1)=F
 op:zr7 ah
theorem InvF.label(h:InvF pl n ah)(ha:(ah=54\/ah=55)\/(249<=ah/\ah<=255))(hn:n<pl.length)(hk:kdP (ix pl n)=3):InvB pl (n+1) (ah==54||ah==55) 248:=by
 have h8:=Zx (p:=ix pl n) (by omega)
 have hop:=((Zi h8).2.2.2.1).1 hk
 have hs:=h.step hn h8 (by
  rw[hop]
  rcases ha with(e |e) |e
  ·rw[e];rfl
  ·rw[e];rfl
  ·unfold Yx
   rw[if_neg (by omega),if_neg (by omega),if_pos rfl,za5.2 e,Bool.or_true])
 rw[hop]at hs
 refine⟨hs,?_,⟨⟨by decide,by decide,by decide,by decide,by decide,by decide⟩,by decide⟩⟩
 rw[Nat.add_sub_cancel]
 obtain⟨m,rfl⟩:∃m,n=m+1:=⟨n-1,by have:=h.pos;omega⟩
 have:yO pl (m+1)=((ix pl m).1==54||(ix pl m).1==55):=if_pos hop
 rw[this]
 have hah:(ix pl m).1=ah:=h.op
 rw[hah]
theorem InvB.go(h:InvB pl n F ah)(hn:n<pl.length)(h8:zx (ix pl n)=8)(hm:Yx (ix pl n).1 ah F=true):InvF pl (n+1) (ix pl n).1:=h.f.step hn h8 (by rw[h.fi];exact hm)
theorem InvB.next(h:InvB pl n F ah)(hn:n<pl.length)(h8:zx (ix pl n)=8)(hm:Yx (ix pl n).1 ah F=true)(hop:zr7 (ix pl n).1)(h248:(ix pl n).1≠248):InvB pl (n+1) F (ix pl n).1:=
 ⟨h.go hn h8 hm,by rw[Nat.add_sub_cancel,zpA h.f.pos h248];exact h.fi,hop⟩
theorem InvB.local(h:InvB pl n true ah)(ha:ah=248\/ah=59)(hn:n<pl.length)(hk:kdP (ix pl n)=5):InvB pl (n+1) true 59:=by
 have h8:=Zx (p:=ix pl n) (by omega)
 have hop:=((Zi h8).2.2.2.2.2.1).1 hk
 have:=h.next hn h8 (by rw[zcZ h.op,hop];rcases ha with e |e<;>rw[e]<;>rfl) (by rw[hop];exact⟨⟨by decide,by decide,by decide,by decide,by decide,by decide⟩,by decide⟩) (by omega)
 rwa[hop]at this
theorem InvB.phi(h:InvB pl n false ah)(ha:ah=248\/ah=245)(hn:n<pl.length)(hk:kdP (ix pl n)=4):InvB pl (n+1) false 245:=by
 have h8:=Zx (p:=ix pl n) (by omega)
 have hop:=((Zi h8).2.2.2.2.1).1 hk
 have:=h.next hn h8 (by rw[zcZ h.op,hop];rcases ha with e |e<;>rw[e]<;>rfl) (by rw[hop];exact⟨⟨by decide,by decide,by decide,by decide,by decide,by decide⟩,by decide⟩) (by omega)
 rwa[hop]at this
theorem zs5{p:PI}(h8:zx p=8):p.1≠0:=by
 intro e
 unfold zx at h8
 have hv:zic p=false:=by unfold zic;rw[e];rfl
 rw[hv,e]at h8
 exact absurd h8 (by decide +kernel)
theorem InvB.plain(h:InvB pl n F ah)(hn:n<pl.length)(hk:kdP (ix pl n)=0):InvB pl (n+1) F (ix pl n).1/\(ix pl n).1≠248/\(ix pl n).1≠245/\(ix pl n).1≠59:=by
 have h8:=Zx (p:=ix pl n) (by omega)
 have hk':=Zi h8
 rw[hk]at hk'
 obtain⟨k1,k2,k3,k4,k5,k6,k7,k8,_⟩:=hk'
 have h0:=zs5 h8
 refine⟨h.next hn h8 ?_ ⟨by omega,by omega⟩ (by omega),by omega,by omega,by omega⟩
 rw[zcZ h.op,if_neg (by omega),if_neg (by omega),if_neg (by omega)]
theorem InvB.merge(h:InvB pl n F ah)(hn:n<pl.length)(hk:kdP (ix pl n)=6):InvF pl (n+1) (ix pl n).1/\((ix pl n).1=246\/(ix pl n).1=247):=by
 have h8:=Zx (p:=ix pl n) (by omega)
 have hop:=((Zi h8).2.2.2.2.2.2.1).1 hk
 refine⟨h.go hn h8 ?_,hop⟩
 rw[zcZ h.op,if_neg (by omega),if_neg (by omega),if_neg (by omega)]
theorem InvB.ender(h:InvB pl n F ah)(hn:n<pl.length)(hk:kdP (ix pl n)=7):InvF pl (n+1) (ix pl n).1/\249<=(ix pl n).1/\(ix pl n).1<=255:=by
 have h8:=Zx (p:=ix pl n) (by omega)
 have hop:=((Zi h8).2.2.2.2.2.2.2.1).1 hk
 refine⟨h.go hn h8 ?_,hop⟩
 rw[zcZ h.op,if_neg (by omega),if_neg (by omega),if_neg (by omega)]
theorem InvF.mender(h:InvF pl n ah)(ha:ah=246\/ah=247)(hn:n<pl.length)(hk:kdP (ix pl n)=7)(hm:mayI ah (ix pl n).1=true):InvF pl (n+1) (ix pl n).1/\249<=(ix pl n).1/\(ix pl n).1<=255:=by
 have h8:=Zx (p:=ix pl n) (by omega)
 have hop:=((Zi h8).2.2.2.2.2.2.2.1).1 hk
 exact⟨h.step hn h8 (by rw[zk4 ha];exact hm),hop⟩
theorem InvF.mbad(h:InvF pl n ah)(ha:ah=246\/ah=247)(hb:n<pl.length->kdP (ix pl n)=7->mayI ah (ix pl n).1=false):zeK pl n:=by
 refine h.bad (by omega) λhn h8=>?_
 rw[zk4 ha]
 by_cases hk:kdP (ix pl n)=7
 ·exact hb hn hk
 ·have h7:=(Zi h8).2.2.2.2.2.2.2.1
  unfold mayI
  rw[if_neg (by omega),if_neg (by omega),if_neg (by omega)]
theorem InvB.bad(h:InvB pl n F ah)(h0:n<pl.length->kdP (ix pl n)≠0/\kdP (ix pl n)≠6/\kdP (ix pl n)≠7)(h4:n<pl.length->kdP (ix pl n)=4->F=false->ah≠248/\ah≠245)
  (h5:n<pl.length->kdP (ix pl n)=5->F=true->ah≠248/\ah≠59):zeK pl n:=by
 refine h.f.bad (by have:=h.op.ne;omega) λhn h8=>?_
 obtain⟨q0,q6,q7⟩:=h0 hn
 have h4:=h4 hn
 have h5:=h5 hn
 have no:∀{c:Int},ah≠c->(ah==c)=false:=λh=>beq_eq_false_iff_ne.2 h
 rw[h.fi,zcZ h.op]
 obtain⟨k1,k2,k3,k4,k5,k6,k7,k8,k9⟩:=Zi h8
 by_cases e:(ix pl n).1=54\/(ix pl n).1=55\/(ix pl n).1=248\/(ix pl n).1=56
 ·rw[if_pos e]
 rw[if_neg e]
 by_cases e4:(ix pl n).1=245
 ·rw[if_pos e4]
  cases F
  ·obtain⟨g1,g2⟩:=h4 (k5.2 e4) rfl
   rw[no g1,no g2];rfl
  ·simp
 rw[if_neg e4]
 by_cases e5:(ix pl n).1=59
 ·rw[if_pos e5]
  cases F
  ·simp
  ·obtain⟨g1,g2⟩:=h5 (k6.2 e5) rfl
   rw[no g1,no g2];rfl
 exfalso
 refine q0 ?_
 rw[ztD h8,if_neg (by omega),if_neg (by omega),if_neg (by omega),if_neg (by omega),if_neg e4,if_neg e5,if_neg (by omega),if_neg (by omega),if_neg (λg=>by have:=za5.1 g;omega)]
structure FnL where
 id:Int
 at_:Int
 en:Int
 ps:List Int
 bk:List (Int×Int×Int)
def modL{α:Type}(f:α->α):List α->List α
 | []=>[]
 | [x]=>[f x]
 |x::y::r=>x::modL f (y::r)
theorem yj{α:Type}(f:α->α)(x:α):∀l:List α,modL f (l++[x])=l++[f x]
 | []=>rfl
 | [y]=>rfl
 |y::z::r=>by
  have:=yj f x (z::r)
  simp only[List.cons_append,modL]at this⊢
  rw[this]
def cutS(l:List FnL)(k:Nat)(p:PI):List FnL:=
 if p.1=54 then l++[⟨p.2.2.1,k,0,[],[]⟩]
 else if p.1=55 then modL (λf=>{f with ps:=f.ps++[(k:Int)]}) l
 else if p.1=56 then modL (λf=>{f with en:=k}) l
 else if p.1=248 then modL (λf=>{f with bk:=f.bk++[(p.2.2.1,(k:Int),0)]}) l
 else if zZ p.1=true then modL (λf=>{f with bk:=modL (λb=>(b.1,b.2.1,(k:Int)+1)) f.bk}) l
 else l
def cutF(pl:List PI):Nat->List FnL
 | 0=>[]
 |n+1=>cutS (cutF pl n) n (ix pl n)
theorem zs9:zci 54=8/\zci 55=8/\zci 56=8/\zci 248=8/\zci 249=8/\zci 250=8/\zci 251=8/\zci 252=8/\zci 253=8/\zci 254=8/\zci 255=8:=by decide +kernel
theorem zly{p:PI}(h:zx p≠8\/kdP p=0\/kdP p=4\/kdP p=5\/kdP p=6)(l:List FnL)(k:Nat):cutS l k p=l:=by
 have hno:¬(p.1=54\/p.1=55\/p.1=56\/p.1=248\/(249<=p.1/\p.1<=255)):=by
  intro hop
  have h8:zx p=8:=by
   unfold zx
   split
   ·rfl
   ·obtain⟨q1,q2,q3,q4,q5,q6,q7,q8,q9,q10,q11⟩:=zs9
    have hc:p.1=54\/p.1=55\/p.1=56\/p.1=248\/p.1=249\/p.1=250\/p.1=251\/p.1=252\/p.1=253\/p.1=254\/p.1=255:=by omega
    rcases hc with e |e |e |e |e |e |e |e |e |e |e<;>rw[e]<;>assumption
  obtain⟨k1,k2,k3,k4,k5,k6,k7,k8,k9⟩:=Zi h8
  rcases h with h |h |h |h |h
  ·exact h h8
  all_goals omega
 unfold cutS
 rw[if_neg (by omega),if_neg (by omega),if_neg (by omega),if_neg (by omega),if_neg (λe=>hno (by have:=za5.1 e;omega))]
def Yh(pl:List PI)(p n:Nat)(ps:List Int):Prop:=
 ∀q,q<p->0<=ps.getD (2*q) 0/\ps.getD (2*q) 0<=ps.getD (2*q+1) 0/\ps.getD (2*q+1) 0<=n/\∀i,i<n->((ps.getD (2*q) 0<=(i:Int)/\(i:Int)<ps.getD (2*q+1) 0)↔zx (ix pl i)=q)
theorem zm9{ps:List Int}{i j:Nat}{a b:Int}(hi:i+1<ps.length):((ps.set i a).set (i+1) b).getD j 0=if j=i then a else if j=i+1 then b else ps.getD j 0:=by
 simp only[List.getD_eq_getElem?_getD]
 by_cases e:j=i+1
 ·subst e
  rw[List.getElem?_set_self (by simpa using hi),if_neg (by omega),if_pos rfl]
  rfl
 ·rw[List.getElem?_set_ne (λh=>e h.symm)]
  by_cases e2:j=i
  ·subst e2
   rw[List.getElem?_set_self (by omega),if_pos rfl]
   rfl
  ·rw[List.getElem?_set_ne (λh=>e2 h.symm),if_neg e2,if_neg e]
theorem Yh.step{p f n':Nat}{ps:List Int}(h:Yh pl p f ps)(hps:ps.length=20)(hp:p<10)(hfn:f<=n')(hlow:∀k,k<f->zx (ix pl k)<p)(hown:∀k,f<=k->k<n'->zx (ix pl k)=p) :
  Yh pl (p+1) n' ((ps.set (2*p) f).set (2*p+1) n'):=by
 intro q hq
 rw[zm9 (by omega),zm9 (by omega)]
 by_cases e:q=p
 ·subst e
  rw[if_pos rfl,if_neg (by omega),if_pos rfl]
  refine⟨by omega,by omega,by omega,λi hi=>⟨λhh=>hown i (by omega) hi,λhh=>⟨?_,by omega⟩⟩⟩
  rcases Nat.lt_or_ge i f with g |g
  ·have:=hlow i g;omega
  ·omega
 ·rw[if_neg (by omega),if_neg (by omega),if_neg (by omega),if_neg (by omega)]
  obtain⟨h1,h2,h3,h4⟩:=h q (by omega)
  refine⟨h1,h2,by omega,λi hi=>?_⟩
  rcases Nat.lt_or_ge i f with g |g
  ·exact h4 i g
  ·have:=hown i g hi
   constructor
   ·intro hh;omega
   ·intro hh;omega
theorem zjS{n:Nat}(h:Z0 pl n){i j:Nat}(hij:i<j)(hj:j<n):zx (ix pl i)<=zx (ix pl j):=by
 rcases Nat.lt_or_ge (zx (ix pl j)) (zx (ix pl i)) with g |g
 ·have:=h j hj
  rw[zfr hij g]at this
  cases this
 ·exact g
theorem Yh.all{n:Nat}{ps:List Int}(h:Yh pl 8 n ps)(hps:ps.length=20)(hn:n<=pl.length)(hlow:∀k,k<n->zx (ix pl k)<8)(hg:Z0 pl pl.length)(h8:n<pl.length->zx (ix pl n)=8) :
  Yh pl 10 pl.length ((((ps.set 16 n).set 17 pl.length).set 18 pl.length).set 19 pl.length):=by
 have hown:∀k,n<=k->k<pl.length->zx (ix pl k)=8:=by
  intro k h1 h2
  by_cases e:k=n
  ·subst e;exact h8 h2
  ·have:=zjS hg (i:=n) (j:=k) (by omega) h2
   rw[h8 (by omega)]at this
   have:=zcj (ix pl k)
   omega
 have s8:=h.step (n':=pl.length) hps (by omega) hn hlow hown
 have:=s8.step (n':=pl.length) (by simpa using hps) (by omega) (Nat.le_refl _) (λk hk=>by have:=zcj (ix pl k);omega) (λk h1 h2=>by omega)
 exact this
theorem zj3{P:Nat->Int->Prop}{Q:Int->Prop}{k:Int}(step:∀m a,P m a->Q a->m<pl.length->kdP (ix pl m)=k->∃a',P (m+1) a'/\Q a'){n':Nat}(hle:n<=n')(hn':n'<=pl.length)
  (hk:∀j,n<=j->j<n'->kdP (ix pl j)=k) {a:Int} (hP:P n a) (hQ:Q a):∃a',P n' a'/\Q a':=by
 obtain⟨d,rfl⟩:∃d,n'=n+d:=⟨n'-n,by omega⟩
 clear hle
 induction d with
 |zero=>exact⟨a,hP,hQ⟩
 |succ d ih=>
  obtain⟨a',h1,h2⟩:=ih (by omega) (λj g1 g2=>hk j g1 (by omega))
  exact step (n+d) a' h1 h2 (by omega) (hk (n+d) (by omega) (by omega))
theorem InvF.params(h:InvF pl n ah)(ha:ah=54\/ah=55){n':Nat}(hle:n<=n')(hn':n'<=pl.length)(hk:∀j,n<=j->j<n'->kdP (ix pl j)=2):∃ah',InvF pl n' ah'/\(ah'=54\/ah'=55):=
 zj3 (P:=λm a=>InvF pl m a) (Q:=λa=>a=54\/a=55) (λm a h1 h2 h3 h4=>⟨55,h1.param h2 h3 h4,.inr rfl⟩) hle hn' hk h ha
theorem InvB.locals(h:InvB pl n true ah)(ha:ah=248\/ah=59){n':Nat}(hle:n<=n')(hn':n'<=pl.length)(hk:∀j,n<=j->j<n'->kdP (ix pl j)=5):∃ah',InvB pl n' true ah'/\(ah'=248\/ah'=59):=
 zj3 (P:=λm a=>InvB pl m true a) (Q:=λa=>a=248\/a=59) (λm a h1 h2 h3 h4=>⟨59,h1.local h2 h3 h4,.inr rfl⟩) hle hn' hk h ha
theorem InvB.phis(h:InvB pl n false ah)(ha:ah=248\/ah=245){n':Nat}(hle:n<=n')(hn':n'<=pl.length)(hk:∀j,n<=j->j<n'->kdP (ix pl j)=4):∃ah',InvB pl n' false ah'/\(ah'=248\/ah'=245):=
 zj3 (P:=λm a=>InvB pl m false a) (Q:=λa=>a=248\/a=245) (λm a h1 h2 h3 h4=>⟨245,h1.phi h2 h3 h4,.inr rfl⟩) hle hn' hk h ha
theorem InvB.plains(h:InvB pl n F ah){n':Nat}(hle:n<=n')(hn':n'<=pl.length)(hk:∀j,n<=j->j<n'->kdP (ix pl j)=0):∃ah',InvB pl n' F ah'/\(n'=n\/(ah'≠248/\ah'≠245/\ah'≠59)):=by
 by_cases e:n'=n
 ·subst e
  exact⟨ah,h,.inl rfl⟩
 ·obtain⟨m,rfl⟩:∃m,n'=m+1:=⟨n'-1,by omega⟩
  obtain⟨a,h1,_⟩:=zj3 (P:=λm a=>InvB pl m F a) (Q:=λ_=>True) (n:=n) (n':=m) (λm a h1 _ h3 h4=>⟨_,(h1.plain h3 h4).1,trivial⟩) (by omega) (by omega) (λj g1 g2=>hk j g1 (by omega)) h trivial
  obtain⟨h2,h3⟩:=h1.plain (by omega) (hk m (by omega) (by omega))
  exact⟨_,h2,.inr h3⟩
theorem zeX{n':Nat}(hle:n<=n')(hk:∀j,n<=j->j<n'->zx (ix pl j)≠8\/kdP (ix pl j)=0\/kdP (ix pl j)=4\/kdP (ix pl j)=5\/kdP (ix pl j)=6):cutF pl n'=cutF pl n:=by
 obtain⟨d,rfl⟩:∃d,n'=n+d:=⟨n'-n,by omega⟩
 clear hle
 induction d with
 |zero=>rfl
 |succ d ih=>
  show cutS (cutF pl (n+d)) (n+d) (ix pl (n+d))=cutF pl n
  rw[zly (hk (n+d) (by omega) (by omega)),ih λj g1 g2=>hk j g1 (by omega)]
theorem zrQ{l:List FnL}(h:cutF pl n=l)(hk:kdP (ix pl n)=1):cutF pl (n+1)=l++[⟨(ix pl n).2.2.1,n,0,[],[]⟩]:=by
 have h8:=Zx (p:=ix pl n) (by omega)
 have hop:=((Zi h8).1).1 hk
 show cutS (cutF pl n) n (ix pl n)=_
 unfold cutS
 rw[if_pos hop,h]
theorem zrP{l:List FnL}{f:FnL}(h:cutF pl n=l++[f])(hk:kdP (ix pl n)=8):cutF pl (n+1)=l++[{f with en:=n}]:=by
 have h8:=Zx (p:=ix pl n) (by omega)
 have hop:=((Zi h8).2.2.1).1 hk
 show cutS (cutF pl n) n (ix pl n)=_
 unfold cutS
 rw[if_neg (by omega),if_neg (by omega),if_pos hop,h,yj]
theorem zp7{l:List FnL}{f:FnL}(h:cutF pl n=l++[f])(hk:kdP (ix pl n)=3):cutF pl (n+1)=l++[{f with bk:=f.bk++[((ix pl n).2.2.1,(n:Int),0)]}]:=by
 have h8:=Zx (p:=ix pl n) (by omega)
 have hop:=((Zi h8).2.2.2.1).1 hk
 show cutS (cutF pl n) n (ix pl n)=_
 unfold cutS
 rw[if_neg (by omega),if_neg (by omega),if_neg (by omega),if_pos hop,h,yj]
theorem zp6{l:List FnL}{f:FnL}{b:List (Int×Int×Int)}{i a t:Int}(h:cutF pl n=l++[{f with bk:=b++[(i,a,t)]}])(hk:kdP (ix pl n)=7) :
  cutF pl (n+1)=l++[{f with bk:=b++[(i,a,(n:Int)+1)]}]:=by
 have h8:=Zx (p:=ix pl n) (by omega)
 have hop:=((Zi h8).2.2.2.2.2.2.2.1).1 hk
 show cutS (cutF pl n) n (ix pl n)=_
 unfold cutS
 rw[if_neg (by omega),if_neg (by omega),if_neg (by omega),if_neg (by omega),if_pos (za5.2 hop),h,yj]
 dsimp only
 rw[yj]
theorem zoi{l:List FnL}{f:FnL}(h:cutF pl n=l++[f]){n':Nat}(hle:n<=n')(hk:∀j,n<=j->j<n'->kdP (ix pl j)=2) :
  cutF pl n'=l++[{f with ps:=f.ps++(List.range (n'-n)).map λi=>((n+i:Nat):Int)}]:=by
 obtain⟨d,rfl⟩:∃d,n'=n+d:=⟨n'-n,by omega⟩
 clear hle
 rw[Nat.add_sub_cancel_left]
 induction d with
 |zero=>rw[List.range_zero,List.map_nil,List.append_nil];exact h
 |succ d ih=>
  have hk2:=hk (n+d) (by omega) (by omega)
  have h8:=Zx (p:=ix pl (n+d)) (by omega)
  have hop:=((Zi h8).2.1).1 hk2
  show cutS (cutF pl (n+d)) (n+d) (ix pl (n+d))=_
  unfold cutS
  rw[if_neg (by omega),if_pos hop,ih λj g1 g2=>hk j g1 (by omega),yj,List.range_succ,List.map_append]
  simp[List.append_assoc]
structure OutP (pl:List PI) (p f n:Nat):Prop where
 lo:f<=n
 le:n<=pl.length
 own:∀k,f<=k->k<n->zx (ix pl k)=p
 out:p≠1->InvT pl (p+1) n
 one:p=1->(n=f/\(f<pl.length->zx (ix pl f)≠1))\/n=f+1
theorem OutP.go{p f:Nat}(h:OutP pl p f n)(hT:InvT pl p f)(hne:p=1->n≠f):InvT pl (p+1) n:=by
 by_cases e:p=1
 ·subst e
  rcases h.one rfl with⟨g,_⟩ |g
  ·exact absurd g (hne rfl)
  ·subst g
   exact hT.model (by have:=h.le;omega) (h.own f (Nat.le_refl _) (by omega))
 ·exact h.out e
theorem OutP.stop{f:Nat}(h:OutP pl 1 f n)(hT:InvT pl 1 f)(he:n=f):zeK pl n:=by
 rcases h.one rfl with⟨_,g⟩ |g
 ·subst he
  exact hT.nomodel g
 ·omega
end Go.Proofs
namespace Go.Proofs
open Go.Gk
set_option linter.unusedVariables false
set_option maxRecDepth 100000
def ziJ:Ann:=Z1J
def zi8(p0:(Int×Int×Sl×Unit))(R:VWP)(w:World):Prop:=Nw (w.alloc (.cells #[zu p0.1,zu p0.2.1,p0.2.2.1.zw] 25)) λw1=>Nw (w1.alloc (.cells #[zi 0,zi 0] 29)) λw2=>da w2 (zB w) λx1 x2 x3=>di 76 #[.agg #[zu x1,zu x2,x3.zw]] w2 λx5 x6 w3=>de w3 #[zi 0,zi 0] 29 (zi x6.1) (zi x6.2.1) λw6=>db w6 (zB w3) λx7 x8=>df w6 (zB w1) (zi x7) (zi x8) λw8=>db w8 (zB w1) λx9 x10=>R (.agg #[zi x9,zi x10]) w8
theorem zjI(p0)(R)(w)(h:zi8 p0 R w):cC 43 #[.agg #[.int .u32 p0.1,.int .u32 p0.2.1,.slice p0.2.2.1.a p0.2.2.1.l p0.2.2.1.c]] w R:=lwC ziJ Tryz.func43 h
def zlm:Ann:=(.q (.q (.seq (some ⟨[1],[(3,(.b .slice))]⟩) Z13 (.seq none (.q (.one (.loop ⟨[15,16],[(3,(.b .slice)),(17,(.b (.int .i64)))]⟩ (.q (.seq none .c (.seq (some ⟨[15,16,17],[(3,(.b .slice))]⟩) Z1I .nil)))))) Z11))))
def zlg(p0:(Int×Int×Int×Sl×Unit))(R:VWP)(w:World):Prop:=Nw (w.alloc (.cells #[zh p0.1,zu p0.2.1,zu p0.2.2.1,p0.2.2.2.1.zw] 50)) λw1=>zl (S:=Sl×Unit) (λm1=>ldI w1 ((zB w).add 1) .u32 λx3=>ifB (x3 !=0) (ldI w1 ((zB w).add 1) .u32 λx4=>Nw (w1.alloc (.cells #[zu x4] 22)) λw2=>zp Tryz.prog 26 (.slice none 0 0) (.slice (some (zB w1)) 1 1) w2 λr5 w3=>m1 (r5,()) w3) (m1 ((Sl.mk none 0 0),()) w1)) (λs2 w4=>ldS w4 ((zB w).add 3) λx6=>zk (S:=Sl×Int×Unit) (λs7 w5 n8=>ifB (decide (s7.2.1<(x6.l:Int))) (zl (S:=Sl×Unit) (λm9=>(0<=s7.2.1/\s7.2.1<(x6.l:Int))/\zc x6.a λa11=>dw w5 (a11.add (s7.2.1.toNat *3)) λx12 x13 x14=>Nw (w5.alloc (.cells #[zb 0,zu 0,.string (BM #[])] 136)) λw6=>dx w6 (zB w5) (zb x12) (zu x13) (.string x14) λw9=>ldI w9 (zB w5) .u8 λx15=>ifB (x15==1) (ldI w9 ((zB w5).add 1) .u32 λx16=>Nw (w9.alloc (.cells #[zu x16] 22)) λw10=>zp Tryz.prog 26 (s7.1.zw) (.slice (some (zB w9)) 1 1) w10 λr17 w11=>m9 (r17,()) w11) (m9 (s7.1,()) w9)) (λs10 w12=>n8 (s10.1,(IntKind.i64.wrap (s7.2.1+(1:Int))),()) w12)) (R (s7.1.zw) w5)) (s2.1,0,()) w4)
theorem zlu(p0)(R)(w)(h:zlg p0 R w):cC 69 #[.agg #[.int .u16 p0.1,.int .u32 p0.2.1,.int .u32 p0.2.2.1,.slice p0.2.2.2.1.a p0.2.2.2.1.l p0.2.2.2.1.c]] w R:=lwC zlm Tryz.func69 h
def zkr:Ann:=(.q (.seq (some ⟨[1,3],[]⟩) Z10 (.q (.q (.q (.seq none (.q (.one (.loop ⟨[1,3,27,28],[(4,(.b (.int .i64))),(6,(.b .slice)),(29,(.b (.int .i64)))]⟩ (.q (.seq none .c (.seq none (.one (.q (.q (.q (.seq none Z1T .nil))))) .nil)))))) Z11))))))
def zkn(p0:(Int×Int×Sl×Unit))(R:VWP)(w:World):Prop:=Nw (w.alloc (.cells #[zu p0.1,zu p0.2.1,p0.2.2.1.zw] 25)) λw1=>Nw (w1.alloc (.cells #[zi 0,zi 0] 29)) λw2=>zl (S:=Unit) (λm1=>ldI w2 ((zB w).add 1) .u32 λx3=>ifB (x3==0) (df w2 (zB w1) (zi 24) (zi 0) λw4=>db w4 (zB w1) λx4 x5=>R (.tuple #[.slice none 0 0,.agg #[zi x4,zi x5]]) w4) (ldI w2 ((zB w).add 1) .u32 λx6=>ifB (decide (x6>(65536:Int))) (df w2 (zB w1) (zi 24) (zi 0) λw6=>db w6 (zB w1) λx7 x8=>R (.tuple #[.slice none 0 0,.agg #[zi x7,zi x8]]) w6) (m1 () w2))) (λs2 w7=>dT 113 #[.slice none 0 0] w7 λx10 x11 w8=>ldS w8 ((zB w).add 2) λx12=>zk (S:=Int×Sl×Int×Unit) (λs13 w9 n14=>ifB (decide (s13.2.2.1<(x12.l:Int))) ((0<=s13.2.2.1/\s13.2.2.1<(x12.l:Int))/\zc x12.a λa15=>dm w9 (a15.add (s13.2.2.1.toNat *4)) λx16 x17 x18 x19=>dn w9 #[zh 0,zu 0,zu 0,.slice none 0 0] 50 (zh x16) (zu x17) (zu x18) (x19.zw) λw14=>dm w14 (zB w9) λx20 x21 x22 x23=>ldI w14 ((zB w).add 1) .u32 λx24=>dU 114 #[.agg #[zh x20,zu x21,zu x22,x23.zw],zu x24] w14 λx26 x27 w15=>de w15 #[zh 0,.slice none 0 0] 197 (zh x26.1) (x26.2.1.zw) λw18=>ldS w18 ((zB w15).add 1) λx28=>ifB (x27 !=0) (df w18 (zB w1) (zi x27) (zi s13.2.2.1) λw20=>db w20 (zB w1) λx29 x30=>R (.tuple #[.slice none 0 0,.agg #[zi x29,zi x30]]) w20) (ifB (decide ((IntKind.i64.wrap (s13.1-(IntKind.i64.wrap (1+(x28.l:Int)))))<0)) (df w18 (zB w1) (zi 4) (zi s13.2.2.1) λw22=>db w22 (zB w1) λx31 x32=>R (.tuple #[.slice none 0 0,.agg #[zi x31,zi x32]]) w22) (dS w18 (zB w15) λx33 x34=>Nw (w18.alloc (.cells #[zh x33,x34.zw] 197)) λw23=>zp Tryz.prog 149 (s13.2.1.zw) (.slice (some (zB w18)) 1 1) w23 λr35 w24=>n14 ((IntKind.i64.wrap (s13.1-(IntKind.i64.wrap (1+(x28.l:Int))))),r35,(IntKind.i64.wrap (s13.2.2.1+(1:Int))),()) w24))) (df w9 (zB w1) (zi 0) (zi 0) λw26=>db w26 (zB w1) λx36 x37=>R (.tuple #[s13.2.1.zw,.agg #[zi x36,zi x37]]) w26)) ((IntKind.i64.wrap (1048576-x10)),(Sl.mk none 0 0),0,()) w8)
theorem zkL(p0)(R)(w)(h:zkn p0 R w):cC 76 #[.agg #[.int .u32 p0.1,.int .u32 p0.2.1,.slice p0.2.2.1.a p0.2.2.1.l p0.2.2.1.c]] w R:=lwC zkr Tryz.func76 h
def zcC:Ann:=(.q (.q (.seq (some ⟨[1],[(3,(.b .slice))]⟩) Z13 (.seq none (.q (.one (.loop ⟨[1],[(3,(.b .slice)),(4,(.b (.int .i64)))]⟩ (.seq none Z13 (.seq (some ⟨[1,4],[(3,(.b .slice))]⟩) Z1S .nil))))) Z11))))
def zc0(p0:(Int×Int×Int×Sl×Unit))(R:VWP)(w:World):Prop:=Nw (w.alloc (.cells #[zh p0.1,zu p0.2.1,zu p0.2.2.1,p0.2.2.2.1.zw] 50)) λw1=>zl (S:=Sl×Unit) (λm1=>ldI w1 ((zB w).add 1) .u32 λx3=>ifB (x3 !=0) (ldI w1 ((zB w).add 1) .u32 λx4=>Nw (w1.alloc (.cells #[zu x4] 22)) λw2=>zp Tryz.prog 26 (.slice none 0 0) (.slice (some (zB w1)) 1 1) w2 λr5 w3=>m1 (r5,()) w3) (m1 ((Sl.mk none 0 0),()) w1)) (λs2 w4=>zk (S:=Sl×Int×Unit) (λs6 w5 n7=>ldS w5 ((zB w).add 3) λx8=>ifB (decide (s6.2.1<(x8.l:Int))) (zl (S:=Sl×Unit) (λm9=>ldS w5 ((zB w).add 3) λx11=>(0<=s6.2.1/\s6.2.1<(x11.l:Int))/\zc x11.a λa12=>ldI w5 (a12.add (s6.2.1.toNat *3)) .u8 λx13=>ifB (x13==1) (ldS w5 ((zB w).add 3) λx14=>(0<=s6.2.1/\s6.2.1<(x14.l:Int))/\zc x14.a λa15=>ldI w5 ((a15.add (s6.2.1.toNat *3)).add 1) .u32 λx16=>Nw (w5.alloc (.cells #[zu x16] 22)) λw6=>zp Tryz.prog 26 (s6.1.zw) (.slice (some (zB w5)) 1 1) w6 λr17 w7=>m9 (r17,()) w7) (m9 (s6.1,()) w5)) (λs10 w8=>n7 (s10.1,(IntKind.i64.wrap (s6.2.1+(1:Int))),()) w8)) (R (s6.1.zw) w5)) (s2.1,0,()) w4)
theorem zff(p0)(R)(w)(h:zc0 p0 R w):cC 88 #[.agg #[.int .u16 p0.1,.int .u32 p0.2.1,.int .u32 p0.2.2.1,.slice p0.2.2.2.1.a p0.2.2.2.1.l p0.2.2.2.1.c]] w R:=lwC zcC Tryz.func88 h
def ziN:Ann:=Z1J
def ziC(p0:Sl)(R:VWP)(w:World):Prop:=dV 147 #[p0.zw] w λx2 x3 w1=>de w1 #[zi 0,zi 0] 29 (zi x3.1) (zi x3.2.1) λw4=>ldI w4.drew (zB w1) .i64 λx4=>R (.tuple #[zi x2,zi x4]) w4.drew
theorem zjP(p0)(R)(w)(h:ziC p0 R w):cC 113 #[.slice p0.a p0.l p0.c] w R:=lwC ziN Tryz.func113 h
def zln:Ann:=(.q (.q (.seq none Z10 (.q (.q (.seq (some ⟨[2,4,6,8],[(9,(.b (.int .i64)))]⟩) Z13 (.q (.seq none (.q (.one (.loop ⟨[2,4,6,8,10,43,44],[(9,(.b (.int .i64))),(45,(.b (.int .i64)))]⟩ (.q (.seq none .c (.seq (some ⟨[2,4,6,8,10,43,44,45],[(9,(.b (.int .i64)))]⟩) Z1I .nil)))))) (.seq (some ⟨[2,4,8],[(9,(.b (.int .i64)))]⟩) Z13 (.seq (some ⟨[2,4,8],[(9,(.b (.int .i64)))]⟩) Z13 Z17))))))))))
def zlh(p0:(Int×Int×Int×Sl×Unit))(p1:Int)(R:VWP)(w:World):Prop:=Nw (w.alloc (.cells #[zh p0.1,zu p0.2.1,zu p0.2.2.1,p0.2.2.2.1.zw] 50)) λw1=>Nw (w1.alloc (.cells #[zh 0,.slice none 0 0] 197)) λw2=>ldI w2 (zB w) .u16 λx1=>dK 108 #[zh x1] w2 λx3 x4 w3=>Nw (w3.alloc (.cells #[zh 0,.string (BM #[]),.bool false,.bool false,.string (BM #[]),.string (BM #[]),zi 0,zb 0] 187)) λw4=>dJ w4 (zB w3) (zh x3.1) (.string x3.2.1) (.bool x3.2.2.1) (.bool x3.2.2.2.1) (.string x3.2.2.2.2.1) (.string x3.2.2.2.2.2.1) (zi x3.2.2.2.2.2.2.1) (zb x3.2.2.2.2.2.2.2.1) λw12=>ifB (!x4) (df w12 (zB w1) (zh 0) (.slice none 0 0) λw14=>dS w14 (zB w1) λx5 x6=>R (.tuple #[.agg #[zh x5,x6.zw],zi 30]) w14) (dL w12 (zB w3) λx7 x8 x9 x10 x11 x12 x13 x14=>Nw (w12.alloc (.cells #[zh x7,.string x8,.bool x9,.bool x10,.string x11,.string x12,zi x13,zb x14,zu p1,.slice none 0 0,zi 0] 228)) λw15=>ldB w15 ((zB w3).add 2) λx15=>ldI w15 ((zB w).add 1) .u32 λx16=>dl 148 #[.pointer (some (zB w12)),.bool x15,zu x16,zi 40] w15 λx18 w16=>zl (S:=Int×Unit) (λm19=>ifB (x18==0) (ldB w16 ((zB w3).add 3) λx21=>ldI w16 ((zB w).add 2) .u32 λx22=>dl 148 #[.pointer (some (zB w12)),.bool x21,zu x22,zi 41] w16 λx24 w17=>m19 (x24,()) w17) (m19 (x18,()) w16)) (λs20 w18=>ldS w18 ((zB w).add 3) λx25=>zk (S:=Int×Int×Unit) (λs26 w19 n27=>ifB (decide (s26.2.1<(x25.l:Int))) (zl (S:=Int×Unit) (λm28=>(0<=s26.2.1/\s26.2.1<(x25.l:Int))/\zc x25.a λa30=>dw w19 (a30.add (s26.2.1.toNat *3)) λx31 x32 x33=>Nw (w19.alloc (.cells #[zb 0,zu 0,.string (BM #[])] 136)) λw20=>dx w20 (zB w19) (zb x31) (zu x32) (.string x33) λw23=>ifB (s26.1==0) (dw w23 (zB w19) λx34 x35 x36=>dl 149 #[.pointer (some (zB w12)),zi s26.2.1,.agg #[zb x34,zu x35,.string x36]] w23 λx38 w24=>m28 (x38,()) w24) (m28 (s26.1,()) w23)) (λs29 w25=>n27 (s29.1,(IntKind.i64.wrap (s26.2.1+(1:Int))),()) w25)) (zl (S:=Int×Unit) (λm39=>ifB (s26.1==0) (dL w19 (zB w3) λx41 x42 x43 x44 x45 x46 x47 x48=>ldS w19 ((zB w).add 3) λx49=>dl 150 #[.agg #[zh x41,.string x42,.bool x43,.bool x44,.string x45,.string x46,zi x47,zb x48],x49.zw] w19 λx51 w26=>m39 (x51,()) w26) (m39 (s26.1,()) w19)) (λs40 w27=>zl (S:=Int×Unit) (λm52=>ifB (s40.1==0) (ldI w27 ((zB w12).add 10) .i64 λx54=>ifB (decide (x54≥(65535:Int))) (m52 (25,()) w27) (m52 (s40.1,()) w27)) (m52 (s40.1,()) w27)) (λs53 w28=>ifB (s53.1 !=0) (df w28 (zB w1) (zh 0) (.slice none 0 0) λw30=>dS w30 (zB w1) λx55 x56=>R (.tuple #[.agg #[zh x55,x56.zw],zi s53.1]) w30) (ldI w28.drew (zB w) .u16 λx57=>ldS w28.drew ((zB w12).add 9) λx58=>df w28.drew (zB w1) (zh x57) (x58.zw) λw32=>dS w32 (zB w1) λx59 x60=>R (.tuple #[.agg #[zh x59,x60.zw],zi 0]) w32))))) (s20.1,0,()) w18))
theorem zlv(p0)(p1)(R)(w)(h:zlh p0 p1 R w):cC 114 #[.agg #[.int .u16 p0.1,.int .u32 p0.2.1,.int .u32 p0.2.2.1,.slice p0.2.2.2.1.a p0.2.2.2.1.l p0.2.2.2.1.c],.int .u32 p1] w R:=lwC zln Tryz.func114 h
def zbb:Ann:=(.q (.seq (some ⟨[1,2],[]⟩) Z10 (.q (.seq none (.q (.one (.loop ⟨[1,2],[(3,(.b (.int .i64))),(4,(.b (.int .i64)))]⟩ (.seq none Z13 (.seq none (.one (.q (.seq none Z10 (.q Z1E)))) .nil))))) Z11))))
def zaK(p0:(Int×Int×Sl×Unit))(R:VWP)(w:World):Prop:=Nw (w.alloc (.cells #[zu p0.1,zu p0.2.1,p0.2.2.1.zw] 25)) λw1=>Nw (w1.alloc (.cells #[zi 0,zi 0] 29)) λw2=>zl (S:=Unit) (λm1=>ldI w2 ((zB w).add 1) .u32 λx3=>ifB (x3==0) (df w2 (zB w1) (zi 24) (zi 0) λw4=>db w4 (zB w1) λx4 x5=>R (.agg #[zi x4,zi x5]) w4) (ldI w2 ((zB w).add 1) .u32 λx6=>ifB (decide (x6>(65536:Int))) (df w2 (zB w1) (zi 24) (zi 0) λw6=>db w6 (zB w1) λx7 x8=>R (.agg #[zi x7,zi x8]) w6) (m1 () w2))) (λs2 w7=>zk (S:=Int×Int×Unit) (λs9 w8 n10=>ldS w8 ((zB w).add 2) λx11=>ifB (decide (s9.2.1<(x11.l:Int))) (ldS w8.drew ((zB w).add 2) λx12=>(0<=s9.2.1/\s9.2.1<(x12.l:Int))/\zc x12.a λa13=>dm w8.drew (a13.add (s9.2.1.toNat *4)) λx14 x15 x16 x17=>ldI w8.drew ((zB w).add 1) .u32 λx18=>dl 151 #[.agg #[zh x14,zu x15,zu x16,x17.zw],zu x18] w8.drew λx20 w9=>ifB (x20 !=0) (df w9 (zB w1) (zi x20) (zi s9.2.1) λw11=>db w11 (zB w1) λx21 x22=>R (.agg #[zi x21,zi x22]) w11) (ldS w9 ((zB w).add 2) λx23=>(0<=s9.2.1/\s9.2.1<(x23.l:Int))/\zc x23.a λa24=>ldI w9 (a24.add (s9.2.1.toNat *4)) .u16 λx25=>dK 152 #[zh x25] w9 λx27 x28 w12=>Nw (w12.alloc (.cells #[zh 0,.string (BM #[]),.bool false,.bool false,.string (BM #[]),.string (BM #[]),zi 0,zb 0] 187)) λw13=>dJ w13 (zB w12) (zh x27.1) (.string x27.2.1) (.bool x27.2.2.1) (.bool x27.2.2.2.1) (.string x27.2.2.2.2.1) (.string x27.2.2.2.2.2.1) (zi x27.2.2.2.2.2.2.1) (zb x27.2.2.2.2.2.2.2.1) λw21=>ldS w21.drew ((zB w).add 2) λx29=>(0<=s9.2.1/\s9.2.1<(x29.l:Int))/\zc x29.a λa30=>dm w21.drew (a30.add (s9.2.1.toNat *4)) λx31 x32 x33 x34=>dL w21.drew (zB w12) λx35 x36 x37 x38 x39 x40 x41 x42=>dl 153 #[.agg #[zh x31,zu x32,zu x33,x34.zw],.agg #[zh x35,.string x36,.bool x37,.bool x38,.string x39,.string x40,zi x41,zb x42]] w21.drew λx44 w22=>ifB (decide ((IntKind.i64.wrap (s9.1+x44))>1048576)) (df w22 (zB w1) (zi 4) (zi s9.2.1) λw24=>db w24 (zB w1) λx45 x46=>R (.agg #[zi x45,zi x46]) w24) (n10 ((IntKind.i64.wrap (s9.1+x44)),(IntKind.i64.wrap (s9.2.1+(1:Int))),()) w22))) (df w8 (zB w1) (zi 0) (zi 0) λw26=>db w26 (zB w1) λx47 x48=>R (.agg #[zi x47,zi x48]) w26)) (5,0,()) w7)
theorem zdH(p0)(R)(w)(h:zaK p0 R w):cC 115 #[.agg #[.int .u32 p0.1,.int .u32 p0.2.1,.slice p0.2.2.1.a p0.2.2.1.l p0.2.2.1.c]] w R:=lwC zbb Tryz.func115 h
def zgn:Ann:=(.q (.q (.seq none (.q (.one (.loop ⟨[3,7,8],[(4,(.b (.int .i64))),(9,(.b (.int .i64)))]⟩ (.q (.seq none .c (.seq none (.one (.q (.q Z1T))) .nil)))))) Z11)))
def zgc(p0:Sl)(R:VWP)(w:World):Prop:=Nw (w.alloc (.cells #[zi 0,zi 0] 29)) λw1=>zk (S:=Int×Int×Unit) (λs1 w2 n2=>ifB (decide (s1.2.1<(p0.l:Int))) ((0<=s1.2.1/\s1.2.1<(p0.l:Int))/\zc p0.a λa3=>dS w2 (a3.add (s1.2.1.toNat *2)) λx4 x5=>de w2 #[zh 0,.slice none 0 0] 197 (zh x4) (x5.zw) λw5=>ldS w5 ((zB w2).add 1) λx6=>ldS w5 ((zB w2).add 1) λx7=>ifB (decide ((x7.l:Int)≥65535)) (df w5 (zB w) (zi 25) (zi s1.2.1) λw7=>db w7 (zB w) λx8 x9=>R (.tuple #[zi 0,.agg #[zi x8,zi x9]]) w7) (ifB (decide ((IntKind.i64.wrap (s1.1+(IntKind.i64.wrap (1+(x6.l:Int)))))>1048576)) (df w5 (zB w) (zi 4) (zi s1.2.1) λw9=>db w9 (zB w) λx10 x11=>R (.tuple #[zi 0,.agg #[zi x10,zi x11]]) w9) (n2 ((IntKind.i64.wrap (s1.1+(IntKind.i64.wrap (1+(x6.l:Int))))),(IntKind.i64.wrap (s1.2.1+(1:Int))),()) w5))) (df w2 (zB w) (zi 0) (zi 0) λw11=>db w11 (zB w) λx12 x13=>R (.tuple #[zi s1.1,.agg #[zi x12,zi x13]]) w11)) (5,0,()) w1
theorem zh8(p0)(R)(w)(h:zgc p0 R w):cC 147 #[.slice p0.a p0.l p0.c] w R:=lwC zgn Tryz.func147 h
def zdl:Ann:=(.q (.seq none Z1T Z16))
def zdc(p0:Option Addr)(p1:Bool)(p2:Int)(p3:Int)(R:VWP)(w:World):Prop:=ifB (!(p1==(p2 !=0))) (R (zi p3) w) (ifB (!p1) (R (zi 0) w) (cR 172 #[.pointer p0,zu p2] w λv1 w1=>v1=(.tuple #[])/\zc p0 λa2=>ldI w1 (a2.add 8) .u32 λx3=>dl 173 #[zu p2,zu x3] w1 λx5 w2=>R (zi x5) w2))
theorem zf0(p0)(p1)(p2)(p3)(R)(w)(h:zdc p0 p1 p2 p3 R w):cC 148 #[.pointer p0,.bool p1,.int .u32 p2,.int .i64 p3] w R:=lwC zdl Tryz.func148 h
def zef:Ann:=(.q (.q (.q (.seq (some ⟨[0,5,7],[]⟩) Z1T (.q (.seq none (.q Z1T) Z11))))))
def zdV(p0:Option Addr)(p1:Int)(p2:(Int×Int×ByteArray×Unit))(R:VWP)(w:World):Prop:=Nw (w.alloc (.cells #[zb p2.1,zu p2.2.1,.string p2.2.2.1] 136)) λw1=>zc p0 λa1=>ldI w1 a1 .u16 λx2=>dI 174 #[zh x2,zi p1] w1 λx4 w2=>ldI w2 (zB w) .u8 λx5=>zl (S:=Unit) (λm6=>ifB (x4==0) (R (zi 42) w2.drew) (ldI w2.drew (zB w) .u8 λx8=>dI 109 #[zb x4] w2.drew λx10 w3=>w3.cell? (zB w)=some (zb x8)/\ifB (x8 !=x10) (R (zi 42) w3) (ifB (x5==3) (ldI w3 ((zB w).add 1) .u32 λx11=>ifB (x11 !=0) (R (zi 42) w3) (ifB (!(x5==3)) (zv w3 ((zB w).add 2) λx12=>ifB (!(x12.toList==(BM #[]).toList)) (R (zi 42) w3) (ifB (x5==3) (zv w3 ((zB w).add 2) λx13=>dl 175 #[.pointer p0,.string x13] w3 λx15 w4=>R (zi x15) w4) (m6 () w3))) (ifB (x5==3) (zv w3 ((zB w).add 2) λx16=>dl 175 #[.pointer p0,.string x16] w3 λx18 w5=>R (zi x18) w5) (m6 () w3)))) (ifB (!(x5==3)) (zv w3 ((zB w).add 2) λx19=>ifB (!(x19.toList==(BM #[]).toList)) (R (zi 42) w3) (ifB (x5==3) (zv w3 ((zB w).add 2) λx20=>dl 175 #[.pointer p0,.string x20] w3 λx22 w6=>R (zi x22) w6) (m6 () w3))) (ifB (x5==3) (zv w3 ((zB w).add 2) λx23=>dl 175 #[.pointer p0,.string x23] w3 λx25 w7=>R (zi x25) w7) (m6 () w3)))))) (λs7 w8=>ldI w8 ((zB w).add 1) .u32 λx26=>cR 172 #[.pointer p0,zu x26] w8 λv27 w9=>v27=(.tuple #[])/\ldI w9 (zB w) .u8 λx28=>ifB (x28==1) (ldI w9.drew ((zB w).add 1) .u32 λx29=>zc p0 λa30=>ldI w9.drew (a30.add 8) .u32 λx31=>dl 173 #[zu x29,zu x31] w9.drew λx33 w10=>R (zi x33) w10) (ifB (x28==4) (ldI w9 ((zB w).add 1) .u32 λx34=>dl 176 #[zb x4,zu x34] w9 λx36 w11=>R (zi x36) w11) (R (zi 0) w9)))
theorem zg0(p0)(p1)(p2)(R)(w)(h:zdV p0 p1 p2 R w):cC 149 #[.pointer p0,.int .i64 p1,.agg #[.int .u8 p2.1,.int .u32 p2.2.1,.string p2.2.2.1]] w R:=lwC zef Tryz.func149 h
def ziL:Ann:=(.q (.q (.seq none (.q (.one (.loop ⟨[2,10,11],[(5,(.b .slice)),(12,(.b (.int .i64)))]⟩ Z15))) (.seq none Z1E Z11))))
def ziA(p0:(Int×ByteArray×Bool×Bool×ByteArray×ByteArray×Int×Int×Unit))(p1:Sl)(R:VWP)(w:World):Prop:=Nw (w.alloc (.cells #[zh p0.1,.string p0.2.1,.bool p0.2.2.1,.bool p0.2.2.2.1,.string p0.2.2.2.2.1,.string p0.2.2.2.2.2.1,zi p0.2.2.2.2.2.2.1,zb p0.2.2.2.2.2.2.2.1] 187)) λw1=>zk (S:=Sl×Int×Unit) (λs1 w2 n2=>ifB (decide (s1.2.1<(p1.l:Int))) ((0<=s1.2.1/\s1.2.1<(p1.l:Int))/\zc p1.a λa3=>dw w2 (a3.add (s1.2.1.toNat *3)) λx4 x5 x6=>Nw (w2.alloc (.cells #[zb 0,zu 0,.string (BM #[])] 136)) λw3=>dx w3 (zB w2) (zb x4) (zu x5) (.string x6) λw6=>ldI w6 (zB w2) .u8 λx7=>Nw (w6.alloc (.cells #[zb x7] 5)) λw7=>zp Tryz.prog 145 (s1.1.zw) (.slice (some (zB w6)) 1 1) w7 λr8 w8=>n2 (r8,(IntKind.i64.wrap (s1.2.1+(1:Int))),()) w8) (ldI w2 (zB w) .u16 λx9=>dW 73 #[zh x9,s1.1.zw] w2 λx11 x12 w9=>ifB (!x12) (R (zi 42) w9) (R (zi 0) w9))) ((Sl.mk none 0 0),0,()) w1
theorem zjK(p0)(p1)(R)(w)(h:ziA p0 p1 R w):cC 150 #[.agg #[.int .u16 p0.1,.string p0.2.1,.bool p0.2.2.1,.bool p0.2.2.2.1,.string p0.2.2.2.2.1,.string p0.2.2.2.2.2.1,.int .i64 p0.2.2.2.2.2.2.1,.int .u8 p0.2.2.2.2.2.2.2.1],.slice p1.a p1.l p1.c] w R:=lwC ziL Tryz.func150 h
def zba:Ann:=(.q (.q (.seq none Z10 (.q (.seq none Z10 (.q (.seq none Z10 (.seq none (.q (.one (.loop ⟨[1,2,5],[(8,(.b (.int .i64)))]⟩ Z1X))) Z1P))))))))
def zaJ(p0:(Int×Int×Int×Sl×Unit))(p1:Int)(R:VWP)(w:World):Prop:=Nw (w.alloc (.cells #[zh p0.1,zu p0.2.1,zu p0.2.2.1,p0.2.2.2.1.zw] 50)) λw1=>ldI w1 (zB w) .u16 λx1=>dK 152 #[zh x1] w1 λx3 x4 w2=>Nw (w2.alloc (.cells #[zh 0,.string (BM #[]),.bool false,.bool false,.string (BM #[]),.string (BM #[]),zi 0,zb 0] 187)) λw3=>dJ w3 (zB w2) (zh x3.1) (.string x3.2.1) (.bool x3.2.2.1) (.bool x3.2.2.2.1) (.string x3.2.2.2.2.1) (.string x3.2.2.2.2.2.1) (zi x3.2.2.2.2.2.2.1) (zb x3.2.2.2.2.2.2.2.1) λw11=>ifB (!x4) (R (zi 30) w11) (ldB w11 ((zB w2).add 2) λx5=>ldI w11 ((zB w).add 1) .u32 λx6=>dl 177 #[.bool x5,zu x6,zu p1,zi 40] w11 λx8 w12=>ifB (x8 !=0) (R (zi x8) w12) (ldB w12 ((zB w2).add 3) λx9=>ldI w12 ((zB w).add 2) .u32 λx10=>dl 177 #[.bool x9,zu x10,zu p1,zi 41] w12 λx12 w13=>ifB (x12 !=0) (R (zi x12) w13) (zk (S:=Int×Unit) (λs13 w14 n14=>ldS w14 ((zB w).add 3) λx15=>ifB (decide (s13.1<(x15.l:Int))) (ldI w14.drew (zB w) .u16 λx16=>ldS w14.drew ((zB w).add 3) λx17=>(0<=s13.1/\s13.1<(x17.l:Int))/\zc x17.a λa18=>dw w14.drew (a18.add (s13.1.toNat *3)) λx19 x20 x21=>dI 155 #[zh x16,zi s13.1] w14.drew λx23 w15=>w15.cell? ((a18.add (s13.1.toNat *3)).add 0)=some (zb x19)/\w15.cell? ((a18.add (s13.1.toNat *3)).add 1)=some (zu x20)/\w15.cell? ((a18.add (s13.1.toNat *3)).add 2)=some (.string x21)/\w15.cell? ((zB w).add 3)=some (x17.zw)/\dl 178 #[zb x23,.agg #[zb x19,zu x20,.string x21],zu p1] w15 λx25 w16=>ifB (x25 !=0) (R (zi x25) w16) (n14 ((IntKind.i64.wrap (s13.1+(1:Int))),()) w16)) (dL w14 (zB w2) λx26 x27 x28 x29 x30 x31 x32 x33=>ldS w14 ((zB w).add 3) λx34=>dz 179 #[.agg #[zh x26,.string x27,.bool x28,.bool x29,.string x30,.string x31,zi x32,zb x33],zi (x34.l:Int)] w14 λx36 w17=>ifB (!x36) (R (zi 42) w17) (dm w17 (zB w) λx37 x38 x39 x40=>dL w17 (zB w2) λx41 x42 x43 x44 x45 x46 x47 x48=>dl 153 #[.agg #[zh x37,zu x38,zu x39,x40.zw],.agg #[zh x41,.string x42,.bool x43,.bool x44,.string x45,.string x46,zi x47,zb x48]] w17 λx50 w18=>ifB (decide (x50>(65535:Int))) (R (zi 25) w18) (R (zi 0) w18)))) (0,()) w13)))
theorem zdG(p0)(p1)(R)(w)(h:zaJ p0 p1 R w):cC 151 #[.agg #[.int .u16 p0.1,.int .u32 p0.2.1,.int .u32 p0.2.2.1,.slice p0.2.2.2.1.a p0.2.2.2.1.l p0.2.2.2.1.c],.int .u32 p1] w R:=lwC zba Tryz.func151 h
def zbU:Ann:=(.q (.q (.seq (some ⟨[2,3],[(5,(.b (.int .i64)))]⟩) Z13 (.seq (some ⟨[2],[(5,(.b (.int .i64)))]⟩) Z13 (.seq none (.q (.one (.loop ⟨[2],[(5,(.b (.int .i64))),(6,(.b (.int .i64)))]⟩ (.seq none Z13 (.seq (some ⟨[2,6],[(5,(.b (.int .i64)))]⟩) Z1S .nil))))) Z11)))))
def zbF(p0:(Int×Int×Int×Sl×Unit))(p1:(Int×ByteArray×Bool×Bool×ByteArray×ByteArray×Int×Int×Unit))(R:VWP)(w:World):Prop:=Nw (w.alloc (.cells #[zh p0.1,zu p0.2.1,zu p0.2.2.1,p0.2.2.2.1.zw] 50)) λw1=>Nw (w1.alloc (.cells #[zh p1.1,.string p1.2.1,.bool p1.2.2.1,.bool p1.2.2.2.1,.string p1.2.2.2.2.1,.string p1.2.2.2.2.2.1,zi p1.2.2.2.2.2.2.1,zb p1.2.2.2.2.2.2.2.1] 187)) λw2=>zl (S:=Int×Unit) (λm1=>ldB w2 ((zB w1).add 2) λx3=>ifB x3 (m1 ((IntKind.i64.wrap ((1:Int)+1)),()) w2) (m1 (1,()) w2)) (λs2 w3=>zl (S:=Int×Unit) (λm4=>ldB w3 ((zB w1).add 3) λx6=>ifB x6 (m4 ((IntKind.i64.wrap (s2.1+(1:Int))),()) w3) (m4 (s2.1,()) w3)) (λs5 w4=>zk (S:=Int×Int×Unit) (λs7 w5 n8=>ldS w5 ((zB w).add 3) λx9=>ifB (decide (s7.2.1<(x9.l:Int))) (zl (S:=Int×Unit) (λm10=>ldS w5 ((zB w).add 3) λx12=>(0<=s7.2.1/\s7.2.1<(x12.l:Int))/\zc x12.a λa13=>ldI w5 (a13.add (s7.2.1.toNat *3)) .u8 λx14=>ifB (x14==3) (ldS w5 ((zB w).add 3) λx15=>(0<=s7.2.1/\s7.2.1<(x15.l:Int))/\zc x15.a λa16=>zv w5 ((a16.add (s7.2.1.toNat *3)).add 2) λx17=>dl 181 #[.string x17] w5 λx19 w6=>m10 ((IntKind.i64.wrap (s7.1+x19)),()) w6) (m10 ((IntKind.i64.wrap (s7.1+(1:Int))),()) w5)) (λs11 w7=>n8 (s11.1,(IntKind.i64.wrap (s7.2.1+(1:Int))),()) w7)) (R (zi s7.1) w5)) (s5.1,0,()) w4))
theorem ze8(p0)(p1)(R)(w)(h:zbF p0 p1 R w):cC 153 #[.agg #[.int .u16 p0.1,.int .u32 p0.2.1,.int .u32 p0.2.2.1,.slice p0.2.2.2.1.a p0.2.2.2.1.l p0.2.2.2.1.c],.agg #[.int .u16 p1.1,.string p1.2.1,.bool p1.2.2.1,.bool p1.2.2.2.1,.string p1.2.2.2.2.1,.string p1.2.2.2.2.2.1,.int .i64 p1.2.2.2.2.2.2.1,.int .u8 p1.2.2.2.2.2.2.2.1]] w R:=lwC zbU Tryz.func153 h
def zeg:Ann:=Z11
def zdW(p0:Option Addr)(p1:Int)(R:VWP)(w:World):Prop:=zc p0 λa1=>ldS w (a1.add 9) λx2=>Nw (w.alloc (.cells #[zu p1] 22)) λw1=>zp Tryz.prog 26 (x2.zw) (.slice (some (zB w)) 1 1) w1 λr3 w2=>zc p0 λa4=>Wr w2 (a4.add 9)/\Nw (w2.setCell (a4.add 9) (r3.zw)) λw3=>zc p0 λa5=>ldI w3 (a5.add 10) .i64 λx6=>zc p0 λa7=>Wr w3 (a7.add 10)/\Nw (w3.setCell (a7.add 10) (zi (IntKind.i64.wrap (x6+(1:Int))))) λw4=>R (.tuple #[]) w4
theorem zg1(p0)(p1)(R)(w)(h:zdW p0 p1 R w):cC 172 #[.pointer p0,.int .u32 p1] w R:=lwC zeg Tryz.func172 h
def zmu:Ann:=Z1N
def zmt(p0:Int)(p1:Int)(R:VWP)(w:World):Prop:=ifB (p0==0) (R (zi 43) w) (ifB (decide (p0≥p1)) (R (zi 43) w) (R (zi 0) w))
theorem zme(p0)(p1)(R)(w)(h:zmt p0 p1 R w):cC 173 #[.int .u32 p0,.int .u32 p1] w R:=lwC zmu Tryz.func173 h
def zdm:Ann:=(.q (.seq none Z10 (.q (.seq none Z1F Z1J))))
def zdd(p0:Option Addr)(p1:ByteArray)(R:VWP)(w:World):Prop:=dl 185 #[.string p1,zb 0] w λx2 w1=>ifB (decide (x2≥(0:Int))) (R (zi 13) w1) (dX 186 #[.string p1] w1 λx4 x5 w2=>ifB (x5 !=0) (zc p0 λa6=>ldI w2.drew (a6.add 10) .i64 λx7=>dl 187 #[.string p1] w2.drew λx9 w3=>w3.cell? (a6.add 10)=some (zi x7)/\zc p0 λa10=>Wr w3 (a10.add 10)/\Nw (w3.setCell (a10.add 10) (zi (IntKind.i64.wrap (x7+x9)))) λw4=>R (zi 0) w4) (zc p0 λa11=>ldS w2 (a11.add 9) λx12=>zp Tryz.prog 26 (x12.zw) (x4.zw) w2 λr13 w5=>zc p0 λa14=>Wr w5 (a14.add 9)/\Nw (w5.setCell (a14.add 9) (r13.zw)) λw6=>zc p0 λa15=>ldI w6 (a15.add 10) .i64 λx16=>zc p0 λa17=>Wr w6 (a17.add 10)/\Nw (w6.setCell (a17.add 10) (zi (IntKind.i64.wrap (x16+(x4.l:Int))))) λw7=>R (zi 0) w7))
theorem zf1(p0)(p1)(R)(w)(h:zdd p0 p1 R w):cC 175 #[.pointer p0,.string p1] w R:=lwC zdm Tryz.func175 h
def ziK:Ann:=(.q (.seq none Z1E Z11))
def zi9(p0:Int)(p1:Int)(R:VWP)(w:World):Prop:=dY 188 #[zb p0,zu p1] w λx2 x3 w1=>ifB (!x3) (R (zi 31) w1) (R (zi 0) w1)
theorem zjJ(p0)(p1)(R)(w)(h:zi9 p0 p1 R w):cC 176 #[.int .u8 p0,.int .u32 p1] w R:=lwC ziK Tryz.func176 h
def zds:Ann:=(.q Z1P)
def zdi(p0:Bool)(p1:Int)(p2:Int)(p3:Int)(R:VWP)(w:World):Prop:=ifB (!(p0==(p1 !=0))) (R (zi p3) w) (ifB p0 (ifB (decide (p1≥p2)) (R (zi 43) w) (R (zi 0) w)) (R (zi 0) w))
theorem zfD(p0)(p1)(p2)(p3)(R)(w)(h:zdi p0 p1 p2 p3 R w):cC 177 #[.bool p0,.int .u32 p1,.int .u32 p2,.int .i64 p3] w R:=lwC zds Tryz.func177 h
def zbd:Ann:=(.q (.seq (some ⟨[0,2,4],[]⟩) Z10 (.seq (some ⟨[0,2,4],[]⟩) Z10 (.seq (some ⟨[0,4],[]⟩) Z10 (.q (.seq (some ⟨[4],[]⟩) Z10 (.seq none (.q (.one (.loop ⟨[4],[(9,(.b (.int .i64)))]⟩ Z14))) Z11)))))))
def zaM(p0:Int)(p1:(Int×Int×ByteArray×Unit))(p2:Int)(R:VWP)(w:World):Prop:=Nw (w.alloc (.cells #[zb p1.1,zu p1.2.1,.string p1.2.2.1] 136)) λw1=>zl (S:=Unit) (λm1=>ifB (p0==0) (R (zi 42) w1.drew) (ldI w1.drew (zB w) .u8 λx3=>dI 156 #[zb p0] w1.drew λx5 w2=>w2.cell? (zB w)=some (zb x3)/\ifB (x3 !=x5) (R (zi 42) w2) (m1 () w2))) (λs2 w3=>zl (S:=Unit) (λm6=>ldI w3 (zB w) .u8 λx8=>ifB (x8==3) (ldI w3 ((zB w).add 1) .u32 λx9=>ifB (x9 !=0) (R (zi 42) w3) (ldI w3 (zB w) .u8 λx10=>ifB (x10 !=3) (zv w3 ((zB w).add 2) λx11=>ifB (!(x11.toList==(BM #[]).toList)) (R (zi 42) w3) (m6 () w3)) (m6 () w3))) (ldI w3 (zB w) .u8 λx12=>ifB (x12 !=3) (zv w3 ((zB w).add 2) λx13=>ifB (!(x13.toList==(BM #[]).toList)) (R (zi 42) w3) (m6 () w3)) (m6 () w3))) (λs7 w4=>zl (S:=Unit) (λm14=>ldI w4 (zB w) .u8 λx16=>ifB (x16==1) (ldI w4 ((zB w).add 1) .u32 λx17=>dz 189 #[zu x17,zu p2] w4 λx19 w5=>ifB x19 (R (zi 43) w5) (m14 () w5)) (m14 () w4)) (λs15 w6=>ldI w6 ((zB w).add 1) .u32 λx20=>dY 190 #[zb p0,zu x20] w6 λx22 x23 w7=>zl (S:=Unit) (λm24=>ldI w7 (zB w) .u8 λx26=>ifB (x26==4) (ifB (!x23) (R (zi 31) w7) (m24 () w7)) (m24 () w7)) (λs25 w8=>zk (S:=Int×Unit) (λs27 w9 n28=>zv w9 ((zB w).add 2) λx29=>ifB (decide (s27.1<(x29.size:Int))) (zv w9 ((zB w).add 2) λx30=>(0<=s27.1/\s27.1<(x30.size:Int))/\ifB ((Yu x30 s27.1)==0) (R (zi 13) w9) (n28 ((IntKind.i64.wrap (s27.1+(1:Int))),()) w9)) (R (zi 0) w9)) (0,()) w8))))
theorem zdJ(p0)(p1)(p2)(R)(w)(h:zaM p0 p1 p2 R w):cC 178 #[.int .u8 p0,.agg #[.int .u8 p1.1,.int .u32 p1.2.1,.string p1.2.2.1],.int .u32 p2] w R:=lwC zbd Tryz.func178 h
def zbc:Ann:=(.q Z1P)
def zaL(p0:(Int×ByteArray×Bool×Bool×ByteArray×ByteArray×Int×Int×Unit))(p1:Int)(R:VWP)(w:World):Prop:=Nw (w.alloc (.cells #[zh p0.1,.string p0.2.1,.bool p0.2.2.1,.bool p0.2.2.2.1,.string p0.2.2.2.2.1,.string p0.2.2.2.2.2.1,zi p0.2.2.2.2.2.2.1,zb p0.2.2.2.2.2.2.2.1] 187)) λw1=>zv w1 ((zB w).add 4) λx1=>ifB (decide (p1<(x1.size:Int))) (R (.bool false) w1) (zv w1 ((zB w).add 5) λx2=>ifB ((x2.size:Int)==0) (zv w1 ((zB w).add 4) λx3=>R (.bool (p1==(x3.size:Int))) w1) (zv w1 ((zB w).add 4) λx4=>zv w1 ((zB w).add 5) λx5=>ifB (decide ((x5.size:Int)=0)) (False) (R (.bool ((Int.tmod (IntKind.i64.wrap (p1-(x4.size:Int))) (x5.size:Int))==0)) w1)))
theorem zdI(p0)(p1)(R)(w)(h:zaL p0 p1 R w):cC 179 #[.agg #[.int .u16 p0.1,.string p0.2.1,.bool p0.2.2.1,.bool p0.2.2.2.1,.string p0.2.2.2.2.1,.string p0.2.2.2.2.2.1,.int .i64 p0.2.2.2.2.2.2.1,.int .u8 p0.2.2.2.2.2.2.2.1],.int .i64 p1] w R:=lwC zbc Tryz.func179 h
def zbO:Ann:=Z16
def zb9(p0:ByteArray)(R:VWP)(w:World):Prop:=R (zi (IntKind.i64.wrap ((IntKind.i64.wrap (Int.tdiv (p0.size:Int) 4))+1))) w
theorem ze2(p0)(R)(w)(h:zb9 p0 R w):cC 181 #[.string p0] w R:=lwC zbO Tryz.func181 h
def zcJ:Ann:=Z16
def zc7(p0:ByteArray)(p1:Int)(R:VWP)(w:World):Prop:=dl 192 #[.string p0,zb p1] w λx2 w1=>R (zi x2) w1
theorem zfw(p0)(p1)(R)(w)(h:zc7 p0 p1 R w):cC 185 #[.string p0,.int .u8 p1] w R:=lwC zcJ Tryz.func185 h
def zgK:Ann:=(.q (.seq none (.q (.one (.loop ⟨[0,8],[(9,(.b (.int .i64)))]⟩ Z1U))) (.seq none Z10 (.q (.seq none (.q (.one (.loop ⟨[0,5,24],[(25,(.b (.int .i64)))]⟩ Z15))) Z11)))))
def zgF(p0:ByteArray)(R:VWP)(w:World):Prop:=zk (S:=Int×Unit) (λs1 w1 n2=>ifB (decide (s1.1<(p0.size:Int))) ((0<=s1.1/\s1.1<(p0.size:Int))/\ifB ((Yu p0 s1.1)==0) (R (.tuple #[.slice none 0 0,zi 13]) w1) (n2 ((IntKind.i64.wrap (s1.1+(1:Int))),()) w1)) (dl 187 #[.string p0] w1 λx4 w2=>ifB (decide (x4>(65535:Int))) (R (.tuple #[.slice none 0 0,zi 4]) w2) (dl 187 #[.string p0] w2 λx6 w3=>(0<=x6/\x6<=x6/\4*x6<=281474976710656/\x6<=9223372036854775807)/\Nw (w3.alloc (.cells (madeCells #[zu 0] (x6.toNat *1)) 22)) λw4=>zk (S:=Int×Unit) (λs7 w5 n8=>ifB (decide (s7.1<(p0.size:Int))) ((0<=(IntKind.i64.wrap (Int.tdiv s7.1 4))/\(IntKind.i64.wrap (Int.tdiv s7.1 4))<(x6.toNat:Int))/\ldI w5.drew ((zB w3).add (Int.toNat (IntKind.i64.wrap (Int.tdiv s7.1 4)))) .u32 λx9=>(0<=s7.1/\s7.1<(p0.size:Int))/\ifB (decide ((IntKind.i64.wrap (8*(Int.tmod s7.1 4)))<0)) (False) ((0<=(IntKind.i64.wrap (Int.tdiv s7.1 4))/\(IntKind.i64.wrap (Int.tdiv s7.1 4))<(x6.toNat:Int))/\Wr w5.drew ((zB w3).add (Int.toNat (IntKind.i64.wrap (Int.tdiv s7.1 4))))/\Nw (w5.drew.setCell ((zB w3).add (Int.toNat (IntKind.i64.wrap (Int.tdiv s7.1 4)))) (zu (IntKind.u32.wrap (BitVec.toNat (BitVec.ofInt (IntKind.bits .u32) x9 ||| BitVec.ofInt (IntKind.bits .u32) (IntKind.u32.wrap ((IntKind.u32.wrap (Yu p0 s7.1))*2 ^ (min (Int.toNat (IntKind.i64.wrap (8*(Int.tmod s7.1 4)))) (IntKind.bits .u32))))):Int)))) λw6=>n8 ((IntKind.i64.wrap (s7.1+(1:Int))),()) w6)) (R (.tuple #[.slice (some (zB w3)) x6.toNat x6.toNat,zi 0]) w5)) (0,()) w4))) (0,()) w
theorem zi6(p0)(R)(w)(h:zgF p0 R w):cC 186 #[.string p0] w R:=lwC zgK Tryz.func186 h
def ziT:Ann:=Z16
def ziI(p0:ByteArray)(R:VWP)(w:World):Prop:=R (zi (IntKind.i64.wrap ((IntKind.i64.wrap (Int.tdiv (p0.size:Int) 4))+1))) w
theorem zkm(p0)(R)(w)(h:ziI p0 R w):cC 187 #[.string p0] w R:=lwC ziT Tryz.func187 h
def zbT:Ann:=Z16
def zbE(p0:Int)(p1:Int)(R:VWP)(w:World):Prop:=ifB (p0==0) (R (.bool true) w) (R (.bool (decide (p0≥p1))) w)
theorem ze7(p0)(p1)(R)(w)(h:zbE p0 p1 R w):cC 189 #[.int .u32 p0,.int .u32 p1] w R:=lwC zbT Tryz.func189 h
def yR:Ann:=Z16
def yQ(p0:ByteArray)(p1:Int)(R:VWP)(w:World):Prop:=extR Tryz.prog 196 #[.string p0,zb p1] w λv1 w1=>∃x2:Int,v1=(zi x2)/\R (zi x2) w1
theorem Yz(p0)(p1)(R)(w)(h:yQ p0 p1 R w):cC 192 #[.string p0,.int .u8 p1] w R:=lwC yR Tryz.func192 h
set_option linter.unusedVariables false
set_option maxRecDepth 100000
def zcB:Ann:=(.q (.seq none Z10 Z1R))
def zcz(p0:Sl)(p1:Sl)(R:VWP)(w:World):Prop:=ifB ((p0.l:Int) !=(p1.l:Int)) (R (.bool false) w) (zk (S:=Int×Unit) (λs1 w1 n2=>ifB (decide (s1.1<(p0.l:Int))) ((0<=s1.1/\s1.1<(p0.l:Int))/\zc p0.a λa3=>ldI w1.drew (a3.add s1.1.toNat) .u32 λx4=>(0<=s1.1/\s1.1<(p1.l:Int))/\zc p1.a λa5=>ldI w1.drew (a5.add s1.1.toNat) .u32 λx6=>ifB (x4 !=x6) (R (.bool false) w1.drew) (n2 ((IntKind.i64.wrap (s1.1+(1:Int))),()) w1.drew)) (R (.bool true) w1)) (0,()) w)
theorem zfe(p0)(p1)(R)(w)(h:zcz p0 p1 R w):cC 9 #[.slice p0.a p0.l p0.c,.slice p1.a p1.l p1.c] w R:=lwC zcB Tryz.func9 h
def Y9:Ann:=(.q (.one (.loop ⟨[0],[(2,(.b (.int .i64)))]⟩ Z18)))
def Y2(p0:Sl)(R:VWP)(w:World):Prop:=zk (S:=Int×Unit) (λs1 w1 n2=>ifB (decide (s1.1<(p0.l:Int))) ((0<=s1.1/\s1.1<(p0.l:Int))/\zc p0.a λa3=>Wr w1 (a3.add s1.1.toNat)/\Nw (w1.setCell (a3.add s1.1.toNat) (zu 1515870810)) λw2=>n2 ((IntKind.i64.wrap (s1.1+(1:Int))),()) w2) (R (.tuple #[]) w1)) (0,()) w
theorem zcq(p0)(R)(w)(h:Y2 p0 R w):cC 10 #[.slice p0.a p0.l p0.c] w R:=lwC Y9 Tryz.func10 h
def zay:Ann:=Z1M
def zar(p0:(Int×Int×Int×Sl×Unit))(R:VWP)(w:World):Prop:=Nw (w.alloc (.cells #[zh p0.1,zu p0.2.1,zu p0.2.2.1,p0.2.2.2.1.zw] 50)) λw1=>Nw (w1.alloc (.cells #[zh 0,zu 0,zu 0,.slice none 0 0] 50)) λw2=>ldS w2 ((zB w).add 3) λx1=>(0<=(x1.l:Int)/\(x1.l:Int)<=(x1.l:Int)/\24*(x1.l:Int)<=281474976710656/\(x1.l:Int)<=9223372036854775807)/\Nw (w2.alloc (.cells (madeCells #[zb 0,zu 0,.string (BM #[])] (x1.l*3)) 136)) λw3=>zk (S:=Int×Unit) (λs2 w4 n3=>ldS w4 ((zB w).add 3) λx4=>ifB (decide (s2.1<(x4.l:Int))) (ldS w4 ((zB w).add 3) λx5=>(0<=s2.1/\s2.1<(x5.l:Int))/\zc x5.a λa6=>dw w4 (a6.add (s2.1.toNat *3)) λx7 x8 x9=>(0<=s2.1/\s2.1<(x1.l:Int))/\Wr w4 ((zB w2).add (s2.1.toNat *3))/\Nw (w4.setCell ((zB w2).add (s2.1.toNat *3)) (zb x7)) λw5=>Wr w5 (((zB w2).add (s2.1.toNat *3)).add 1)/\Nw (w5.setCell (((zB w2).add (s2.1.toNat *3)).add 1) (zu x8)) λw6=>Wr w6 (((zB w2).add (s2.1.toNat *3)).add 2)/\Nw (w6.setCell (((zB w2).add (s2.1.toNat *3)).add 2) (.string x9)) λw7=>n3 ((IntKind.i64.wrap (s2.1+(1:Int))),()) w7) (Wr w4 ((zB w).add 3)/\Nw (w4.setCell ((zB w).add 3) (.slice (some (zB w2)) x1.l x1.l)) λw8=>dm w8 (zB w) λx10 x11 x12 x13=>dv w8 (zB w1) (zh x10) (zu x11) (zu x12) (x13.zw) λw12=>dm w12 (zB w1) λx14 x15 x16 x17=>R (.agg #[zh x14,zu x15,zu x16,x17.zw]) w12)) (0,()) w3
theorem zd1(p0)(R)(w)(h:zar p0 R w):cC 29 #[.agg #[.int .u16 p0.1,.int .u32 p0.2.1,.int .u32 p0.2.2.1,.slice p0.2.2.2.1.a p0.2.2.2.1.l p0.2.2.2.1.c]] w R:=lwC zay Tryz.func29 h
def zgs:Ann:=(.q (.q (.seq none (.q (.one (.loop ⟨[1,12,13],[(3,(.b .slice)),(14,(.b (.int .i64)))]⟩ Z15))) (.seq none Z1E (.q (.seq none (.q (.one (.loop ⟨[1,34,35],[(8,(.b .slice)),(36,(.b (.int .i64)))]⟩ (.q (.seq none .c (.seq (some ⟨[1,34,35,36],[(8,(.b .slice))]⟩) (.one (.q (.one (.seq none (.q (.cond .nil Z13)) .c)))) .nil)))))) Z11))))))
def zge(p0:(Int×Int×Int×Sl×Unit))(R:VWP)(w:World):Prop:=Nw (w.alloc (.cells #[zh p0.1,zu p0.2.1,zu p0.2.2.1,p0.2.2.2.1.zw] 50)) λw1=>ldS w1 ((zB w).add 3) λx1=>zk (S:=Sl×Int×Unit) (λs2 w2 n3=>ifB (decide (s2.2.1<(x1.l:Int))) ((0<=s2.2.1/\s2.2.1<(x1.l:Int))/\zc x1.a λa4=>dw w2 (a4.add (s2.2.1.toNat *3)) λx5 x6 x7=>Nw (w2.alloc (.cells #[zb 0,zu 0,.string (BM #[])] 136)) λw3=>dx w3 (zB w2) (zb x5) (zu x6) (.string x7) λw6=>ldI w6 (zB w2) .u8 λx8=>Nw (w6.alloc (.cells #[zb x8] 5)) λw7=>zp Tryz.prog 145 (s2.1.zw) (.slice (some (zB w6)) 1 1) w7 λr9 w8=>n3 (r9,(IntKind.i64.wrap (s2.2.1+(1:Int))),()) w8) (ldI w2 (zB w) .u16 λx10=>dW 73 #[zh x10,s2.1.zw] w2 λx12 x13 w9=>ifB (!x13) (R (.slice none 0 0) w9) (ldS w9 ((zB w).add 3) λx14=>zk (S:=Sl×Int×Unit) (λs15 w10 n16=>ifB (decide (s15.2.1<(x14.l:Int))) (zl (S:=Sl×Unit) (λm17=>(0<=s15.2.1/\s15.2.1<(x14.l:Int))/\zc x14.a λa19=>dw w10 (a19.add (s15.2.1.toNat *3)) λx20 x21 x22=>Nw (w10.alloc (.cells #[zb 0,zu 0,.string (BM #[])] 136)) λw11=>dx w11 (zB w10) (zb x20) (zu x21) (.string x22) λw14=>ldI w14 (zB w) .u16 λx23=>ifB (x23==249) (ifB (x23==249) (ldI w14 ((zB w10).add 1) .u32 λx24=>Nw (w14.alloc (.cells #[zu x24] 22)) λw15=>zp Tryz.prog 26 (s15.1.zw) (.slice (some (zB w14)) 1 1) w15 λr25 w16=>m17 (r25,()) w16) (m17 (s15.1,()) w14)) (ldI w14 (zB w) .u16 λx26=>ifB (x26==250) (ifB (decide (s15.2.1>(0:Int))) (ifB (decide (s15.2.1>(0:Int))) (ldI w14 ((zB w10).add 1) .u32 λx27=>Nw (w14.alloc (.cells #[zu x27] 22)) λw17=>zp Tryz.prog 26 (s15.1.zw) (.slice (some (zB w14)) 1 1) w17 λr28 w18=>m17 (r28,()) w18) (m17 (s15.1,()) w14)) (ldI w14 (zB w) .u16 λx29=>ifB (x29==251) (ifB ((Int.tmod s15.2.1 2)==1) (ldI w14 ((zB w10).add 1) .u32 λx30=>Nw (w14.alloc (.cells #[zu x30] 22)) λw19=>zp Tryz.prog 26 (s15.1.zw) (.slice (some (zB w14)) 1 1) w19 λr31 w20=>m17 (r31,()) w20) (m17 (s15.1,()) w14)) (m17 (s15.1,()) w14))) (ldI w14 (zB w) .u16 λx32=>ifB (x32==251) (ifB ((Int.tmod s15.2.1 2)==1) (ldI w14 ((zB w10).add 1) .u32 λx33=>Nw (w14.alloc (.cells #[zu x33] 22)) λw21=>zp Tryz.prog 26 (s15.1.zw) (.slice (some (zB w14)) 1 1) w21 λr34 w22=>m17 (r34,()) w22) (m17 (s15.1,()) w14)) (m17 (s15.1,()) w14)))) (λs18 w23=>n16 (s18.1,(IntKind.i64.wrap (s15.2.1+(1:Int))),()) w23)) (R (s15.1.zw) w10)) ((Sl.mk none 0 0),0,()) w9))) ((Sl.mk none 0 0),0,()) w1
theorem zhC(p0)(R)(w)(h:zge p0 R w):cC 38 #[.agg #[.int .u16 p0.1,.int .u32 p0.2.1,.int .u32 p0.2.2.1,.slice p0.2.2.2.1.a p0.2.2.2.1.l p0.2.2.2.1.c]] w R:=lwC zgs Tryz.func38 h
def YY:Ann:=(.q (.q (.q (.seq none (.q (.one (.loop ⟨[1,3],[(4,(.b .slice)),(5,(.b (.int .i64)))]⟩ Z18))) (.q (.seq none Z10 (.seq none (.q (.one (.loop ⟨[1],[(3,(.b .slice)),(8,(.b (.int .i64)))]⟩ (.seq none Z13 (.seq (some ⟨[1,8],[(3,(.b .slice))]⟩) Z1S .nil))))) Z11)))))))
def YU(p0:(Int×Int×Int×Sl×Unit))(R:VWP)(w:World):Prop:=Nw (w.alloc (.cells #[zh p0.1,zu p0.2.1,zu p0.2.2.1,p0.2.2.2.1.zw] 50)) λw1=>zk (S:=Sl×Int×Unit) (λs1 w2 n2=>ldS w2 ((zB w).add 3) λx3=>ifB (decide (s1.2.1<(x3.l:Int))) (ldS w2 ((zB w).add 3) λx4=>(0<=s1.2.1/\s1.2.1<(x4.l:Int))/\zc x4.a λa5=>ldI w2 (a5.add (s1.2.1.toNat *3)) .u8 λx6=>Nw (w2.alloc (.cells #[zb x6] 5)) λw3=>zp Tryz.prog 145 (s1.1.zw) (.slice (some (zB w2)) 1 1) w3 λr7 w4=>n2 (r7,(IntKind.i64.wrap (s1.2.1+(1:Int))),()) w4) (ldI w2 (zB w) .u16 λx8=>dW 119 #[zh x8,s1.1.zw] w2 λx10 x11 w5=>ifB (!x11) (R (.slice none 0 0) w5) (zk (S:=Sl×Int×Unit) (λs12 w6 n13=>ldS w6 ((zB w).add 3) λx14=>ifB (decide (s12.2.1<(x14.l:Int))) (zl (S:=Sl×Unit) (λm15=>ldI w6 (zB w) .u16 λx17=>ifB (x17==249) (ldS w6 ((zB w).add 3) λx18=>(0<=s12.2.1/\s12.2.1<(x18.l:Int))/\zc x18.a λa19=>ldI w6 ((a19.add (s12.2.1.toNat *3)).add 1) .u32 λx20=>Nw (w6.alloc (.cells #[zu x20] 22)) λw7=>zp Tryz.prog 26 (s12.1.zw) (.slice (some (zB w6)) 1 1) w7 λr21 w8=>m15 (r21,()) w8) (ldI w6 (zB w) .u16 λx22=>ifB (x22==250) (ifB (decide (s12.2.1>(0:Int))) (ldS w6 ((zB w).add 3) λx23=>(0<=s12.2.1/\s12.2.1<(x23.l:Int))/\zc x23.a λa24=>ldI w6 ((a24.add (s12.2.1.toNat *3)).add 1) .u32 λx25=>Nw (w6.alloc (.cells #[zu x25] 22)) λw9=>zp Tryz.prog 26 (s12.1.zw) (.slice (some (zB w6)) 1 1) w9 λr26 w10=>m15 (r26,()) w10) (ldI w6 (zB w) .u16 λx27=>ifB (x27==251) (ifB ((Int.tmod s12.2.1 2)==1) (ldS w6 ((zB w).add 3) λx28=>(0<=s12.2.1/\s12.2.1<(x28.l:Int))/\zc x28.a λa29=>ldI w6 ((a29.add (s12.2.1.toNat *3)).add 1) .u32 λx30=>Nw (w6.alloc (.cells #[zu x30] 22)) λw11=>zp Tryz.prog 26 (s12.1.zw) (.slice (some (zB w6)) 1 1) w11 λr31 w12=>m15 (r31,()) w12) (m15 (s12.1,()) w6)) (m15 (s12.1,()) w6))) (ldI w6 (zB w) .u16 λx32=>ifB (x32==251) (ifB ((Int.tmod s12.2.1 2)==1) (ldS w6 ((zB w).add 3) λx33=>(0<=s12.2.1/\s12.2.1<(x33.l:Int))/\zc x33.a λa34=>ldI w6 ((a34.add (s12.2.1.toNat *3)).add 1) .u32 λx35=>Nw (w6.alloc (.cells #[zu x35] 22)) λw13=>zp Tryz.prog 26 (s12.1.zw) (.slice (some (zB w6)) 1 1) w13 λr36 w14=>m15 (r36,()) w14) (m15 (s12.1,()) w6)) (m15 (s12.1,()) w6)))) (λs16 w15=>n13 (s16.1,(IntKind.i64.wrap (s12.2.1+(1:Int))),()) w15)) (R (s12.1.zw) w6)) ((Sl.mk none 0 0),0,()) w5))) ((Sl.mk none 0 0),0,()) w1
theorem zcQ(p0)(R)(w)(h:YU p0 R w):cC 84 #[.agg #[.int .u16 p0.1,.int .u32 p0.2.1,.int .u32 p0.2.2.1,.slice p0.2.2.2.1.a p0.2.2.2.1.l p0.2.2.2.1.c]] w R:=lwC YY Tryz.func84 h
end Go.Proofs
namespace Go.Proofs
open Go.Gk Go.RowKit Go.Gm
theorem zk.countSl{body:Sl×Int×Unit->World->(Sl×Int×Unit->World->Prop)->Prop}{w:World}{s0:Sl}(n:Nat)(hn:n<=9223372036854775807)(I:Nat->Sl->World->Prop)(h0:I 0 s0 w)
  (h:∀k r w,k<=n->I k r w->∀next:Sl×Int×Unit->World->Prop,(∀r' w',k<n->I (k+1) r' w'->next (r',IntKind.i64.wrap ((k:Int)+1),()) w')->body (r,(k:Int),()) w next):zk body (s0,(0:Int),()) w:=by
 refine zk.ghost (λj s w=>∃(k:Nat) (r:Sl),k<=n/\j=n-k/\s=(r,(k:Int),())/\I k r w) n ⟨0,s0,Nat.zero_le _,rfl,rfl,h0⟩ ?_
 rintro _ _ w ⟨k,r,hk,rfl,rfl,hI⟩ next hnext
 refine h k r w hk hI next λr' w' hlt hI'=>?_
 rw[zr (by omega)]
 exact hnext (n-(k+1)) _ _ (by omega) ⟨k+1,r',by omega,rfl,rfl,hI'⟩
theorem y8{P:Program}{t e:TypeId}{bytes:Nat}(he:YT P t e 1 bytes){w0 w:World}{s:Sl}{xs:List Value}(h:Own w e 1 s xs)(hb:Below w0.heap.size w0 w)(hF:zz w0.heap.size s){v:Value}(hv:v.oneCell'=true){b c:Nat}{T:TypeId}
  (hB:Blk w b T [v]) (h63:s.l+1<=9223372036854775807) (hbytes:(s.l+1)*bytes<=140737488355328) {k:Sl->World->Prop}
  (hk:∀r w',Own w' e 1 r (xs++[v])->Below w0.heap.size w0 w'->zz w0.heap.size r->k r w'):zp P t (.slice s.a s.l s.c) (.slice (some (blk b)) 1 c) w k:=by
 refine YM he h hv hB h63 hbytes λr w' h1 _ ⟨b',h3,h4,h5⟩=>?_
 have hbb:w0.heap.size<=b':=by
  rcases h4 with h4 |h4
  ·exact hF _ h4
  ·have:=hb.size
   omega
 exact hk r w' h1 (hb.trans (yf h5 hbb hb.size)) λa ha=>by rw[h3]at ha;cases ha;exact hbb
theorem eU8:YT Tryz.prog 145 5 1 1:=⟨by kernel_rfl,Tryz.t5,.int .u8 0,by kernel_rfl,rfl,rfl,rfl,rfl⟩
theorem zcK{w:World}{s:Sl}{l:List Int}(h:IsS (Value.int .u32) w s l){k:Nat}(hk:k<l.length){φ:Int->Prop}(hφ:φ l[k]) :
  (0<=(k:Int)/\(k:Int)<(s.l:Int))/\zc s.a λa=>ldI w (a.add (Int.toNat (k:Int))) .u32 φ:=h.addr hk λ_ _ hc=>⟨l[k],hc,hφ⟩
theorem eU32:YT Tryz.prog 26 22 1 4:=⟨by kernel_rfl,Tryz.t22,.int .u32 0,by kernel_rfl,rfl,rfl,rfl,rfl⟩
def zaE(op:Int)(k:Nat):Bool:=op==249||(op==250&&decide (0<k))||(op==251&&decide (k % 2=1))
def tgtN(op:Int)(al:List Ag)(k:Nat):List Int:=((List.range k).filter (zaE op)).map λj=>(al.getD j (0,0,bs [])).2.1
def tgtP(op:Int)(al:List Ag):List Int:=if (fitP op (al.map (·.1))).2=true then tgtN op al al.length else []
theorem znd{op:Int}{al:List Ag}{k:Nat}(hk:k<al.length)(h:zaE op k=true):tgtN op al (k+1)=tgtN op al k++[al[k].2.1]:=by
 unfold tgtN
 rw[List.range_succ,List.filter_append,List.map_append]
 simp[h,hk]
theorem znc{op:Int}{al:List Ag}{k:Nat}(h:zaE op k=false):tgtN op al (k+1)=tgtN op al k:=by
 unfold tgtN
 rw[List.range_succ,List.filter_append,List.map_append]
 simp[h]
theorem zlY(op:Int)(al:List Ag)(k:Nat):(tgtN op al k).length<=k:=by
 unfold tgtN
 rw[List.length_map]
 exact Nat.le_trans (List.length_filter_le _ _) (by simp)
theorem zpn(k:Nat):(Int.tmod (k:Int) 2==(1:Int))=decide (k % 2=1):=by
 rw[show Int.tmod (k:Int) 2=((k % 2:Nat):Int) from(Int.ofNat_tmod k 2).symm]
 by_cases h:k % 2=1
 ·rw[h];rfl
 ·rw[decide_eq_false h]
  exact beq_eq_false_iff_ne.2 (by omega)
section
variable {x:Ins} {al:List Ag} {w:World} {R:VWP}
theorem znk(hI:IsAg w x.2.2.2.1 al)(h24:24*al.length<=140737488351232)
  (hR:∀r w',Own w' 22 1 r ((tgtP x.1 al).map (Value.int .u32))->zz w.heap.size r->Below w.heap.size w w'->R (.slice r.a r.l r.c) w') :
  cR 38 #[inA x] w R:=by
 refine za.of (zhC x R w ?_) λ_ _ h=>h
 refine zn λw1 hB b1 z1=>?_
 have hB:Blk w1 w.heap.size 50 (inV x):=hB
 refine hB.rS (n:=3) rfl ?_
 have hlen:=hI.len
 refine zk.countSl al.length hI.bound (λk r w'=>Own w' 5 1 r ((al.take k).map λa=>Value.int .u8 a.1)/\zz w1.heap.size r/\Below w1.heap.size w1 w') ⟨Own.nil _ _ _,λa ha=>by(cases ha),Below.refl _ _⟩ ?_
 rintro k r w2 hk ⟨hO,hF,hb⟩ next hnext
 have hb0:=b1.on hb
 have hI2:=hI.below hb0
 refine zf (λh=>?_) (λh=>?_)
 ·have hlt:k<al.length:=by dsimp only at h;omega
  refine zir hI2 hlt ?_
  refine box3 rfl λw3 h3 b3 z3=>?_
  refine h3.rI0 rfl ?_
  refine zn λw4 h4 b4 z4=>?_
  have hrl:r.l=k:=by have:=hO.1;simp[Nat.min_eq_left hk]at this;omega
  refine y8 eU8 ((hO.below b3).below b4) ((hb.on b3).on b4) hF (v:=.int .u8 al[k].1) rfl h4 (by omega) (by omega) λr' w5 h5 b5 F5=>?_
  refine hnext r' w5 hlt ⟨?_,F5,b5⟩
  rw[List.take_succ_eq_append_getElem hlt,List.map_append]
  exact h5
 ·have hk:k=al.length:=by dsimp only at h;omega
  subst hk
  rw[List.take_length]at hO
  have hB2:=hB.below hb
  refine hB2.rI0 rfl ?_
  have hO':Own w2 5 1 r ((al.map (·.1)).map (Value.int .u8)):=by rw[List.map_map];exact hO
  refine zmq hO'.isS λw3 b3=>⟨_,_,rfl,?_⟩
  have hb3:=hb.on b3
  have hb03:=b1.on hb3
  refine zo (λhn=>?_) (λhn=>?_)
  ·have:tgtP x.1 al=[]:=by
    unfold tgtP
    rw[if_neg (by intro h;rw[h]at hn;cases hn)]
   rw[this]at hR
   exact hR ⟨none,0,0⟩ w3 (Own.nil _ _ _) (λa ha=>by cases ha) hb03
  ·have hp:tgtP x.1 al=tgtN x.1 al al.length:=by
    unfold tgtP
    rw[if_pos (by simpa using hn)]
   rw[hp]at hR
   have hB3:=hB2.below b3
   refine hB3.rS (n:=3) rfl ?_
   refine zk.countSl al.length hI.bound (λk r w'=>Own w' 22 1 r ((tgtN x.1 al k).map (Value.int .u32))/\zz w3.heap.size r/\Below w3.heap.size w3 w') ⟨Own.nil _ _ _,λa ha=>by(cases ha),Below.refl _ _⟩ ?_
   rintro k r w4 hk ⟨hO,hF,hb4⟩ next hnext
   have hb04:=hb03.on hb4
   have hI4:=hI.below hb04
   refine zf (λh=>?_) (λh=>?_)
   ·have hlt:k<al.length:=by dsimp only at h;omega
    refine zl.cut (λst w'=>Own w' 22 1 st.1 ((tgtN x.1 al (k+1)).map (Value.int .u32))/\zz w3.heap.size st.1/\Below w3.heap.size w3 w') ?_ ?_
    ·refine zir hI4 hlt ?_
     refine box3 rfl λw5 h5 b5 z5=>?_
     have hB5:=(hB3.below hb4).below b5
     have hrl:r.l<=k:=by have:=hO.1;have h2:=zlY x.1 al k;rw[List.length_map]at this;omega
     have take:zaE x.1 k=true->ldI w5 ((blk w4.heap.size).add 1) .u32 λy=>Nw (w5.alloc (.cells #[(.int .u32 y)] 22)) λw6=>
       zp Tryz.prog 26 (.slice r.a r.l r.c) (.slice (some (blk w5.heap.size)) 1 1) w6 λr' w7=>Own w7 22 1 r' ((tgtN x.1 al (k+1)).map (Value.int .u32))/\zz w3.heap.size r'/\Below w3.heap.size w3 w7:=by
      intro ht
      refine h5.rI (n:=1) rfl ?_
      refine zn λw6 h6 b6 z6=>?_
      refine y8 eU32 ((hO.below b5).below b6) ((hb4.on b5).on b6) hF (v:=.int .u32 al[k].2.1) rfl h6 (by omega) (by omega) λr' w7 h7 b7 F7=>⟨?_,F7,b7⟩
      rw[znd hlt ht,List.map_append]
      exact h7
     have skip:zaE x.1 k=false->Own w5 22 1 r ((tgtN x.1 al (k+1)).map (Value.int .u32))/\zz w3.heap.size r/\Below w3.heap.size w3 w5:=by
      intro ht
      rw[znc ht]
      exact⟨hO.below b5,hF,hb4.on b5⟩
     refine hB5.rI0 rfl (zm (λe1=>zm (λ_=>take ?_) (λe=>absurd e1 e)) (λe1=>?_))
     ·unfold zaE;rw[e1];rfl
     have n1:(x.1==249)=false:=beq_eq_false_iff_ne.2 e1
     have last:x.1≠250\/k=0->∀b:Prop,True->True:=λ_ _ h=>h
     refine hB5.rI0 rfl (zm (λe2=>?_) (λe2=>?_))
     ·have e251:(x.1==251)=false:=by rw[e2];rfl
      refine zf (λh0=>zf (λ_=>take ?_) (λh=>absurd h0 h)) (λh0=>?_)
      ·have:0<k:=by dsimp only at h0;omega
       unfold zaE;rw[e2,decide_eq_true this];rfl
      ·refine hB5.rI0 rfl (zm (λe3=>absurd (e2.symm.trans e3) (by decide)) (λe3=>skip ?_))
       have:¬0<k:=by dsimp only at h0;omega
       unfold zaE;rw[n1,e251,decide_eq_false this];simp
     ·have n2:(x.1==250)=false:=beq_eq_false_iff_ne.2 e2
      refine hB5.rI0 rfl (zm (λe3=>?_) (λe3=>skip ?_))
      ·dsimp only
       rw[zpn]
       refine zf (λh2=>take ?_) (λh2=>skip ?_)
       ·unfold zaE;rw[e3,decide_eq_true h2];rfl
       ·unfold zaE;rw[n1,n2,decide_eq_false h2];simp
      ·unfold zaE;rw[n1,n2,beq_eq_false_iff_ne.2 e3];simp
    ·rintro⟨r',_⟩ w' ⟨h1,h2,h3⟩
     exact hnext r' w' hlt ⟨h1,h2,h3⟩
   ·have hk:k=al.length:=by dsimp only at h;omega
    subst hk
    exact hR r w4 hO (λa ha=>by have:=hF a ha;have:=hb03.size;omega) hb04
theorem zmj(hI:IsAg w x.2.2.2.1 al)(h24:24*al.length<=140737488351232)
  (hR:∀r w',Own w' 22 1 r ((tgtP x.1 al).map (Value.int .u32))->zz w.heap.size r->Below w.heap.size w w'->R (.slice r.a r.l r.c) w') :
  cR 84 #[inA x] w R:=by
 refine za.of (zcQ x R w ?_) λ_ _ h=>h
 refine zn λw1 hB b1 z1=>?_
 have hB:Blk w1 w.heap.size 50 (inV x):=hB
 have hlen:=hI.len
 refine zk.countSl al.length hI.bound (λk r w'=>Own w' 5 1 r ((al.take k).map λa=>Value.int .u8 a.1)/\zz w1.heap.size r/\Below w1.heap.size w1 w') ⟨Own.nil _ _ _,λa ha=>by(cases ha),Below.refl _ _⟩ ?_
 rintro k r w2 hk ⟨hO,hF,hb⟩ next hnext
 have hb0:=b1.on hb
 have hI2:=hI.below hb0
 have hB2:=hB.below hb
 refine hB2.rS (n:=3) rfl ?_
 refine zf (λh=>?_) (λh=>?_)
 ·have hlt:k<al.length:=by dsimp only at h;omega
  refine hB2.rS (n:=3) rfl ?_
  refine zp8 hI2 hlt ?_
  refine zn λw4 h4 b4 z4=>?_
  have hrl:r.l=k:=by have:=hO.1;simp[Nat.min_eq_left hk]at this;omega
  refine y8 eU8 (hO.below b4) (hb.on b4) hF (v:=.int .u8 al[k].1) rfl h4 (by omega) (by omega) λr' w5 h5 b5 F5=>?_
  refine hnext r' w5 hlt ⟨?_,F5,b5⟩
  rw[List.take_succ_eq_append_getElem hlt,List.map_append]
  exact h5
 ·have hk:k=al.length:=by dsimp only at h;omega
  subst hk
  rw[List.take_length]at hO
  refine hB2.rI0 rfl ?_
  have hO':Own w2 5 1 r ((al.map (·.1)).map (Value.int .u8)):=by rw[List.map_map];exact hO
  refine zqd hO'.isS (by rw[List.length_map];omega) λw3 b3=>⟨_,_,rfl,?_⟩
  have hb3:=hb.on b3
  have hb03:=b1.on hb3
  refine zo (λhn=>?_) (λhn=>?_)
  ·have:tgtP x.1 al=[]:=by
    unfold tgtP
    rw[if_neg (by intro h;rw[h]at hn;cases hn)]
   rw[this]at hR
   exact hR ⟨none,0,0⟩ w3 (Own.nil _ _ _) (λa ha=>by cases ha) hb03
  ·have hp:tgtP x.1 al=tgtN x.1 al al.length:=by
    unfold tgtP
    rw[if_pos (by simpa using hn)]
   rw[hp]at hR
   have hB3:=hB2.below b3
   refine zk.countSl al.length hI.bound (λk r w'=>Own w' 22 1 r ((tgtN x.1 al k).map (Value.int .u32))/\zz w3.heap.size r/\Below w3.heap.size w3 w') ⟨Own.nil _ _ _,λa ha=>by(cases ha),Below.refl _ _⟩ ?_
   rintro k r w4 hk ⟨hO,hF,hb4⟩ next hnext
   have hb04:=hb03.on hb4
   have hI4:=hI.below hb04
   have hB4:=hB3.below hb4
   refine hB4.rS (n:=3) rfl ?_
   refine zf (λh=>?_) (λh=>?_)
   ·have hlt:k<al.length:=by dsimp only at h;omega
    refine zl.cut (λst w'=>Own w' 22 1 st.1 ((tgtN x.1 al (k+1)).map (Value.int .u32))/\zz w3.heap.size st.1/\Below w3.heap.size w3 w') ?_ ?_
    ·have hrl:r.l<=k:=by have:=hO.1;have h2:=zlY x.1 al k;rw[List.length_map]at this;omega
     have take:zaE x.1 k=true->ldS w4 ((blk w.heap.size).add 3) λs=>(0<=(k:Int)/\(k:Int)<(s.l:Int))/\zc s.a λa=>ldI w4 ((a.add ((Int.toNat (k:Int))*3)).add 1) .u32 λy=>Nw (w4.alloc (.cells #[(.int .u32 y)] 22)) λw6=>
       zp Tryz.prog 26 (.slice r.a r.l r.c) (.slice (some (blk w4.heap.size)) 1 1) w6 λr' w7=>Own w7 22 1 r' ((tgtN x.1 al (k+1)).map (Value.int .u32))/\zz w3.heap.size r'/\Below w3.heap.size w3 w7:=by
      intro ht
      refine hB4.rS (n:=3) rfl ?_
      refine zbt hI4 hlt ?_
      refine zn λw6 h6 b6 z6=>?_
      refine y8 eU32 (hO.below b6) (hb4.on b6) hF (v:=.int .u32 al[k].2.1) rfl h6 (by omega) (by omega) λr' w7 h7 b7 F7=>⟨?_,F7,b7⟩
      rw[znd hlt ht,List.map_append]
      exact h7
     have skip:zaE x.1 k=false->Own w4 22 1 r ((tgtN x.1 al (k+1)).map (Value.int .u32))/\zz w3.heap.size r/\Below w3.heap.size w3 w4:=by
      intro ht
      rw[znc ht]
      exact⟨hO,hF,hb4⟩
     refine hB4.rI0 rfl (zm (λe1=>take ?_) (λe1=>?_))
     ·unfold zaE;rw[e1];rfl
     have n1:(x.1==249)=false:=beq_eq_false_iff_ne.2 e1
     refine hB4.rI0 rfl (zm (λe2=>?_) (λe2=>?_))
     ·have e251:(x.1==251)=false:=by rw[e2];rfl
      refine zf (λh0=>take ?_) (λh0=>?_)
      ·have:0<k:=by dsimp only at h0;omega
       unfold zaE;rw[e2,decide_eq_true this];rfl
      ·refine hB4.rI0 rfl (zm (λe3=>absurd (e2.symm.trans e3) (by decide)) (λe3=>skip ?_))
       have:¬0<k:=by dsimp only at h0;omega
       unfold zaE;rw[n1,e251,decide_eq_false this];simp
     ·have n2:(x.1==250)=false:=beq_eq_false_iff_ne.2 e2
      refine hB4.rI0 rfl (zm (λe3=>?_) (λe3=>skip ?_))
      ·dsimp only
       rw[zpn]
       refine zf (λh2=>take ?_) (λh2=>skip ?_)
       ·unfold zaE;rw[e3,decide_eq_true h2];rfl
       ·unfold zaE;rw[n1,n2,decide_eq_false h2];simp
      ·unfold zaE;rw[n1,n2,beq_eq_false_iff_ne.2 e3];simp
    ·rintro⟨r',_⟩ w' ⟨h1,h2,h3⟩
     exact hnext r' w' hlt ⟨h1,h2,h3⟩
   ·have hk:k=al.length:=by dsimp only at h;omega
    subst hk
    exact hR r w4 hO (λa ha=>by have:=hF a ha;have:=hb03.size;omega) hb04
theorem zmd(hI:IsAg w x.2.2.2.1 al)(h24:24*al.length<=140737488351232)
  (hR:∀b w',w.heap.size<=b->Blk w' b 136 (flat agV al)->IsAg w' ⟨some (blk b),al.length,al.length⟩ al->Below w.heap.size w w'->R (inA (x.1,x.2.1,x.2.2.1,⟨some (blk b),al.length,al.length⟩,())) w') :
  cR 29 #[inA x] w R:=by
 refine za.of (zd1 x R w ?_) λ_ _ h=>h
 refine zn λw1 hB1 b1 z1=>?_
 have hB1:Blk w1 w.heap.size 50 (inV x):=hB1
 refine zn λw2 hC2 b2 z2=>?_
 have hC2:Blk w2 w1.heap.size 50 [.int .u16 0,.int .u32 0,.int .u32 0,.slice none 0 0]:=hC2
 have hB2:=hB1.below b2
 have hl:=hI.len
 refine hB2.rS (n:=3) rfl ⟨⟨by omega,by omega,by omega,by omega⟩,?_⟩
 refine zn λw3 hD3 b3 z3=>?_
 have hb3:=(b1.on b2).on b3
 have hB3:=hB2.below b3
 have hC3:=hC2.below b3
 rw[hl]
 refine zk.count al.length hI.bound (λk w'=>Below w.heap.size w w'/\w'.heap.size=w3.heap.size/\Blk w' w.heap.size 50 (inV x)/\Blk w' w1.heap.size 50 [.int .u16 0,.int .u32 0,.int .u32 0,.slice none 0 0]/\
   ∃r,Blk w' w2.heap.size 136 (flat agV (al.take k)++r)/\r.length=(al.length-k)*3) ⟨hb3,rfl,hB3,hC3,_,by simpa[flat] using hD3,by rw[Array.length_toList,size_madeCells,hl];simp⟩ ?_
 rintro k w4 hk ⟨hb,hz,hB,hC,r,hD,hr⟩ next hnext
 refine hB.rS (n:=3) rfl ?_
 refine zf (λhlt=>?_) (λhge=>?_)
 ·have hlt:k<al.length:=by dsimp only at hlt;omega
  refine hB.rS (n:=3) rfl ?_
  have hm:=hI.below hb
  refine zir hm hlt ⟨⟨by omega,by dsimp only;omega⟩,?_⟩
  have hfl:(flat agV (al.take k)).length=k*3:=by rw[zO zcN,List.length_take,Nat.min_eq_left (by omega)]
  obtain⟨r',hr',e⟩:=set3 (flat agV (al.take k)) (cs:=r) (m:=al.length-(k+1)) (by rw[hr];congr 1;omega) (.int .u8 al[k].1) (.int .u32 al[k].2.1) (.string al[k].2.2)
  rw[hfl]at e
  have hcl:(flat agV (al.take k)++r).length=al.length*3:=by rw[List.length_append,hfl,hr,<-Nat.add_mul];congr 1;omega
  rw[show Int.toNat (k:Int)=k from rfl]
  simp only[zy]
  have hD1:=hD.set (k*3) (.int .u8 al[k].1)
  have hD2:=hD1.set (k*3+1) (.int .u32 al[k].2.1)
  have hD3:=hD2.set (k*3+2) (.string al[k].2.2)
  have c1:=((Chg.set w2.heap.size (k*3) w4 (.int .u8 al[k].1)).trans (Chg.set w2.heap.size (k*3+1) _ (.int .u32 al[k].2.1))).trans (Chg.set w2.heap.size (k*3+2) _ (.string al[k].2.2))
  refine⟨hD.wr (by omega),hD1.wr (by rw[List.length_set];omega),hD2.wr (by rw[List.length_set,List.length_set];omega),hnext _ hlt ⟨c1.below hb (by omega),c1.size.trans hz,c1.blk hB (by omega),c1.blk hC (by omega),r',?_,hr'⟩⟩
  rw[e]at hD3
  have e2:flat agV (al.take (k+1))=flat agV (al.take k)++agV al[k]:=by
   rw[List.take_succ_eq_append_getElem hlt]
   show(al.take k++[al[k]]).flatMap agV=_
   rw[List.flatMap_append]
   rfl
  rw[e2]
  exact hD3
 ·have hk':k=al.length:=by dsimp only at hge;omega
  subst hk'
  simp only[Nat.sub_self,Nat.zero_mul]at hr
  have:r=[]:=List.eq_nil_of_length_eq_zero hr
  subst this
  rw[List.take_length,List.append_nil]at hD
  refine⟨hB.wr (n:=3) (by simp),?_⟩
  have c1:=Chg.set w.heap.size 3 w4 (.slice (some (blk w2.heap.size)) al.length al.length)
  have hB5:Blk _ w.heap.size 50 (inV (x.1,x.2.1,x.2.2.1,⟨some (blk w2.heap.size),al.length,al.length⟩,())):=hB.set 3 (.slice (some (blk w2.heap.size)) al.length al.length)
  have hb5:=c1.below hb (Nat.le_refl _)
  have hC5:=c1.blk hC (by omega)
  have hD5:=c1.blk hD (by omega)
  refine Nw.mk (Ins.load hB5 ?_)
  refine st4 hC5 rfl λw6 hC6 c6=>?_
  have hC6:Blk w6 w1.heap.size 50 (inV (x.1,x.2.1,x.2.2.1,⟨some (blk w2.heap.size),al.length,al.length⟩,())):=hC6
  have hD6:=c6.blk hD5 (by omega)
  refine Ins.load hC6 ?_
  exact hR w2.heap.size w6 (by omega) hD6 (Blk.isC zcN (by omega) hD6 hI.bound) (c6.below hb5 (by omega))
end
theorem zll{s t:Sl}{l m:List Int}{w:World}{R:VWP}(hs:IsS (Value.int .u32) w s l)(ht:IsS (Value.int .u32) w t m)(hR:∀w',w'.heap=w.heap->Below w.heap.size w w'->R (.bool (decide (l=m))) w') :
  cR 9 #[.slice s.a s.l s.c,.slice t.a t.l t.c] w R:=by
 refine za.of (zfe s t R w ?_) λ_ _ h=>h
 have e1:=hs.len
 have e2:=ht.len
 refine zt (λhne=>?_) (λhe=>?_)
 ·have:decide (l=m)=false:=by
   rw[decide_eq_false_iff_not];intro e;subst e;omega
  have:=this▸hR w rfl (Below.refl _ _)
  exact this
 ·have hlm:l.length=m.length:=by omega
  refine zk.count l.length hs.bound (λk w'=>w'.heap=w.heap/\Below w.heap.size w w'/\l.take k=m.take k) ⟨rfl,Below.refl _ _,by simp⟩ ?_
  rintro k w' hk ⟨hh,hb,hI⟩ next hnext
  refine zf (λhlt=>?_) (λhge=>?_)
  ·have hlt:k<l.length:=by dsimp only at hlt;omega
   refine(hs.heap (w':=w'.drew) hh).addr hlt λa _ hc=>⟨_,hc,?_⟩
   refine(ht.heap (w':=w'.drew) hh).addr (by omega) λa _ hc=>⟨_,hc,?_⟩
   refine zt (λhne=>?_) (λhe=>?_)
   ·have:decide (l=m)=false:=by
     rw[decide_eq_false_iff_not];intro e;subst e;exact hne rfl
    have:=this▸hR w'.drew hh hb.drew
    exact this
   ·exact hnext _ hlt ⟨hh,hb.drew,by rw[List.take_succ_eq_append_getElem hlt,List.take_succ_eq_append_getElem (by omega),hI,he]⟩
  ·have:l=m:=by
    have hk':k=l.length:=by dsimp only at hge;omega
    subst hk'
    rwa[List.take_length,hlm,List.take_length]at hI
   have:=(decide_eq_true this)▸hR w' hh hb
   exact this
theorem zkK{s:Sl}{xs:List Value}{w:World}{R:VWP}(h:Own w 22 1 s xs)(hR:∀w',Only s w w'->R (.tuple #[]) w') :
  cR 10 #[.slice s.a s.l s.c] w R:=by
 refine za.of (zcq s R w ?_) λ_ _ h=>h
 have hb:s.l<=9223372036854775807:=by
  rcases h.2 with rfl | ⟨_,_,_,_,h1,h2,_⟩
  ·simp
  ·omega
 refine zk.count s.l hb (λk w'=>Only s w w'/\∃xs,Own w' 22 1 s xs) ⟨Only.refl _ _,xs,h⟩ ?_
 rintro k w' hk ⟨hO,xs',hX⟩ next hnext
 refine zf (λhlt=>?_) (λhge=>hR w' hO)
 have hlt:k<s.l:=by dsimp only at hlt;omega
 rcases hX.2 with e | ⟨b,cs,ha,hB,h1,h2,h3,h4⟩
 ·rw[e]at hlt;simp at hlt
 ·refine⟨⟨by simp,by simpa using hlt⟩,zj ha ⟨hB.wr (n:=k) (by omega),?_⟩⟩
  refine Nw.mk (hnext _ hlt ⟨hO.set ha k _,(cs.set k (.int .u32 1515870810)).take (s.l*1),?_⟩)
  exact⟨by simp[h3];omega,.inr ⟨b,_,ha,hB.set k (.int .u32 1515870810),h1,h2,by simp[h3],rfl⟩⟩
theorem zsb(l:List UInt8)(c:UInt8):(Lib.indexByte l c=-1\/0<=Lib.indexByte l c)/\(0<=Lib.indexByte l c↔l.contains c=true):=by
 induction l with
 |nil=>exact⟨.inl rfl,by simp[Lib.indexByte]⟩
 |cons b l ih=>
  obtain⟨h1,h2⟩:=ih
  unfold Lib.indexByte
  by_cases e:b=c
  ·subst e
   simp
  ·rw[if_neg (by simpa using e)]
   have e':(c==b)=false:=beq_eq_false_iff_ne.2 λh=>e h.symm
   rw[List.contains_cons,e',Bool.false_or,<-h2]
   rcases h1 with h1 |h1
   ·rw[h1];simp
   ·rw[if_neg (by simp;omega)]
    constructor
    ·right;omega
    ·constructor<;>intro _<;>omega
theorem zlf{s:ByteArray}{w:World}{R:VWP}(hR:∀i:Int,(0<=i↔nul s=true)->R (.int .i64 i) w):cR 185 #[.string s,.int .u8 0] w R:=by
 refine za.of (zfw s 0 R w ?_) λ_ _ h=>h
 refine za.of (Yz s 0 _ w ?_) λ_ _ h=>h
 refine⟨.int .i64 (Lib.indexByte s.data.toList 0),w,?_,_,rfl,_,rfl,hR _ (zsb _ _).2⟩
 rw[run_callFunc_extern Tryz.func196 (by kernel_rfl) (by kernel_rfl) (by kernel_rfl) (e:=Extern.BytealgIndexByte.indexByte) (by kernel_rfl),Lib.run_indexByteString]
 rfl
theorem zod{s:ByteArray}(h:nul s=false){k:Nat}(hk:k<s.size):Yu s (k:Int)≠0:=by
 intro e
 unfold Yu at e
 rw[Int.toNat_natCast]at e
 have hk':k<s.data.size:=hk
 have e1:s.data.getD k 0=s.data[k]:=by rw[Array.getD_eq_getD_getElem?,Array.getElem?_eq_getElem hk'];rfl
 rw[e1]at e
 have e2:s.data[k]=0:=UInt8.toNat.inj (show(s.data[k]).toNat=0 by omega)
 have hm:(0:UInt8)∈s.data.toList:=by
  rw[<-e2,<-Array.getElem_toList]
  exact List.getElem_mem _
 have:=List.contains_iff_mem.2 hm
 unfold nul at h
 rw[h]at this
 cases this
theorem znZ{s:ByteArray}(hs:s.size<=9223372036854775807):IntKind.i64.wrap (IntKind.i64.wrap (Int.tdiv (s.size:Int) 4)+1)=((s.size / 4+1:Nat):Int):=by
 rw[show Int.tdiv (s.size:Int) 4=((s.size / 4:Nat):Int) from(Int.ofNat_tdiv s.size 4).symm]
 have:s.size / 4<=2305843009213693951:=by omega
 generalize s.size / 4=q at this
 rw[zq (x:=(q:Int)) (by omega) (by omega),zq (by omega) (by omega)]
 omega
theorem zjE{s:ByteArray}(hs:s.size<=9223372036854775807){w:World}{R:VWP}(hR:R (.int .i64 ((s.size / 4+1:Nat):Int)) w):cR 187 #[.string s] w R:=by
 refine za.of (zkm s R w ?_) λ_ _ h=>h
 show R (.int .i64 _) w
 rw[znZ hs]
 exact hR
theorem setU{w:World}{b:Nat}{T:TypeId}{xs:List Int}(hB:Blk w b T (xs.map (Value.int .u32)))(k:Nat)(v:Int):∃ys:List Int,Blk (w.setCell ((blk b).add k) (.int .u32 v)) b T (ys.map (Value.int .u32))/\ys.length=xs.length:=
 ⟨xs.set k v,by rw[List.map_set];exact hB.set k _,by simp⟩
theorem znX{s:ByteArray}(hs:s.size<=9223372036854775807)(hn:nul s=false){w:World}{R:VWP}
  (h1:65535<s.size / 4+1->R (.tuple #[.slice none 0 0,.int .i64 4]) w)
  (h2:s.size / 4+1<=65535->∀(b:Nat) (xs:List Int) w',w.heap.size<=b->Blk w' b 22 (xs.map (Value.int .u32))->xs.length=s.size / 4+1->Below w.heap.size w w'->R (.tuple #[.slice (some (blk b)) (s.size / 4+1) (s.size / 4+1),.int .i64 0]) w') :
  cR 186 #[.string s] w R:=by
 refine za.of (zi6 s R w ?_) λ_ _ h=>h
 refine zk.count s.size hs (λk w'=>w'=w) rfl ?_
 rintro k wk hk hw next hnext
 subst hw
 refine zf (λh=>?_) (λh=>?_)
 ·have hlt:k<s.size:=by dsimp only at h;omega
  exact⟨⟨by omega,by omega⟩,zm (λe=>absurd e (zod hn hlt)) (λ_=>hnext _ hlt rfl)⟩
 ·refine zjE hs ⟨_,rfl,?_⟩
  refine zf (λhgt=>h1 (by omega)) (λhle=>?_)
  have hle:s.size / 4+1<=65535:=by omega
  refine zjE hs ⟨_,rfl,?_⟩
  dsimp only[zB,Go.Gk.Sl.zw,zi,zu,zb,zh];rw[Int.toNat_natCast]
  refine⟨⟨by omega,by omega,by omega,by omega⟩,?_⟩
  refine Nw.gen λw4 e4=>?_
  have hB4:Blk w4 wk.heap.size 22 (List.replicate (s.size / 4+1) (.int .u32 0)):=by rw[e4];exact Blk.made wk _ _ _
  have z4:w4.heap.size=wk.heap.size+1:=by rw[e4];simp
  have b4:Below wk.heap.size wk w4:=by rw[e4];exact(Below.refl _ _).alloc (Nat.le_refl _) _
  clear e4
  refine zk.count s.size hs (λk w'=>Below wk.heap.size wk w'/\∃xs:List Int,Blk w' wk.heap.size 22 (xs.map (Value.int .u32))/\xs.length=s.size / 4+1) ⟨b4,List.replicate (s.size / 4+1) 0,by simpa using hB4,by simp⟩ ?_
  rintro k w5 hk ⟨hb,xs,hB,hxl⟩ next hnext
  refine zf (λh=>?_) (λh=>?_)
  ·have hlt:k<s.size:=by dsimp only at h;omega
   have e1:IntKind.i64.wrap (Int.tdiv (k:Int) 4)=((k / 4:Nat):Int):=by
    rw[show Int.tdiv (k:Int) 4=((k / 4:Nat):Int) from(Int.ofNat_tdiv k 4).symm]
    exact zq (by omega) (by omega)
   have e2:IntKind.i64.wrap (8*Int.tmod (k:Int) 4)=((8*(k % 4):Nat):Int):=by
    rw[show Int.tmod (k:Int) 4=((k % 4:Nat):Int) from(Int.ofNat_tmod k 4).symm,zq (by omega) (by omega)]
    omega
   have hq:k / 4<xs.length:=by omega
   dsimp only
   rw[e1,e2,Int.toNat_natCast]
   refine⟨⟨by omega,by omega⟩,hB.drew.rI (n:=k / 4) (x:=xs[k / 4]) (by simp[hq]) ⟨⟨by omega,by omega⟩,zf (λh=>absurd h (by omega)) (λ_=>⟨⟨by omega,by omega⟩,hB.drew.wr (by simpa using hq),?_⟩)⟩⟩
   refine Nw.mk (hnext _ hlt ⟨(Chg.set _ _ _ _).below hb.drew (Nat.le_refl _),?_⟩)
   exact(setU hB.drew (k / 4) _).imp λys h=>⟨h.1,h.2.trans hxl⟩
  ·exact h2 hle _ xs w5 (Nat.le_refl _) hB hxl hb
abbrev wrV(f:Fm)(bd:Int)(s:Sl)(room:Nat):List Value:=
 [.int .u16 f.1,.string f.2.1,.bool f.2.2.1,.bool f.2.2.2.1,.string f.2.2.2.2.1,.string f.2.2.2.2.2.1,.int .i64 f.2.2.2.2.2.2.1,.int .u8 f.2.2.2.2.2.2.2.1,.int .u32 bd,.slice s.a s.l s.c,.int .i64 (room:Int)]
def Oth(b:Nat)(w w':World):Prop:=∀k T cs,Blk w k T cs->k≠b->T≠22->Blk w' k T cs
theorem Oth.refl(b:Nat)(w:World):Oth b w w:=λ_ _ _ h _ _=>h
theorem Oth.trans{b:Nat}{w w' w2:World}(h:Oth b w w')(h':Oth b w' w2):Oth b w w2:=λk T cs hB h1 h2=>h' k T cs (h k T cs hB h1 h2) h1 h2
theorem Oth.below{b:Nat}{w w':World}(h:Below w.heap.size w w'):Oth b w w':=λ_ _ _ hB _ _=>hB.below h
structure WtS (w0 w:World) (b:Nat) (f:Fm) (bd:Int) (room n:Nat):Prop where
 old:w0.heap.size<=b
 below:Below w0.heap.size w0 w
 own:∃r xs,Blk w b 228 (wrV f bd r room)/\Own w 22 1 r xs/\zz w0.heap.size r/\r.l=n
section
variable {w0 w:World} {b:Nat} {f:Fm} {bd:Int} {room n:Nat} {R:VWP}
theorem WtS.step{w':World}(h:WtS w0 w b f bd room n)(hb:Below w.heap.size w w'):WtS w0 w' b f bd room n:=by
 obtain⟨h1,h2,r,xs,h3,h4,h5,h6⟩:=h
 exact⟨h1,h2.on hb,r,xs,h3.below hb,h4.below hb,h5,h6⟩
theorem WtS.drew(h:WtS w0 w b f bd room n):WtS w0 w.drew b f bd room n:=h.step (Below.refl _ _).drew
theorem WtS.app(h:WtS w0 w b f bd room n){c m k:Nat}{news:List Value}{T:TypeId}(hB:Blk w c T news)(hl:news.length=m)(h1:∀u∈news,u.oneCell'=true)(hm:0<m)(hn:(n+m)*4<=140737488355328){r:Sl}{xs:List Value}
  (hW:Blk w b 228 (wrV f bd r room)) (hO:Own w 22 1 r xs) (hF:zz w0.heap.size r) (hrl:r.l=n) {K:Sl->World->Prop}
  (hK:∀r' w2,Blk w2 b 228 (wrV f bd r room)->(∀room' w4,Chg b w2 w4->Blk w4 b 228 (wrV f bd r' room')->WtS w0 w4 b f bd room' (n+m)/\Oth b w w4)->K r' w2) :
  zp Tryz.prog 26 (.slice r.a r.l r.c) (.slice (some (blk c)) m k) w K:=by
 have hold:=h.old
 have hbel:=h.below
 refine ZX eU32 hO (news:=news) (by omega) (λj u hj=>hB.cell hj) h1 (by omega) (by omega) λr' w2 hO' hl' hg=>?_
 rcases hg with⟨_,_,h3⟩ | ⟨b',hb',hab,hg⟩
 ·rw[h3]at hl';omega
 ·have hbb:w0.heap.size<=b':=by
   rcases hab with h |h
   ·exact hF _ h
   ·have:=hbel.size
    omega
  have hne:∀{k T cs},Blk w k T cs->T≠22->k≠b':=by
   intro k T cs hk hT e
   subst e
   rcases hab with h |h
   ·obtain⟨cs',hc⟩:=hO.type h
    exact hT (hk.type hc)
   ·have:=hk.lt
    omega
  have hkeep:∀{k T cs},Blk w k T cs->T≠22->Blk w2 k T cs:=λhk hT=>hk.of_block (hg.block _ hk.lt (λe=>hne hk hT (Option.some.inj e)))
  have hb2:Below w0.heap.size w0 w2:=hbel.trans (yf hg hbb hbel.size)
  refine hK r' w2 (hkeep hW (by decide)) λroom' w4 cc hW4=>?_
  have hO4:Own w4 22 1 r' (xs++news):=hO'.of_block λa ha=>cc.block _ (by
   rw[hb']at ha
   cases ha
   exact(hne hW (by decide)).symm)
  refine⟨⟨hold,cc.below hb2 hold,r',_,hW4,hO4,?_,by omega⟩,?_⟩
  ·intro a ha
   rw[hb']at ha
   cases ha
   exact hbb
  ·intro k T cs hk h1 h2
   exact cc.blk (hkeep hk h2) h1
theorem zoR(h:WtS w0 w b f bd room n){x:Int}(hr:room<=4611686018427387904)(hn:(n+1)*4<=140737488355328)(hR:∀w',WtS w0 w' b f bd (room+1) (n+1)->Oth b w w'->R (.tuple #[]) w') :
  cR 172 #[.pointer (some (blk b)),.int .u32 x] w R:=by
 refine za.of (zg1 (some (blk b)) x R w ?_) λ_ _ h=>h
 obtain⟨r,xs,hW,hO,hF,hrl⟩:=h.own
 refine zj rfl (hW.rS (n:=9) (x:=r) rfl ?_)
 refine zn λw1 hB1 b1 z1=>?_
 refine(h.step b1).app hB1 (m:=1) rfl (by simp[Value.oneCell']) (by omega) hn (hW.below b1) (hO.below b1) hF hrl λr' w2 hW2 hfin=>?_
 refine zj rfl ⟨hW2.wr (n:=9) (by simp),Nw.gen λw3 e3=>?_⟩
 have c3:Chg b w2 w3:=by rw[e3];exact Chg.set _ _ _ _
 have hW3:Blk w3 b 228 (wrV f bd r' room):=by rw[e3];exact hW2.set 9 _
 clear e3
 refine zj rfl (hW3.rI (n:=10) rfl (zj rfl ⟨hW3.wr (n:=10) (by simp),Nw.mk ?_⟩))
 have e:IntKind.i64.wrap ((room:Int)+1)=((room+1:Nat):Int):=by rw[zq (by omega) (by omega)];omega
 rw[e]
 obtain⟨k1,k2⟩:=hfin (room+1) _ (c3.trans (Chg.set b 10 w3 (.int .i64 ((room+1:Nat):Int)))) (hW3.set 10 _)
 exact hR _ k1 ((Oth.below b1).trans k2)
theorem zrZ{x bd:Int}(hR:R (.int .i64 (if x=0 then 43 else if bd<=x then 43 else 0)) w):cR 173 #[.int .u32 x,.int .u32 bd] w R:=by
 refine za.of (zme x bd R w ?_) λ_ _ h=>h
 refine zm (λe=>by rwa[if_pos e]at hR) (λe=>?_)
 rw[if_neg e]at hR
 exact zf (λh=>by rwa[if_pos h]at hR) (λh=>by rwa[if_neg h]at hR)
theorem zmC(h:WtS w0 w b f bd room n){must:Bool}{x e:Int}(hr:room<=4611686018427387904)(hn:(n+1)*4<=140737488355328)
  (hR:∀w' room' n',WtS w0 w' b f bd room' n'->room'<=room+1->n'<=n+1->(idP must x bd e=0->e≠0->room'=room+must.toNat/\n'=n+must.toNat)->R (.int .i64 (idP must x bd e)) w') :
  cR 148 #[.pointer (some (blk b)),.bool must,.int .u32 x,.int .i64 e] w R:=by
 refine za.of (zf0 (some (blk b)) must x e R w ?_) λ_ _ h=>h
 unfold idP at hR
 refine zF (zo (λhm=>?_) (λhm=>?_))
 ·have hm:must=(x !=0):=eq_of_beq hm
  rw[if_pos hm]at hR
  refine zF (zo (λht=>?_) (λhf=>?_))
  ·refine zoR h hr hn λw1 h1 _=>⟨rfl,?_⟩
   obtain⟨r,xs,hW,_⟩:=h1.own
   refine zj rfl (hW.rI (n:=8) rfl ?_)
   refine zrZ ⟨_,rfl,?_⟩
   have hx:x≠0:=by rw[ht]at hm;exact bne_iff_ne.1 hm.symm
   rw[if_neg hx]
   have:=hR w1 (room+1) (n+1) h1 (Nat.le_refl _) (Nat.le_refl _) (λ_ _=>by rw[ht];exact⟨rfl,rfl⟩)
   simpa[ht] using this
  ·have:=hR w room n h (by omega) (by omega) (λ_ _=>by rw[hf];exact⟨rfl,rfl⟩)
   simpa[hf] using this
 ·have hm:¬must=(x !=0):=λh=>by rw[h]at hm;simp at hm
  have:=hR w room n h (by omega) (by omega) (λh0 he=>by rw[if_neg hm]at h0;exact absurd h0 he)
  rwa[if_neg hm]at this
theorem zr3(h:WtS w0 w b f bd room n){s:ByteArray}(hs:s.size<=9223372036854775807)(hr:room<=4611686018427387904)(hn:(n+65535)*4<=140737488355328)
  (hR:∀w' room' n',WtS w0 w' b f bd room' n'->Oth b w w'->(nul s=false->room'=room+(s.size / 4+1)/\(n'=n+(s.size / 4+1)\/65535<s.size / 4+1)/\n'<=n+65535)->R (.int .i64 (if nul s=true then 13 else 0)) w') :
  cR 175 #[.pointer (some (blk b)),.string s] w R:=by
 refine za.of (zf1 (some (blk b)) s R w ?_) λ_ _ h=>h
 refine zlf λi hi=>⟨_,rfl,?_⟩
 refine zf (λh0=>?_) (λh0=>?_)
 ·have hnul:=hi.1 h0
  have:=hR w room n h (Oth.refl _ _) (λh=>by rw[hnul]at h;cases h)
  rwa[if_pos hnul]at this
 ·have hnul:nul s=false:=by
   rw[<-Bool.not_eq_true]
   exact λhn=>h0 (hi.2 hn)
  rw[if_neg (by rw[hnul];simp)]at hR
  have hdiv:s.size / 4<=2305843009213693951:=by omega
  refine znX hs hnul (λhgt=>⟨⟨none,0,0⟩,_,rfl,?_⟩) (λhle c ys w2 hc hB2 hyl b2=>⟨⟨some (blk c),s.size / 4+1,s.size / 4+1⟩,_,rfl,?_⟩)
  ·refine zD rfl ?_
   obtain⟨r,xs,hW,hO,hF,hrl⟩:=h.own
   have hW1:=hW.drew
   refine zj rfl (hW1.rI (n:=10) rfl ?_)
   refine zjE hs ⟨_,rfl,hW1.cell (n:=10) rfl,zj rfl ⟨hW1.wr (n:=10) (by simp),Nw.mk ?_⟩⟩
   have e:IntKind.i64.wrap ((room:Int)+((s.size / 4+1:Nat):Int))=((room+(s.size / 4+1):Nat):Int):=by
    generalize s.size / 4=q at hdiv
    rw[zq (by omega) (by omega)]
    omega
   rw[e]
   have cc:=Chg.set b 10 w.drew (.int .i64 ((room+(s.size / 4+1):Nat):Int))
   refine hR _ (room+(s.size / 4+1)) n ⟨h.old,cc.below h.below.drew h.old,r,xs,hW1.set 10 _,hO.drew.of_block λa ha=>cc.block _ ?_,hF,hrl⟩ (λk T cs hk h1 _=>cc.blk hk.drew h1) (λ_=>⟨rfl,.inr hgt,by omega⟩)
   obtain⟨cs',hc⟩:=hO.type ha
   exact hc.apart hW (by decide)
  ·refine zE rfl ?_
   have h2:=h.step b2
   obtain⟨r,xs,hW,hO,hF,hrl⟩:=h2.own
   refine zj rfl (hW.rS (n:=9) (x:=r) rfl ?_)
   refine h2.app hB2 (m:=s.size / 4+1) (by rw[List.length_map];exact hyl) (by simp[Value.oneCell']) (by omega) (by omega) hW hO hF hrl λr' w3 hW3 hfin=>?_
   refine zj rfl ⟨hW3.wr (n:=9) (by simp),Nw.gen λw4 e4=>?_⟩
   have c4:Chg b w3 w4:=by rw[e4];exact Chg.set _ _ _ _
   have hW4:Blk w4 b 228 (wrV f bd r' room):=by rw[e4];exact hW3.set 9 _
   clear e4
   refine zj rfl (hW4.rI (n:=10) rfl (zj rfl ⟨hW4.wr (n:=10) (by simp),Nw.mk ?_⟩))
   have e:IntKind.i64.wrap ((room:Int)+((s.size / 4+1:Nat):Int))=((room+(s.size / 4+1):Nat):Int):=by
    generalize s.size / 4=q at hdiv
    rw[zq (by omega) (by omega)]
    omega
   dsimp only
   rw[e]
   obtain⟨k1,k2⟩:=hfin (room+(s.size / 4+1)) _ (c4.trans (Chg.set b 10 w4 (.int .i64 ((room+(s.size / 4+1):Nat):Int)))) (hW4.set 10 _)
   exact hR _ _ _ k1 ((Oth.below b2).trans k2) (λ_=>⟨rfl,.inl rfl,by omega⟩)
end
theorem znV{op:Int}{i:Nat}{w:World}{R:VWP}(hi:i<=9223372036854775807)(hR:∀w',Below w.heap.size w w'->R (.int .u8 (letP (flOf op) i:Int)) w') :
  cR 174 #[.int .u16 op,.int .i64 (i:Int)] w R:=by
 refine za.of (zgQ op i R w ?_) λ_ _ h=>h
 have hg:=lOk (zjb op)
 have hfm:=fmIs op
 refine zjf λw1 b1=>⟨fmO op (frm op),(frm op).isSome,rfl,?_⟩
 refine box8 rfl λw2 hB b2 z2=>?_
 have hB:Blk w2 w1.heap.size 187 (fmV (fmO op (frm op))):=hB
 refine Fm.load hB ?_
 exact zk0 hfm hg hi λw3 b3=>⟨_,rfl,hR w3 ((b1.on b2).on b3)⟩
theorem zpS{c n:Int}{w:World}{R:VWP}(hR:∀w',Below w.heap.size w w'->R (.int .i64 (if zca c n=false then 31 else 0)) w') :
  cR 176 #[.int .u8 c,.int .u32 n] w R:=by
 refine za.of (zjJ c n R w ?_) λ_ _ h=>h
 refine zqK λs w1 b1=>⟨s,_,rfl,?_⟩
 have:=hR w1 b1
 refine zF (zo (λh=>?_) (λh=>?_))
 ·rwa[if_neg (by rw[h];simp)]at this
 ·rwa[if_pos h]at this
section
variable {w0 w:World} {b:Nat} {f:Fm} {bd:Int} {room n:Nat} {R:VWP}
theorem zrG(h:WtS w0 w b f bd room n){k:Nat}(hk:k<=9223372036854775807){a:Ag}(hs:a.2.2.size<=9223372036854775807)(hr:room<=4611686018427387904)(hn:(n+65535)*4<=140737488355328)
  (hR:∀w' room' n',WtS w0 w' b f bd room' n'->(zb4 (letP (flOf f.1) k:Int) a bd=0->room'=room+cost a/\(n'=n+cost a\/65535<cost a)/\n'<=n+(if a.1=3 then 65535 else 1))->R (.int .i64 (zb4 (letP (flOf f.1) k:Int) a bd)) w') :
  cR 149 #[.pointer (some (blk b)),.int .i64 (k:Int),.agg #[.int .u8 a.1,.int .u32 a.2.1,.string a.2.2]] w R:=by
 refine za.of (zg0 (some (blk b)) k (a.1,a.2.1,a.2.2,()) R w ?_) λ_ _ h=>h
 refine zn λw1 hA1 b1 z1=>?_
 have hA1:Blk w1 w.heap.size 136 [.int .u8 a.1,.int .u32 a.2.1,.string a.2.2]:=hA1
 have h1:=h.step b1
 obtain⟨r1,xs1,hW1,_⟩:=h1.own
 refine zj rfl (hW1.rI0 rfl ?_)
 refine znV hk λw2 b2=>⟨_,rfl,?_⟩
 generalize letP (flOf f.1) k=c at hR
 have hA2:=hA1.below b2
 have h2:=h1.step b2
 refine hA2.rI0 rfl ?_
 have hbne:w.heap.size≠b:=by
  obtain⟨r,xs,hW,_⟩:=h.own
  have:=hW.lt
  omega
 have key:zb4 (c:Int) a bd=if (c:Int)=0\/a.1≠ZI c then 42 else if (a.1=3/\a.2.1≠0)\/(a.1≠3/\a.2.2.size≠0) then 42
   else if a.1=1/\(a.2.1=0\/bd<=a.2.1) then 43 else if a.1=4/\zca c a.2.1=false then 31 else if nul a.2.2=true then 13 else 0:=rfl
 refine zl.cut (λ_ w'=>WtS w0 w' b f bd room n/\Blk w' w.heap.size 136 [.int .u8 a.1,.int .u32 a.2.1,.string a.2.2]/\¬((c:Int)=0\/a.1≠ZI c)/\a.1≠3/\a.2.2.size=0) ?_ ?_
 ·refine zm (λe=>?_) (λe=>?_)
  ·have:=hR w2.drew room n h2.drew (λh=>by rw[key,if_pos (.inl e)]at h;cases h)
   rwa[key,if_pos (.inl e)]at this
  ·refine hA2.drew.rI0 rfl ?_
   refine zms ⟨_,rfl,hA2.drew.cell0 rfl,?_⟩
   refine zt (λe2=>?_) (λe2=>?_)
   ·have:=hR w2.drew room n h2.drew (λh=>by rw[key,if_pos (.inr e2)]at h;cases h)
    rwa[key,if_pos (.inr e2)]at this
   ·have hno:¬((c:Int)=0\/a.1≠ZI c):=λh=>h.elim e (λh=>h e2)
    rw[if_neg hno]at key
    refine zm (λe3=>?_) (λe3=>?_)
    ·refine hA2.drew.rI (n:=1) rfl (zt (λe4=>?_) (λe4=>?_))
     ·have:=hR w2.drew room n h2.drew (λh=>by rw[key,if_pos (.inl ⟨e3,e4⟩)]at h;cases h)
      rwa[key,if_pos (.inl ⟨e3,e4⟩)]at this
     ·refine zF (zm (λ_=>zm (λ_=>?_) (λh=>absurd e3 h)) (λh=>absurd e3 h))
      refine hA2.drew.rT (n:=2) rfl ?_
      have e3':a.1=3:=e3
      rw[if_neg (λh=>h.elim (λh=>h.2 e4) (λh=>h.1 e3)),if_neg (λh=>by have:=h.1;omega),if_neg (λh=>by have:=h.1;omega)]at key
      refine zr3 h2.drew hs hr hn λw3 room' n' h3 _ hrn=>⟨_,rfl,?_⟩
      have:=hR w3 room' n' h3 (λh0=>by
       have hnul:nul a.2.2=false:=by
        rw[key]at h0
        split at h0
        ·cases h0
        ·rename_i hh;simpa using hh
       obtain⟨g1,g2,g3⟩:=hrn hnul
       unfold cost
       rw[if_pos e3',if_pos e3']
       exact⟨g1,g2,g3⟩)
      rwa[key]at this
    ·refine zF (zm (λh=>absurd h e3) (λ_=>?_))
     refine hA2.drew.rT (n:=2) rfl ?_
     rw[zkv]
     refine zF (zf (λe5=>?_) (λe5=>?_))
     ·exact zm (λh=>absurd h e3) (λ_=>⟨h2.drew,hA2.drew,hno,e3,e5⟩)
     ·have:=hR w2.drew room n h2.drew (λh=>by rw[key,if_pos (.inr ⟨e3,e5⟩)]at h;cases h)
      rwa[key,if_pos (.inr ⟨e3,e5⟩)]at this
 ·rintro _ w3 ⟨h3,hA3,hno,hn3,hsz⟩
  have hnul:nul a.2.2=false:=by
   unfold nul
   have:a.2.2.data.toList=[]:=List.eq_nil_of_length_eq_zero (by rw[Array.length_toList];exact hsz)
   rw[this]
   rfl
  rw[if_neg hno,if_neg (λh=>h.elim (λh=>hn3 h.1) (λh=>h.2 hsz)),hnul]at key
  simp only[Bool.false_eq_true,if_false]at key
  have hcost:cost a=1:=by unfold cost;rw[if_neg hn3]
  refine hA3.rI (n:=1) rfl ?_
  refine zoR h3 hr (by omega) λw4 h4 o4=>⟨rfl,?_⟩
  have hA4:=o4 _ _ _ hA3 hbne (by decide)
  have fin:∀w',Below w4.heap.size w4 w'->R (.int .i64 (zb4 c a bd)) w':=λw' hb=>hR w' (room+1) (n+1) (h4.step hb) (λ_=>by rw[hcost,if_neg hn3];exact⟨rfl,.inl rfl,Nat.le_refl _⟩)
  refine hA4.rI0 rfl (zm (λe1=>?_) (λe1=>?_))
  ·refine hA4.drew.rI (n:=1) rfl ?_
   obtain⟨r,xs,hW,_⟩:=h4.own
   refine zj rfl (hW.drew.rI (n:=8) rfl ?_)
   refine zrZ ⟨_,rfl,?_⟩
   have:=fin w4.drew (Below.refl _ _).drew
   have e1':a.1=1:=e1
   have ev:zb4 c a bd=if a.2.1=0 then 43 else if bd<=a.2.1 then 43 else 0:=by
    rw[key]
    by_cases x1:a.2.1=0
    ·rw[if_pos ⟨e1',.inl x1⟩,if_pos x1]
    ·rw[if_neg x1]
     by_cases x2:bd<=a.2.1
     ·rw[if_pos ⟨e1',.inr x2⟩,if_pos x2]
     ·rw[if_neg (λh=>h.2.elim x1 x2),if_neg (λh=>by have:=h.1;omega),if_neg x2]
   rwa[ev]at this
  ·rw[if_neg (λh=>e1 h.1)]at key
   refine zm (λe4=>?_) (λe4=>?_)
   ·refine hA4.rI (n:=1) rfl ?_
    refine zpS λw5 b5=>⟨_,rfl,?_⟩
    have:=fin w5 b5
    have e4':a.1=4:=e4
    have ev:zb4 c a bd=if zca c a.2.1=false then 31 else 0:=by
     rw[key]
     by_cases x1:zca c a.2.1=false
     ·rw[if_pos ⟨e4',x1⟩,if_pos x1]
     ·rw[if_neg (λh=>x1 h.2),if_neg x1]
    rwa[ev]at this
   ·have:=fin w4 (Below.refl _ _)
    rwa[key,if_neg (λh=>e4 h.1)]at this
end
theorem zqs{f:Fm}{s:Sl}{al:List Ag}{w:World}{R:VWP}(hI:IsAg w s al)(h24:24*al.length<=140737488351232)
  (hR:∀w',Below w.heap.size w w'->R (.int .i64 (if (fitP f.1 (al.map (·.1))).2=true then 0 else 42)) w'):cR 150 #[fmA f,.slice s.a s.l s.c] w R:=by
 refine za.of (zjK f s R w ?_) λ_ _ h=>h
 refine zn λw1 hB b1 z1=>?_
 have hB:Blk w1 w.heap.size 187 (fmV f):=hB
 have hlen:=hI.len
 refine zk.countSl al.length hI.bound (λk r w'=>Own w' 5 1 r ((al.take k).map λa=>Value.int .u8 a.1)/\zz w1.heap.size r/\Below w1.heap.size w1 w') ⟨Own.nil _ _ _,λa ha=>by(cases ha),Below.refl _ _⟩ ?_
 rintro k r w2 hk ⟨hO,hF,hb⟩ next hnext
 have hb0:=b1.on hb
 have hI2:=hI.below hb0
 refine zf (λh=>?_) (λh=>?_)
 ·have hlt:k<al.length:=by dsimp only at h;omega
  refine zir hI2 hlt ?_
  refine box3 rfl λw3 h3 b3 z3=>?_
  refine h3.rI0 rfl ?_
  refine zn λw4 h4 b4 z4=>?_
  have hrl:r.l=k:=by have:=hO.1;simp[Nat.min_eq_left hk]at this;omega
  refine y8 eU8 ((hO.below b3).below b4) ((hb.on b3).on b4) hF (v:=.int .u8 al[k].1) rfl h4 (by omega) (by omega) λr' w5 h5 b5 F5=>?_
  refine hnext r' w5 hlt ⟨?_,F5,b5⟩
  rw[List.take_succ_eq_append_getElem hlt,List.map_append]
  exact h5
 ·have hk:k=al.length:=by dsimp only at h;omega
  subst hk
  rw[List.take_length]at hO
  have hB2:=hB.below hb
  refine hB2.rI0 rfl ?_
  have hO':Own w2 5 1 r ((al.map (·.1)).map (Value.int .u8)):=by rw[List.map_map];exact hO
  refine zmq hO'.isS λw3 b3=>⟨_,_,rfl,?_⟩
  have:=hR w3 (hb0.on b3)
  refine zF (zo (λh=>by rwa[if_pos h]at this) (λh=>by rwa[if_neg (by rw[h];simp)]at this))
end Go.Proofs
